/- gossip: Unpack walked. -/
import Derived.Test.YtijpfhgcdncmhaaGF
namespace Go.Proofs.Ytijpfhgcdncmhaa
open Go.RowKit Go.HL
set_option linter.unusedVariables false
set_option linter.unusedSimpArgs false

def zpk : List Value := [.int .u8 0, .int .u32 0, .int .u32 0, .slice none 0 0]
/-- What lies where, in the midst of Unpack. -/
structure Ust (w W : World) (B R V P : Nat) (A : Option Addr) (n c : Nat) (i : Nat) (e : Int) (pc : List Value) : Prop where
  b : Below w.heap.size w W
  z : Blk W B 26 zpk
  r : Blk W R 50 (rdr A n c i e)
  v : Blk W V 48 [.pointer (some ⟨R, 0, none⟩)]
  p : Blk W P 26 pc
structure Four (w : World) (B R V P : Nat) : Prop where
  b : w.heap.size ≤ B
  r : B < R
  v : R < V
  p : V < P
theorem Ust.rd {w W W' : World} {B R V P : Nat} {A : Option Addr} {n c i i' : Nat} {e e' : Int} {pc : List Value} (h : Ust w W B R V P A n c i e pc) (hF : Four w B R V P) (hg : W.grownBy W' (some R)) (hB : Blk W' R 50 (rdr A n c i' e')) : Ust w W' B R V P A n c i' e' pc := by
  have h1 := hF.b
  have h2 := hF.r
  have h3 := hF.v
  have h4 := hF.p
  exact ⟨h.b.grown hg h.b.size (fun k hk => by cases hk; omega), h.z.grown hg (by simp; omega), hB, h.v.grown hg (by simp; omega), h.p.grown hg (by simp; omega)⟩
theorem Ust.grow {w W W' : World} {B R V P : Nat} {A : Option Addr} {n c i : Nat} {e : Int} {pc : List Value} (h : Ust w W B R V P A n c i e pc) (hb : Below W.heap.size W W') : Ust w W' B R V P A n c i e pc :=
  ⟨below_trans h.b hb, h.z.below hb, h.r.below hb, h.v.below hb, h.p.below hb⟩
theorem Ust.pk {w W : World} {B R V P : Nat} {A : Option Addr} {n c i : Nat} {e : Int} {pc : List Value} (h : Ust w W B R V P A n c i e pc) (hF : Four w B R V P) (j : Nat) (u : Value) : Ust w (W.setCell ⟨P, j, none⟩ u) B R V P A n c i e (pc.set j u) := by
  have h1 := hF.b
  have h2 := hF.r
  have h3 := hF.v
  have h4 := hF.p
  have hg := grown_set W ⟨P, j, none⟩ u
  exact ⟨h.b.grown hg h.b.size (fun k hk => by cases hk; show w.heap.size ≤ P; omega), h.z.grown hg (by simp; omega), h.r.grown hg (by simp; omega), h.v.grown hg (by simp; omega), h.p.set j u⟩
def zmb : List Value := [.int .u32 0, .int .u32 0, .int .u8 0, .string ⟨#[]⟩]
/-- Three numbers are read, a member is made: what is done of it. -/
structure J15 (w0 : World) (R gm : Nat) (A : Option Addr) (n c i i1 i2 i3 : Nat) (e1 e2 e3 : Int) (m : Mb) (d0 d1 d2 d3 d4 : Bool) (W : World) : Prop where
  g : w0.grownBy W (some R)
  sz : W.heap.size = w0.heap.size + (if d3 then 1 else 0)
  o1 : d1 = true → d0 = true
  o2 : d2 = true → d1 = true
  r : Blk W R 50 (rdr A n c (if d2 then i3 else if d1 then i2 else if d0 then i1 else i) (if d2 then e3 else if d1 then e2 else if d0 then e1 else 0))
  m : d3 = true → Blk W gm 41 (if d4 then m.cells else zmb)
def I15 (w0 : World) (R gm : Nat) (A : Option Addr) (n c i i1 i2 i3 : Nat) (e1 e2 e3 : Int) (m : Mb) : List Bool → World → Prop
  | [d0, d1, d2, d3, d4], W => J15 w0 R gm A n c i i1 i2 i3 e1 e2 e3 m d0 d1 d2 d3 d4 W
  | _, _ => False
section
variable {w0 W W' : World} {R gm : Nat} {A : Option Addr} {n c i i1 i2 i3 : Nat} {e1 e2 e3 : Int} {m : Mb} {d0 d1 d2 d3 d4 : Bool}
theorem J15.n1 (h : J15 w0 R gm A n c i i1 i2 i3 e1 e2 e3 m d0 d1 d2 d3 d4 W) (h0 : d0 = false) : d1 = false ∧ d2 = false := by
  cases hd1 : d1 with
  | true => have := h.o1 hd1; rw [h0] at this; cases this
  | false =>
    cases hd2 : d2 with
    | true => have := h.o2 hd2; rw [hd1] at this; cases this
    | false => exact ⟨rfl, rfl⟩
theorem J15.n2 (h : J15 w0 R gm A n c i i1 i2 i3 e1 e2 e3 m d0 d1 d2 d3 d4 W) (h1 : d1 = false) : d2 = false := by
  cases hd2 : d2 with
  | true => have := h.o2 hd2; rw [h1] at this; cases this
  | false => rfl
theorem J15.r0 (h : J15 w0 R gm A n c i i1 i2 i3 e1 e2 e3 m d0 d1 d2 d3 d4 W) (h0 : d0 = false) : Blk W R 50 (rdr A n c i 0) := by
  obtain ⟨h1, h2⟩ := h.n1 h0
  have := h.r
  rw [h0, h1, h2] at this
  exact this
theorem J15.r1 (h : J15 w0 R gm A n c i i1 i2 i3 e1 e2 e3 m d0 d1 d2 d3 d4 W) (h0 : d0 = true) (h1 : d1 = false) : Blk W R 50 (rdr A n c i1 e1) := by
  have h2 := h.n2 h1
  have := h.r
  rw [h0, h1, h2] at this
  exact this
theorem J15.r2 (h : J15 w0 R gm A n c i i1 i2 i3 e1 e2 e3 m d0 d1 d2 d3 d4 W) (h1 : d1 = true) (h2 : d2 = false) : Blk W R 50 (rdr A n c i2 e2) := by
  have := h.r
  rw [h1, h2] at this
  exact this
theorem J15.s0 (h : J15 w0 R gm A n c i i1 i2 i3 e1 e2 e3 m d0 d1 d2 d3 d4 W) (hgm : gm ≠ R) (h0 : d0 = false) (hg : W.grownBy W' (some R)) (hs : W'.heap.size = W.heap.size) (hB : Blk W' R 50 (rdr A n c i1 e1)) : J15 w0 R gm A n c i i1 i2 i3 e1 e2 e3 m true d1 d2 d3 d4 W' := by
  obtain ⟨h1, h2⟩ := h.n1 h0
  exact ⟨h.g.trans hg, by rw [hs]; exact h.sz, fun _ => rfl, h.o2, by rw [h1, h2]; exact hB, fun h3 => (h.m h3).grown hg (by simpa using hgm)⟩
theorem J15.s1 (h : J15 w0 R gm A n c i i1 i2 i3 e1 e2 e3 m d0 d1 d2 d3 d4 W) (hgm : gm ≠ R) (h0 : d0 = true) (h1 : d1 = false) (hg : W.grownBy W' (some R)) (hs : W'.heap.size = W.heap.size) (hB : Blk W' R 50 (rdr A n c i2 e2)) : J15 w0 R gm A n c i i1 i2 i3 e1 e2 e3 m d0 true d2 d3 d4 W' := by
  have h2 := h.n2 h1
  exact ⟨h.g.trans hg, by rw [hs]; exact h.sz, fun _ => h0, fun _ => rfl, by rw [h2]; exact hB, fun h3 => (h.m h3).grown hg (by simpa using hgm)⟩
theorem J15.s2 (h : J15 w0 R gm A n c i i1 i2 i3 e1 e2 e3 m d0 d1 d2 d3 d4 W) (hgm : gm ≠ R) (h1 : d1 = true) (h2 : d2 = false) (hg : W.grownBy W' (some R)) (hs : W'.heap.size = W.heap.size) (hB : Blk W' R 50 (rdr A n c i3 e3)) : J15 w0 R gm A n c i i1 i2 i3 e1 e2 e3 m d0 d1 true d3 d4 W' :=
  ⟨h.g.trans hg, by rw [hs]; exact h.sz, h.o1, fun _ => h1, hB, fun h3 => (h.m h3).grown hg (by simpa using hgm)⟩
theorem J15.s3 (h : J15 w0 R gm A n c i i1 i2 i3 e1 e2 e3 m d0 d1 d2 d3 d4 W) (hgm : gm ≠ R) (hgm0 : w0.heap.size = gm) (h3 : d3 = false) (h4 : d4 = false) : J15 w0 R gm A n c i i1 i2 i3 e1 e2 e3 m d0 d1 d2 true d4 (W.alloc (.cells zmb.toArray 41)) := by
  have hsz := h.sz
  rw [h3] at hsz
  have hsz' : W.heap.size = gm := by rw [hsz, hgm0]; rfl
  have hb := below_new W (.cells zmb.toArray 41)
  have hg : W.grownBy (W.alloc (.cells zmb.toArray 41)) (some R) := ⟨hb.os, hb.tape, hb.output, hb.size, fun k hk _ => hb.block k hk⟩
  refine ⟨h.g.trans hg, by rw [World.size_alloc, hsz]; rfl, h.o1, h.o2, h.r.alloc _, fun _ => ?_⟩
  rw [h4]
  have := Blk.new W 41 zmb.toArray
  rw [hsz'] at this
  exact this
theorem J15.s4 (h : J15 w0 R gm A n c i i1 i2 i3 e1 e2 e3 m d0 d1 d2 d3 d4 W) (hgm : gm ≠ R) (hgm0 : w0.heap.size = gm) (h3 : d3 = true) (h4 : d4 = false) : J15 w0 R gm A n c i i1 i2 i3 e1 e2 e3 m d0 d1 d2 d3 true (W.setRow gm m.cells.toArray) := by
  have hg := grown_row W gm m.cells.toArray
  have h0 := h.g
  refine ⟨⟨hg.os.trans h0.os, hg.tape.trans h0.tape, hg.output.trans h0.output, Nat.le_trans h0.size hg.size, fun k hk hne => ?_⟩, ?_, h.o1, h.o2, h.r.grown hg (by simpa using Ne.symm hgm), fun _ => ?_⟩
  · rw [hg.block k (Nat.lt_of_lt_of_le hk h0.size) (by simp; omega)]
    exact h0.block k hk hne
  · rw [← h.sz]; simp [World.setRow]
  · have := h.m h3
    exact this.row m.cells.toArray
end
def I21 (w0 : World) (gm : Nat) (S : ByteArray) : List Bool → World → Prop
  | [d], W => W = if d then w0.drew.setCell ⟨gm, 3, none⟩ (.string S) else w0.drew
  | _, _ => False
def I26 (w0 : World) (B : Nat) : List Bool → World → Prop
  | [d], W => W = if d then w0.drew.setRow B zpk.toArray else w0.drew
  | _, _ => False
theorem I26.at {w0 W : World} {B g : Nat} {t : TypeId} {cs : List Value} {d : Bool} (hI : I26 w0 B [d] W) (h : Blk w0 g t cs) (hne : g ≠ B) : Blk W g t cs := by
  have hW : W = if d then w0.drew.setRow B zpk.toArray else w0.drew := hI
  subst hW
  have h1 : Blk w0.drew g t cs := h
  cases d with
  | true => exact h1.grown (grown_row _ B zpk.toArray) (by simpa using hne)
  | false => exact h1
theorem own_low2 {W W' : World} {base m s b : Nat} {e : TypeId} {v : Value} {x : List Value} (h : W.ownsRow base e s v m x) (hb : b < base) (hg : W.grownBy W' (some b)) : W'.ownsRow base e s v m x :=
  h.kept hg (by
    cases hv : v.ownBlock with
    | none => simp
    | some k => right; intro h2; have h3 := (h.lt k hv).1; simp at h2; omega)
def cutO (A : Option Addr) (lo cap : Nat) : Option Addr := if cap = lo then A else A.map (·.add lo)
theorem Rd.cutO {w : World} {A : Option Addr} {n c : Nat} {l : List UInt8} (h : Rd w 1 A n c (bs l)) (lo k : Nat) (h1 : lo + k ≤ n) : Rd w 1 (cutO A lo c) k (c - lo) (bs ((l.drop lo).take k)) := by
  have hle := h.le
  have hl := h.blen
  unfold Go.Proofs.Ytijpfhgcdncmhaa.cutO
  cases A with
  | none =>
    obtain ⟨h2, h3⟩ := h.nil_ rfl
    obtain rfl : k = 0 := by omega
    rw [List.take_zero, bs_nil, show c - lo = 0 by omega]
    split <;> exact Rd.nil w 1
  | some ad =>
    split
    · rename_i hc
      obtain rfl : k = 0 := by omega
      rw [List.take_zero, bs_nil, show c - lo = 0 by omega]
      exact Rd.empty w 1 ad 0
    · have := h.bcut lo (lo + k) (by omega) h1
      rwa [show lo + k - lo = k by omega] at this
theorem own_ne {W W' : World} {base m s b : Nat} {e : TypeId} {v : Value} {x : List Value} (h : W.ownsRow base e s v m x) (hb : ∀ k, v.ownBlock = some k → k ≠ b) (hg : W.grownBy W' (some b)) : W'.ownsRow base e s v m x :=
  h.kept hg (by
    cases hv : v.ownBlock with
    | none => simp
    | some k => right; intro h2; simp at h2; exact hb k hv h2)
theorem step_ok {l : List UInt8} {Q j i i' : Nat} {X : List Mb} {m : Mb} (hlt : j < Q) (h : rumE l i = 0) (hm : m = rumM l i) (hi : i' = rumN l i) (HQ : Hid (rums l Q 10 = (X ++ (rums l (Q - j) i).1, (rums l (Q - j) i).2))) :
    Hid (rums l Q 10 = (X ++ [m] ++ (rums l (Q - (j + 1)) i').1, (rums l (Q - (j + 1)) i').2)) := by
  have h1 := HQ.out
  rw [show Q - j = (Q - (j + 1)) + 1 by omega, rums_snoc h] at h1
  apply Lib.hid
  rw [h1, hm, hi]
  simp
theorem step_no {l : List UInt8} {Q j i : Nat} {X : List Mb} (hlt : j < Q) (h : rumE l i ≠ 0) (HQ : Hid (rums l Q 10 = (X ++ (rums l (Q - j) i).1, (rums l (Q - j) i).2))) (hn : ¬ 16384 < l.length) (hd : hdE l = 0) (hq : (Q : Int) = vat 1 l 9) : unpE l = rumE l i := by
  have h1 := HQ.out
  rw [show Q - j = (Q - (j + 1)) + 1 by omega, rums_no h] at h1
  unfold unpE
  rw [if_neg hn, if_pos hd, ← hq, show ((Q : Int)).toNat = Q by omega, h1]
  dsimp only
  rw [if_neg h]
theorem Ust.low {w W W' : World} {B R V P : Nat} {A : Option Addr} {n c i : Nat} {e : Int} {pc : List Value} (h : Ust w W B R V P A n c i e pc) (hF : Four w B R V P) (hb : Below (P + 1) W W') : Ust w W' B R V P A n c i e pc := by
  have h1 := hF.b
  have h2 := hF.r
  have h3 := hF.v
  have h4 := hF.p
  have hk : ∀ {g : Nat} {t : TypeId} {cs : List Value}, Blk W g t cs → g < P + 1 → Blk W' g t cs := fun hb' hg => (hb.block _ hg).trans hb'
  exact ⟨h.b.trans ⟨hb.os, hb.tape, hb.output, hb.size, fun j hj => hb.block j (by omega)⟩, hk h.z (by omega), hk h.r (by omega), hk h.v (by omega), hk h.p (by omega)⟩
theorem info_mb : (Try.prog.info? 41).map (fun i => (i.zero, i.size, i.bytes)) = some (some (.agg #[.int .u32 0, .int .u32 0, .int .u8 0, .string ⟨#[]⟩]), 4, 32) := by kernel_rfl
theorem rd_box (w : World) (m : Mb) : Rd (w.alloc (.cells m.cells.toArray 41)) 4 (some ⟨w.heap.size, 0, none⟩) 1 1 m.cells :=
  ⟨rfl, fun h => by (cases h), Nat.le_refl _, fun ad had => by cases had; exact World.news_of_block (cs := m.cells.toArray) (t := 41) (fr := (0, 0)) (heap_alloc_new w _)⟩
def u15c (V R gm : Nat) (ma mi ms : Int) : List (Option Value) :=
  [some (.pointer (some ⟨R, 0, none⟩)),
   some (.int .u32 ma),
   some (.pointer (some ⟨R, 0, none⟩)),
   some (.int .u32 mi),
   some (.pointer (some ⟨R, 0, none⟩)),
   some (.int .u8 ms),
   some (.agg #[.int .u32 ma, .int .u32 mi, .int .u8 ms, .string ⟨#[]⟩]),
   some (.pointer (some ⟨gm, 0, none⟩)),
   none]
def u15G (V R gm : Nat) (ma mi ms : Int) : Nat → Value → World → Prop
  -- ?? 8: slot None := store 41 t9 t65 
  | _, _, _ => True
def u21c (V R gm : Nat) (A : Option Addr) (n c ri4 K : Nat) (S : ByteArray) : List (Option Value) :=
  [some (.slice A n c),
   some (.pointer (some ⟨R, 0, none⟩)),
   some (.pointer (some ⟨R, 0, none⟩)),
   some (.pointer (some ⟨R, 1, none⟩)),
   some (.int .i64 (ri4 : Int)),
   some (.pointer (some ⟨R, 0, none⟩)),
   some (.pointer (some ⟨R, 0, none⟩)),
   some (.pointer (some ⟨R, 1, none⟩)),
   some (.int .i64 (ri4 : Int)),
   some (.int .i64 (K : Int)),
   some (.int .i64 ((ri4 : Int) + (K : Int))),
   some (.slice (cutO A ri4 c) K (c - ri4)),
   some (.string S),
   some (.pointer (some ⟨gm, 3, none⟩)),
   none]
def u21G (V R gm : Nat) (A : Option Addr) (n c ri4 K : Nat) (S : ByteArray) : Nat → Value → World → Prop
  -- ?? 14: slot None := store 9 t107 t106 
  | _, _, _ => True
def u26c (V R B : Nat) (e : Int) : List (Option Value) :=
  [some (.agg #[.int .u8 0, .int .u32 0, .int .u32 0, .slice none 0 0]),
   some (.pointer (some ⟨R, 0, none⟩)),
   some (.pointer (some ⟨R, 0, none⟩)),
   some (.pointer (some ⟨R, 2, none⟩)),
   some (.int .i64 e),
   none,
   some (.int .i64 e)]
def u26G (V R B : Nat) (e : Int) : Nat → Value → World → Prop
  -- ?? 5: slot None := store 26 t2 t136 
  | _, _, _ => True
set_option maxRecDepth 100000 in
set_option maxHeartbeats 4000000 in
theorem unpack_long (w : World) (A : Option Addr) (n c : Nat) (l : List UInt8) (hr : Rd w 1 A n c (bs l)) (hn : 16384 < n) :
    Calls Try.prog 11 #[.slice A n c] w (UnpP w l) := by
  have hl := hr.blen
  have hn' : (16384 : Int) < n := by omega
  have hb0 := below_new w (.cells zpk.toArray 26)
  have k2 := Blk.new w 26 zpk.toArray
  go_enter Try.func11, Try.ntmps11
  go_wp2_with (refine wpList_put rfl 26 (.tmp 2) _ rfl w.heap.size zpk.toArray rfl rfl 26 zpk k2 sizePk rfl rfl ?_; have k4 := k2.row zpk.toArray; have k5 := hb0.grown (grown_row _ w.heap.size zpk.toArray) hb0.size (fun j hj => by cases hj; omega))
  refine bodyPost_ret (results_rec rfl _ _ _ _ _ rfl k4 Try.underlying26 rfl sizePk) rfl ?_
  exact unpP_no 2 (by unfold unpE; rw [if_pos (by omega)]) (by decide) rfl k5
set_option maxRecDepth 100000 in
set_option maxHeartbeats 4000000 in
theorem unpack_ (w : World) (A : Option Addr) (n c : Nat) (l : List UInt8) (hr : Rd w 1 A n c (bs l)) :
    Calls Try.prog 11 #[.slice A n c] w (UnpP w l) := by
  by_cases hn : 16384 < n
  · exact unpack_long w A n c l hr hn
  have hl := hr.blen
  have hn' : ¬ (16384 : Int) < n := by omega
  have hb0 := below_new w (.cells zpk.toArray 26)
  go_enter Try.func11, Try.ntmps11
  go_upto_region 5 with (fail)
  have hb0 : Below w.heap.size w (((w.alloc (.cells #[.int .u8 0, .int .u32 0, .int .u32 0, .slice none 0 0] 26)).alloc (.cells #[.slice A n c, .int .i64 0, .int .i64 0] 50)).alloc (.cells #[.pointer (some ⟨w.heap.size + 1, 0, none⟩)] 48)) := below_alloc (below_alloc (below_new w _) _) _
  have HZ : Blk (((w.alloc (.cells #[.int .u8 0, .int .u32 0, .int .u32 0, .slice none 0 0] 26)).alloc (.cells #[.slice A n c, .int .i64 0, .int .i64 0] 50)).alloc (.cells #[.pointer (some ⟨w.heap.size + 1, 0, none⟩)] 48)) w.heap.size 26 zpk := ((Blk.new w 26 #[.int .u8 0, .int .u32 0, .int .u32 0, .slice none 0 0]).alloc _).alloc _
  have HR : Blk (((w.alloc (.cells #[.int .u8 0, .int .u32 0, .int .u32 0, .slice none 0 0] 26)).alloc (.cells #[.slice A n c, .int .i64 0, .int .i64 0] 50)).alloc (.cells #[.pointer (some ⟨w.heap.size + 1, 0, none⟩)] 48)) (w.heap.size + 1) 50 (rdr A n c 0 0) := by
    have h := (Blk.new (w.alloc (.cells #[.int .u8 0, .int .u32 0, .int .u32 0, .slice none 0 0] 26)) 50 #[.slice A n c, .int .i64 0, .int .i64 0]).alloc (.cells #[.pointer (some ⟨w.heap.size + 1, 0, none⟩)] 48)
    rw [World.size_alloc] at h
    exact h
  have HV : Blk (((w.alloc (.cells #[.int .u8 0, .int .u32 0, .int .u32 0, .slice none 0 0] 26)).alloc (.cells #[.slice A n c, .int .i64 0, .int .i64 0] 50)).alloc (.cells #[.pointer (some ⟨w.heap.size + 1, 0, none⟩)] 48)) (w.heap.size + 1 + 1) 48 [.pointer (some ⟨w.heap.size + 1, 0, none⟩)] := by
    have h := Blk.new ((w.alloc (.cells #[.int .u8 0, .int .u32 0, .int .u32 0, .slice none 0 0] 26)).alloc (.cells #[.slice A n c, .int .i64 0, .int .i64 0] 50)) 48 #[.pointer (some ⟨w.heap.size + 1, 0, none⟩)]
    rw [World.size_alloc, World.size_alloc] at h
    exact h
  have hsz : (((w.alloc (.cells #[.int .u8 0, .int .u32 0, .int .u32 0, .slice none 0 0] 26)).alloc (.cells #[.slice A n c, .int .i64 0, .int .i64 0] 50)).alloc (.cells #[.pointer (some ⟨w.heap.size + 1, 0, none⟩)] 48)).heap.size = w.heap.size + 1 + 1 + 1 := by rw [World.size_alloc, World.size_alloc, World.size_alloc]
  obtain ⟨W0, hW0⟩ : ∃ W0, (((w.alloc (.cells #[.int .u8 0, .int .u32 0, .int .u32 0, .slice none 0 0] 26)).alloc (.cells #[.slice A n c, .int .i64 0, .int .i64 0] 50)).alloc (.cells #[.pointer (some ⟨w.heap.size + 1, 0, none⟩)] 48)) = W0 := ⟨_, rfl⟩
  rw [hW0] at hb0 HZ HR HV hsz ⊢
  obtain ⟨B, hB⟩ : ∃ B, w.heap.size = B := ⟨_, rfl⟩
  have hB' : w.heap.size ≤ B := by omega
  rw [hB] at HZ HR HV hsz ⊢
  obtain ⟨R, hR⟩ : ∃ R, B + 1 = R := ⟨_, rfl⟩
  rw [hR] at HR HV hsz ⊢
  obtain ⟨V, hV⟩ : ∃ V, R + 1 = V := ⟨_, rfl⟩
  rw [hV] at HV hsz ⊢
  obtain ⟨P, hP⟩ : ∃ P, V + 1 = P := ⟨_, rfl⟩
  rw [hP] at hsz
  have hF : Four w B R V P := ⟨hB', by omega, by omega, by omega⟩
  clear hW0 hB
  obtain ⟨k, i1, e1, h1⟩ : ∃ a b c, tk 1 l 0 0 = (a, b, c) := ⟨_, _, _, rfl⟩
  have T1 := gtake1 W0 R A n c l 0 0 HR (hr.below hb0) (by omega) (Nat.zero_le _)
  unfold TkP at T1
  rw [h1] at T1
  dsimp only at T1
  have g1 : i1 ≤ n := by
    have h := tk_le (k := 1) (l := l) (i := 0) (e := 0) (by omega)
    rw [h1] at h
    dsimp only at h
    omega
  have cv := HV.cell 0 _ rfl
  go_upto_region 6 with (go_at_call 23; refine T1.mono ?_; clear T1; rintro e W1 ⟨rfl, hB1, hg1, hs1⟩)
  have U1 : Ust w (W1.alloc (.cells #[.int .u8 k, .int .u32 0, .int .u32 0, .slice none 0 0] 26)) B R V P A n c i1 e1 (pkCells k 0 0 none 0 0) := by
    refine ⟨below_alloc (hb0.grown hg1 hb0.size (fun j hj => by cases hj; omega)) _, (HZ.grown hg1 (by simp; omega)).alloc _, hB1.alloc _, (HV.grown hg1 (by simp; omega)).alloc _, ?_⟩
    have h := Blk.new W1 26 #[.int .u8 k, .int .u32 0, .int .u32 0, .slice none 0 0]
    rw [hs1, hsz] at h
    exact h
  obtain ⟨X1, hX⟩ : ∃ X, W1.alloc (.cells #[.int .u8 k, .int .u32 0, .int .u32 0, .slice none 0 0] 26) = X := ⟨_, rfl⟩
  rw [hX] at U1 ⊢
  clear hX HZ HR HV hb0 hg1 hB1 hs1 cv hsz
  have M1 := must_ X1 R V A n c i1 e1 190 (headB k 0) U1.r U1.v
  unfold MustP at M1
  have c0 := U1.p.cell 0 _ rfl
  go_upto_region 7 with (first | (go_at_call 13; refine (head_ _ _ _).mono ?_; rintro e w' ⟨rfl, rfl⟩) | (go_at_call 22; refine M1.mono ?_; clear M1; rintro e X2 ⟨rfl, hB1, hg1, hs1⟩))
  have U2 := U1.rd hF hg1 hB1
  have g2 := g1
  clear U1 hB1 hg1 hs1 g1
  clear c0
  obtain ⟨s, i2, e2, h2⟩ : ∃ a b c, tk 4 l i1 (msE (headB k 0) 190 e1) = (a, b, c) := ⟨_, _, _, rfl⟩
  have T1 := gtake4 X2 R A n c l i1 (msE (headB k 0) 190 e1) U2.r (hr.below U2.b) (by omega) g2
  unfold TkP at T1
  rw [h2] at T1
  dsimp only at T1
  have g3 : i2 ≤ n := by
    have h := tk_le (k := 4) (l := l) (i := i1) (e := (msE (headB k 0) 190 e1)) (by omega)
    rw [h2] at h
    dsimp only at h
    omega
  have cv := U2.v.cell 0 _ rfl
  go_upto_region 8 with (go_at_call 24; refine T1.mono ?_; clear T1; rintro e Y3 ⟨rfl, hB1, hg1, hs1⟩; have UY := U2.rd hF hg1 hB1; have cf := UY.p.cell 1 _ rfl; have ff := UY.p.free 1)
  have U3 : Ust w (Y3.setCell ⟨P, 1, none⟩ (.int .u32 s)) B R V P A n c i2 e2 (pkCells k s 0 none 0 0) := UY.pk hF 1 (.int .u32 s)
  obtain ⟨X3, hX⟩ : ∃ X, Y3.setCell ⟨P, 1, none⟩ (.int .u32 s) = X := ⟨_, rfl⟩
  rw [hX] at U3 ⊢
  clear hX UY cf ff U2 hB1 hg1 hs1 cv g2
  obtain ⟨t, i3, e3, h3⟩ : ∃ a b c, tk 4 l i2 e2 = (a, b, c) := ⟨_, _, _, rfl⟩
  have T1 := gtake4 X3 R A n c l i2 e2 U3.r (hr.below U3.b) (by omega) g3
  unfold TkP at T1
  rw [h3] at T1
  dsimp only at T1
  have g4 : i3 ≤ n := by
    have h := tk_le (k := 4) (l := l) (i := i2) (e := e2) (by omega)
    rw [h3] at h
    dsimp only at h
    omega
  have cv := U3.v.cell 0 _ rfl
  go_upto_region 9 with (go_at_call 24; refine T1.mono ?_; clear T1; rintro e Y4 ⟨rfl, hB1, hg1, hs1⟩; have UY := U3.rd hF hg1 hB1; have cf := UY.p.cell 2 _ rfl; have ff := UY.p.free 2)
  have U4 : Ust w (Y4.setCell ⟨P, 2, none⟩ (.int .u32 t)) B R V P A n c i3 e3 (pkCells k s t none 0 0) := UY.pk hF 2 (.int .u32 t)
  obtain ⟨X4, hX⟩ : ∃ X, Y4.setCell ⟨P, 2, none⟩ (.int .u32 t) = X := ⟨_, rfl⟩
  rw [hX] at U4 ⊢
  clear hX UY cf ff U3 hB1 hg1 hs1 cv g3
  have M1 := must_ X4 R V A n c i3 e3 190 (headB k t) U4.r U4.v
  unfold MustP at M1
  have c0 := U4.p.cell 0 _ rfl
  have c2 := U4.p.cell 2 _ rfl
  go_upto_region 10 with (first | (go_at_call 13; refine (head_ _ _ _).mono ?_; rintro e w' ⟨rfl, rfl⟩) | (go_at_call 22; refine M1.mono ?_; clear M1; rintro e X5 ⟨rfl, hB1, hg1, hs1⟩))
  have U5 := U4.rd hF hg1 hB1
  have g5 := g4
  clear U4 hB1 hg1 hs1 g4
  clear c0 c2
  obtain ⟨q, i4, e4, h4⟩ : ∃ a b c, tk 1 l i3 (msE (headB k t) 190 e3) = (a, b, c) := ⟨_, _, _, rfl⟩
  have T1 := gtake1 X5 R A n c l i3 (msE (headB k t) 190 e3) U5.r (hr.below U5.b) (by omega) g5
  unfold TkP at T1
  rw [h4] at T1
  dsimp only at T1
  have g6 : i4 ≤ n := by
    have h := tk_le (k := 1) (l := l) (i := i3) (e := (msE (headB k t) 190 e3)) (by omega)
    rw [h4] at h
    dsimp only at h
    omega
  have cv := U5.v.cell 0 _ rfl
  have hq := tk_lt (k := 1) (l := l) (i := i3) (e := (msE (headB k t) 190 e3))
  rw [h4] at hq
  have q0 : 0 ≤ q := hq.1
  have q1 : q < 256 := hq.2
  clear hq
  go_upto_region 11 with (go_at_call 23; refine T1.mono ?_; clear T1; rintro e X6 ⟨rfl, hB1, hg1, hs1⟩)
  have U6 := U5.rd hF hg1 hB1
  clear U5 hB1 hg1 hs1 cv g5
  have M1 := must_ X6 R V A n c i4 e4 2 (decide (q ≤ 32)) U6.r U6.v
  unfold MustP at M1
  go_upto_region 12 with (first | (go_at_call 22; refine M1.mono ?_; clear M1; rintro e X7 ⟨rfl, hB1, hg1, hs1⟩))
  have U7 := U6.rd hF hg1 hB1
  have g7 := g6
  clear U6 hB1 hg1 hs1 g6
  obtain ⟨hE, _, _, hH⟩ := hd_chain l k s t q i1 i2 i3 i4 e1 e2 e3 e4 h1 h2 h3 h4
  rw [hE] at U7
  clear hE h1 h2 h3 h4
  obtain ⟨Q, rfl⟩ : ∃ Q : Nat, q = (Q : Int) := ⟨q.toNat, by omega⟩
  clear q1 q0
  go_wp2
  go_loopw [8, 9, 10] (fun u8 _ _ wr => ∃ (j i : Nat) (e : Int) (X : List Mb) (Ax : Option Addr) (cx : Nat), j ≤ Q ∧ u8 = .int .i64 j ∧ i ≤ n ∧ Ust w wr B R V P A n c i e (pkCells k s t Ax j cx) ∧ wr.ownsRow (P + 1) 41 4 (.slice Ax j cx) j (mbs X) ∧ ((e = 0 ∧ hdE l = 0 ∧ Hid (rums l Q 10 = (X ++ (rums l (Q - j) i).1, (rums l (Q - j) i).2))) ∨ (e ≠ 0 ∧ unpE l = e))) (fun u8 _ _ _ => Q - (intOf u8).toNat)
  case atStart =>
    refine ⟨0, i4, hdE l, [], none, 0, Nat.zero_le _, rfl, g7, U7, World.ownsRow_nil _ _ _ _, ?_⟩
    by_cases h0 : hdE l = 0
    · obtain ⟨_, _, _, _, h5⟩ := hH h0
      subst h5
      exact .inl ⟨h0, h0, rfl⟩
    · exact .inr ⟨h0, by unfold unpE; rw [if_neg (by omega), if_neg h0]⟩
  case round =>
    clear U7 g7
    obtain ⟨j, i, e, X, Ax, cx, hj, rfl, hi, HX, HOX, hcase⟩ := hrel
    have cv := HX.v.cell 0 _ rfl
    have ce := HX.r.cell 2 _ rfl
    by_cases he : e = 0
    · subst he
      obtain ⟨hd0, HQ⟩ : hdE l = 0 ∧ Hid (rums l Q 10 = (X ++ (rums l (Q - j) i).1, (rums l (Q - j) i).2)) := by
        rcases hcase with ⟨_, h1, h2⟩ | ⟨h1, _⟩
        · exact ⟨h1, h2⟩
        · exact absurd rfl h1
      clear hcase
      by_cases hlt : j < Q
      · have hlt' : (j : Int) < (Q : Int) := by omega
        have HD0 := Lib.hid hd0
        have HQ9 := Lib.hid (hH hd0).2.2.2.1
        clear hd0 hH
        have HU := HX
        clear HX
        obtain ⟨w0, rfl⟩ : ∃ x, x = wr := ⟨_, rfl⟩
        obtain ⟨ma, ri1, re1, rh1⟩ : ∃ a b c, tk 4 l i 0 = (a, b, c) := ⟨_, _, _, rfl⟩
        obtain ⟨mi, ri2, re2, rh2⟩ : ∃ a b c, tk 4 l ri1 re1 = (a, b, c) := ⟨_, _, _, rfl⟩
        obtain ⟨ms, ri3, re3, rh3⟩ : ∃ a b c, tk 1 l ri2 re2 = (a, b, c) := ⟨_, _, _, rfl⟩
        obtain ⟨mk, ri4, re4, rh4⟩ : ∃ a b c, tk 2 l ri3 (msE (decide (ms ≤ 3)) 170 re3) = (a, b, c) := ⟨_, _, _, rfl⟩
        obtain ⟨K, hK⟩ : ∃ K : Nat, mk = (K : Int) := by
          have h := tk_lt (k := 2) (l := l) (i := ri3) (e := (msE (decide (ms ≤ 3)) 170 re3))
          rw [rh4] at h
          exact ⟨mk.toNat, by have := h.1; dsimp only at this; omega⟩
        subst hK
        have hri : i ≤ n := hi
        have hri1 : ri1 ≤ n := by
          have h := tk_le (k := 4) (l := l) (i := i) (e := 0) (by omega)
          rw [rh1] at h
          dsimp only at h
          omega
        have hri2 : ri2 ≤ n := by
          have h := tk_le (k := 4) (l := l) (i := ri1) (e := re1) (by omega)
          rw [rh2] at h
          dsimp only at h
          omega
        have hri3 : ri3 ≤ n := by
          have h := tk_le (k := 1) (l := l) (i := ri2) (e := re2) (by omega)
          rw [rh3] at h
          dsimp only at h
          omega
        have hri4 : ri4 ≤ n := by
          have h := tk_le (k := 2) (l := l) (i := ri3) (e := (msE (decide (ms ≤ 3)) 170 re3)) (by omega)
          rw [rh4] at h
          dsimp only at h
          omega
        have HC := Lib.hid (rum_chain l i (by omega) ma mi ms K ri1 ri2 ri3 ri4 re1 re2 re3 re4 rh1 rh2 rh3 rh4)
        obtain ⟨gm, hgm0⟩ : ∃ g, w0.heap.size = g := ⟨_, rfl⟩
        have hgm : gm ≠ R := by have := HU.r.lt; omega
        have hgP : P + 1 ≤ gm := by have := HU.p.lt; omega
        have hRP : R < P + 1 := by have := hF.v; have := hF.p; omega
        have hAx : ∀ k, (Value.slice Ax j cx).ownBlock = some k → k ≠ gm := fun k hk => by have := (HOX.lt k hk).2; omega
        have hVR : V ≠ R := by have := hF.v; omega
        have hnn : n ≤ 140737488355328 := by omega
        have HRb : ∀ (W : World) {d1 d3 d5 d7 d8 : Bool}, J15 w0 R gm A n c i ri1 ri2 ri3 re1 re2 re3 (Mb.mk ma mi ms ⟨#[]⟩) d1 d3 d5 d7 d8 W → Rd W 1 A n c (bs l) := fun W _ _ _ _ _ hJ => hr.below (HU.b.grown hJ.g HU.b.size (fun j hj => by cases hj; have := hF.b; have := hF.r; omega))
        go_upto_region 15 with (fail)
        refine wp_region_loud (by kernel_rfl) (by kernel_rfl) ?fr_u15x1 ?hfr_u15x1 [1, 3, 5, 7, 8] (VV (u15c V R gm ma mi ms) (u15G V R gm ma mi ms)) (I15 w0 R gm A n c i ri1 ri2 ri3 re1 re2 re3 (Mb.mk ma mi ms ⟨#[]⟩)) ?h0_u15x1 ?hob_u15x1 ?hQ_u15x1 (by decide)
        case hfr_u15x1 =>
          intro xs
          simp only [fillL]
          go_simp
          exact rfl
        case h0_u15x1 =>
          exact ⟨⟨rfl, rfl, rfl, Nat.le_refl _, fun _ _ _ => rfl⟩, rfl, (fun h => by cases h), (fun h => by cases h), HU.r, (fun h => by cases h)⟩
        case hob_u15x1 =>
          refine ⟨?_, ?_, ?_, ?_, ?_, ?_, ?_, ?_, ?_, trivial⟩
          · -- 0: slot 59 := load 48 t4
            intro xs d W hd hn hI hV
            have hJ : J15 w0 R gm A n c i ri1 ri2 ri3 re1 re2 re3 (Mb.mk ma mi ms ⟨#[]⟩) (d 1) (d 3) (d 5) (d 7) (d 8) W := hI
            have cv := (HU.v.grown hJ.g (by simpa using hVR)).cell 0 _ rfl
            rw [if_neg (by decide)]
            clear hV hd hn hI
            go_simp
            exact rfl
          · -- 1: slot 60 := call { value (Operand.func 24), args := #[t59], argTypes := #[48] }
            intro xs d W hd hn hI hV
            have x0 : xs 0 = .pointer (some ⟨R, 0, none⟩) := hV 0 (hd 0 (by decide))
            rw [if_pos (by decide)]
            intro hd0
            have hJ : J15 w0 R gm A n c i ri1 ri2 ri3 re1 re2 re3 (Mb.mk ma mi ms ⟨#[]⟩) (d 1) (d 3) (d 5) (d 7) (d 8) W := hI
            have hV' := hV
    
            clear hV hn hd hI
            go_simp
            refine (gtake4 W R A n c l i 0 (hJ.r0 hd0) (HRb W hJ) hnn hri).mono ?_
            rintro e W' ⟨rfl, hB, hg, hs⟩
            rw [rh1] at hB ⊢
            exact ⟨_, rfl, hJ.s0 hgm hd0 hg hs hB, rfl, fun j hj => (hV' j hj).any (fun _ _ _ _ _ => trivial)⟩
          · -- 2: slot 61 := load 48 t4
            intro xs d W hd hn hI hV
            have hJ : J15 w0 R gm A n c i ri1 ri2 ri3 re1 re2 re3 (Mb.mk ma mi ms ⟨#[]⟩) (d 1) (d 3) (d 5) (d 7) (d 8) W := hI
            have cv := (HU.v.grown hJ.g (by simpa using hVR)).cell 0 _ rfl
            rw [if_neg (by decide)]
            clear hV hd hn hI
            go_simp
            exact rfl
          · -- 3: slot 62 := call { value (Operand.func 24), args := #[t61], argTypes := #[48] }
            intro xs d W hd hn hI hV
            have x2 : xs 2 = .pointer (some ⟨R, 0, none⟩) := hV 2 (hd 2 (by decide))
            rw [if_pos (by decide)]
            intro hd0
            have hJ : J15 w0 R gm A n c i ri1 ri2 ri3 re1 re2 re3 (Mb.mk ma mi ms ⟨#[]⟩) (d 1) (d 3) (d 5) (d 7) (d 8) W := hI
            have hV' := hV
            have hd1 : d 1 = true := hd 1 (by decide)
            clear hV hn hd hI
            go_simp
            refine (gtake4 W R A n c l ri1 re1 (hJ.r1 hd1 hd0) (HRb W hJ) hnn hri1).mono ?_
            rintro e W' ⟨rfl, hB, hg, hs⟩
            rw [rh2] at hB ⊢
            exact ⟨_, rfl, hJ.s1 hgm hd1 hd0 hg hs hB, rfl, fun j hj => (hV' j hj).any (fun _ _ _ _ _ => trivial)⟩
          · -- 4: slot 63 := load 48 t4
            intro xs d W hd hn hI hV
            have hJ : J15 w0 R gm A n c i ri1 ri2 ri3 re1 re2 re3 (Mb.mk ma mi ms ⟨#[]⟩) (d 1) (d 3) (d 5) (d 7) (d 8) W := hI
            have cv := (HU.v.grown hJ.g (by simpa using hVR)).cell 0 _ rfl
            rw [if_neg (by decide)]
            clear hV hd hn hI
            go_simp
            exact rfl
          · -- 5: slot 64 := call { value (Operand.func 23), args := #[t63], argTypes := #[48] }
            intro xs d W hd hn hI hV
            have x4 : xs 4 = .pointer (some ⟨R, 0, none⟩) := hV 4 (hd 4 (by decide))
            rw [if_pos (by decide)]
            intro hd0
            have hJ : J15 w0 R gm A n c i ri1 ri2 ri3 re1 re2 re3 (Mb.mk ma mi ms ⟨#[]⟩) (d 1) (d 3) (d 5) (d 7) (d 8) W := hI
            have hV' := hV
            have hd1 : d 3 = true := hd 3 (by decide)
            clear hV hn hd hI
            go_simp
            refine (gtake1 W R A n c l ri2 re2 (hJ.r2 hd1 hd0) (HRb W hJ) hnn hri2).mono ?_
            rintro e W' ⟨rfl, hB, hg, hs⟩
            rw [rh3] at hB ⊢
            exact ⟨_, rfl, hJ.s2 hgm hd1 hd0 hg hs hB, rfl, fun j hj => (hV' j hj).any (fun _ _ _ _ _ => trivial)⟩
          · -- 6: slot 65 := build 41 #[(0, t60), (1, t62), (2, t64)]
            intro xs d W hd hn hI hV
            have x1 : xs 1 = .int .u32 ma := hV 1 (hd 1 (by decide))
            have x3 : xs 3 = .int .u32 mi := hV 3 (hd 3 (by decide))
            have x5 : xs 5 = .int .u8 ms := hV 5 (hd 5 (by decide))
            have hJ : J15 w0 R gm A n c i ri1 ri2 ri3 re1 re2 re3 (Mb.mk ma mi ms ⟨#[]⟩) (d 1) (d 3) (d 5) (d 7) (d 8) W := hI
            have cv := (HU.v.grown hJ.g (by simpa using hVR)).cell 0 _ rfl
            rw [if_neg (by decide)]
            clear hV hd hn hI
            go_simp
            exact rfl
          · -- 7: slot 9 := alloc 41
            intro xs d W hd hn hI hV
            rw [if_pos (by decide)]
            intro hd0
            have hJ : J15 w0 R gm A n c i ri1 ri2 ri3 re1 re2 re3 (Mb.mk ma mi ms ⟨#[]⟩) (d 1) (d 3) (d 5) (d 7) (d 8) W := hI
            have hd8 : d 8 = false := hn 8 _ rfl (by decide)
            have hV' := hV
            have hsz := hJ.sz
            rw [hd0] at hsz
            have hsz' : W.heap.size = gm := by rw [hsz, hgm0]; rfl
            clear hV hn hd hI
            go_simp
            exact ⟨hJ.s3 hgm hgm0 hd0 hd8, rfl, fun j hj => (hV' j hj).any (fun _ _ _ _ _ => trivial)⟩
          · -- 8: slot None := store 41 t9 t65
            intro xs d W hd hn hI hV
            have x7 : xs 7 = .pointer (some ⟨gm, 0, none⟩) := hV 7 (hd 7 (by decide))
            have x6 : xs 6 = .agg #[.int .u32 ma, .int .u32 mi, .int .u8 ms, .string ⟨#[]⟩] := hV 6 (hd 6 (by decide))
            rw [if_pos (by decide)]
            intro hd0
            have hJ : J15 w0 R gm A n c i ri1 ri2 ri3 re1 re2 re3 (Mb.mk ma mi ms ⟨#[]⟩) (d 1) (d 3) (d 5) (d 7) (d 8) W := hI
            have hd7 : d 7 = true := hd 7 (by decide)
            have hV' := hV
            clear hV hn hd hI
            have hm := hJ.m hd7
            rw [hd0] at hm
            have hm : Blk W gm 41 zmb := hm
            refine ⟨?_, rfl⟩
            show OpGives _ _ _ _ _
            refine gives_put 41 _ _ rfl gm #[.int .u32 ma, .int .u32 mi, .int .u8 ms, .string ⟨#[]⟩] x7 x6 41 zmb hm sizeMb rfl rfl ?_
            exact ⟨hJ.s4 hgm hgm0 hd7 hd0, trivial, fun j hj => (hV' j hj).any (fun _ _ _ _ _ => trivial)⟩
        case hQ_u15x1 =>
          intro xs W hI hV
          have x0 : xs 0 = .pointer (some ⟨R, 0, none⟩) := hV 0 (by decide)
          have x1 : xs 1 = .int .u32 ma := hV 1 (by decide)
          have x2 : xs 2 = .pointer (some ⟨R, 0, none⟩) := hV 2 (by decide)
          have x3 : xs 3 = .int .u32 mi := hV 3 (by decide)
          have x4 : xs 4 = .pointer (some ⟨R, 0, none⟩) := hV 4 (by decide)
          have x5 : xs 5 = .int .u8 ms := hV 5 (by decide)
          have x6 : xs 6 = .agg #[.int .u32 ma, .int .u32 mi, .int .u8 ms, .string ⟨#[]⟩] := hV 6 (by decide)
          have x7 : xs 7 = .pointer (some ⟨gm, 0, none⟩) := hV 7 (by decide)
          have x8 : u15G V R gm ma mi ms 8 (xs 8) W := hV 8 (by decide)
          clear hV
          have HJ : J15 w0 R gm A n c i ri1 ri2 ri3 re1 re2 re3 (Mb.mk ma mi ms ⟨#[]⟩) true true true true true W := hI
          have U0 := HU.rd hF HJ.g HJ.r
          have M0 : Blk W gm 41 (Mb.mk ma mi ms ⟨#[]⟩).cells := HJ.m rfl
          have g0 := hri3
          have O0 := own_low2 HOX hRP HJ.g
          rw [x7]
          clear x0 x1 x2 x3 x4 x5 x6 x7 x8 HJ hI HU HOX HRb rh1 rh2 rh3 cv ce
          obtain ⟨X0, rfl⟩ : ∃ x, x = W := ⟨_, rfl⟩
          have cm := M0.cell 2 _ rfl
          have N1 := must_ X0 R V A n c ri3 re3 170 (decide (ms ≤ 3)) U0.r U0.v
          unfold MustP at N1
          go_upto_region 17 with (first | (go_at_call 16; refine (may_ _ _ _).mono ?_; rintro e w' ⟨rfl, rfl⟩) | (go_at_call 22; refine N1.mono ?_; clear N1; rintro e X1 ⟨rfl, hB1, hg1, hs1⟩))
          have U1 := U0.rd hF hg1 hB1
          have M1 := M0.grown hg1 (by simpa using hgm)
          have O1 := own_low2 O0 hRP hg1
          have g1 := g0
          clear U0 M0 O0 hB1 hg1 hs1 g0
          clear cm
          have K1 : (K : Int) < 65536 := HC.out.2.2.1.2
          have T1 := gtake2 X1 R A n c l ri3 (msE (decide (ms ≤ 3)) 170 re3) U1.r (hr.below U1.b) (by omega) g1
          unfold TkP at T1
          rw [rh4] at T1
          dsimp only at T1
          have g2 : ri4 ≤ n := by omega
          have cv := U1.v.cell 0 _ rfl
          go_upto_region 18 with (go_at_call 25; refine T1.mono ?_; clear T1; rintro e X2 ⟨rfl, hB1, hg1, hs1⟩)
          have U2 := U1.rd hF hg1 hB1
          have M2 := M1.grown hg1 (by simpa using hgm)
          have O2 := own_low2 O1 hRP hg1
          clear U1 M1 O1 hB1 hg1 hs1 cv g1
          have N1 := must_ X2 R V A n c ri4 re4 170 (decide ((K : Int) ≤ 400)) U2.r U2.v
          unfold MustP at N1
          go_upto_region 19 with (first | (go_at_call 16; refine (may_ _ _ _).mono ?_; rintro e w' ⟨rfl, rfl⟩) | (go_at_call 22; refine N1.mono ?_; clear N1; rintro e X3 ⟨rfl, hB1, hg1, hs1⟩))
          have U3 := U2.rd hF hg1 hB1
          have M3 := M2.grown hg1 (by simpa using hgm)
          have O3 := own_low2 O2 hRP hg1
          have g3 := g2
          clear U2 M2 O2 hB1 hg1 hs1 g2
          have N1 := must_ X3 R V A n c ri4 (msE (decide ((K : Int) ≤ 400)) 170 re4) 6 (decide ((K : Int) ≤ (n : Int) - (ri4 : Int))) U3.r U3.v
          unfold MustP at N1
          have c1 := U3.r.cell 1 _ rfl
          have cv := U3.v.cell 0 _ rfl
          go_upto_region 20 with (first | (go_at_call 22; refine N1.mono ?_; clear N1; rintro e X4 ⟨rfl, hB1, hg1, hs1⟩))
          have U4 := U3.rd hF hg1 hB1
          have M4 := M3.grown hg1 (by simpa using hgm)
          have O4 := own_low2 O3 hRP hg1
          have g4 := g3
          clear U3 M3 O3 hB1 hg1 hs1 g3
          clear c1 cv
          have hE := HC.out.1
          rw [hl] at hE
          rw [hE] at U4
          clear hE
          have cv := U4.v.cell 0 _ rfl
          have ce := U4.r.cell 2 _ rfl
          by_cases h7 : rumE l i = 0
          · rw [h7] at U4 ce
            have hrm := HC.out.2.2.2.2 h7
            have hKn : ri4 + K ≤ n := by
              have h1 := rumN_le h7
              unfold rumN at h1
              obtain ⟨_, _, _, h2, h3⟩ := hrm
              rw [← h2] at h1
              omega
            have HM5 : Mb.mk ma mi ms (str ((l.drop ri4).take K)) = rumM l i := by
              obtain ⟨h1, h2, h3, h4, h5⟩ := hrm
              unfold rumM
              rw [← h1, ← h2, ← h3, ← h4, ← h5]
              rfl
            have HI5 : ri4 + K = rumN l i := by
              obtain ⟨_, _, _, h4, h5⟩ := hrm
              unfold rumN
              rw [← h4]
              omega
            have H5 := Lib.hid (And.intro HM5 HI5)
            have HE7 := Lib.hid h7
            clear hrm HM5 HI5 h7
            obtain ⟨S, hS⟩ : ∃ S, str ((l.drop ri4).take K) = S := ⟨_, rfl⟩
            rw [hS] at H5
            have HS : Rd X4.drew 1 (cutO A ri4 c) K (c - ri4) (bs ((l.drop ri4).take K)) := Rd.cutO (hr.below U4.b.drew) ri4 K hKn
            have HU := U4
            have HM := M4
            clear U4 M4
            obtain ⟨w0, rfl⟩ : ∃ x, x = X4 := ⟨_, rfl⟩
            have c1 := HU.r.cell 1 _ rfl
            go_upto_region 21 with (fail)
            clear cv ce c1
            refine wp_region_loud (by kernel_rfl) (by kernel_rfl) ?fr_u21x2 ?hfr_u21x2 [14] (VV (u21c V R gm A n c ri4 K S) (u21G V R gm A n c ri4 K S)) (I21 w0 gm S) ?h0_u21x2 ?hob_u21x2 ?hQ_u21x2 (by decide)
            case hfr_u21x2 =>
              intro xs
              simp only [fillL]
              go_simp
              exact rfl
            case h0_u21x2 =>
              exact rfl
            case hob_u21x2 =>
              refine ⟨?_, ?_, ?_, ?_, ?_, ?_, ?_, ?_, ?_, ?_, ?_, ?_, ?_, ?_, ?_, trivial⟩
              · -- 0: slot 94 := move t0
                intro xs d W hd hn hI hV
                have hd14 : d 14 = false := hn 14 _ rfl (by decide)
                have hW : W = w0.drew := by have h : W = if d 14 then w0.drew.setCell ⟨gm, 3, none⟩ (.string S) else w0.drew := hI
                                            rw [hd14] at h; exact h
                subst hW
                have cv : w0.drew.cell? ⟨V, 0, none⟩ = some (.pointer (some ⟨R, 0, none⟩)) := HU.v.cell 0 _ rfl
                have ce : w0.drew.cell? ⟨R, 1, none⟩ = some (.int .i64 (ri4 : Int)) := HU.r.cell 1 _ rfl
                rw [if_neg (by decide)]
                clear hV hd hn hI
                go_simp
                exact rfl
              · -- 1: slot 95 := load 48 t4
                intro xs d W hd hn hI hV
                have hd14 : d 14 = false := hn 14 _ rfl (by decide)
                have hW : W = w0.drew := by have h : W = if d 14 then w0.drew.setCell ⟨gm, 3, none⟩ (.string S) else w0.drew := hI
                                            rw [hd14] at h; exact h
                subst hW
                have cv : w0.drew.cell? ⟨V, 0, none⟩ = some (.pointer (some ⟨R, 0, none⟩)) := HU.v.cell 0 _ rfl
                have ce : w0.drew.cell? ⟨R, 1, none⟩ = some (.int .i64 (ri4 : Int)) := HU.r.cell 1 _ rfl
                rw [if_neg (by decide)]
                clear hV hd hn hI
                go_simp
                exact rfl
              · -- 2: slot 96 := nilCheck t95
                intro xs d W hd hn hI hV
                have x1 : xs 1 = .pointer (some ⟨R, 0, none⟩) := hV 1 (hd 1 (by decide))
                have hd14 : d 14 = false := hn 14 _ rfl (by decide)
                have hW : W = w0.drew := by have h : W = if d 14 then w0.drew.setCell ⟨gm, 3, none⟩ (.string S) else w0.drew := hI
                                            rw [hd14] at h; exact h
                subst hW
                have cv : w0.drew.cell? ⟨V, 0, none⟩ = some (.pointer (some ⟨R, 0, none⟩)) := HU.v.cell 0 _ rfl
                have ce : w0.drew.cell? ⟨R, 1, none⟩ = some (.int .i64 (ri4 : Int)) := HU.r.cell 1 _ rfl
                rw [if_neg (by decide)]
                clear hV hd hn hI
                go_simp
                exact rfl
              · -- 3: slot 97 := fieldAddr 50 t96 1
                intro xs d W hd hn hI hV
                have x2 : xs 2 = .pointer (some ⟨R, 0, none⟩) := hV 2 (hd 2 (by decide))
                have hd14 : d 14 = false := hn 14 _ rfl (by decide)
                have hW : W = w0.drew := by have h : W = if d 14 then w0.drew.setCell ⟨gm, 3, none⟩ (.string S) else w0.drew := hI
                                            rw [hd14] at h; exact h
                subst hW
                have cv : w0.drew.cell? ⟨V, 0, none⟩ = some (.pointer (some ⟨R, 0, none⟩)) := HU.v.cell 0 _ rfl
                have ce : w0.drew.cell? ⟨R, 1, none⟩ = some (.int .i64 (ri4 : Int)) := HU.r.cell 1 _ rfl
                rw [if_neg (by decide)]
                clear hV hd hn hI
                go_simp
                exact rfl
              · -- 4: slot 98 := load 3 t97
                intro xs d W hd hn hI hV
                have x3 : xs 3 = .pointer (some ⟨R, 1, none⟩) := hV 3 (hd 3 (by decide))
                have hd14 : d 14 = false := hn 14 _ rfl (by decide)
                have hW : W = w0.drew := by have h : W = if d 14 then w0.drew.setCell ⟨gm, 3, none⟩ (.string S) else w0.drew := hI
                                            rw [hd14] at h; exact h
                subst hW
                have cv : w0.drew.cell? ⟨V, 0, none⟩ = some (.pointer (some ⟨R, 0, none⟩)) := HU.v.cell 0 _ rfl
                have ce : w0.drew.cell? ⟨R, 1, none⟩ = some (.int .i64 (ri4 : Int)) := HU.r.cell 1 _ rfl
                rw [if_neg (by decide)]
                clear hV hd hn hI
                go_simp
                exact rfl
              · -- 5: slot 99 := load 48 t4
                intro xs d W hd hn hI hV
                have hd14 : d 14 = false := hn 14 _ rfl (by decide)
                have hW : W = w0.drew := by have h : W = if d 14 then w0.drew.setCell ⟨gm, 3, none⟩ (.string S) else w0.drew := hI
                                            rw [hd14] at h; exact h
                subst hW
                have cv : w0.drew.cell? ⟨V, 0, none⟩ = some (.pointer (some ⟨R, 0, none⟩)) := HU.v.cell 0 _ rfl
                have ce : w0.drew.cell? ⟨R, 1, none⟩ = some (.int .i64 (ri4 : Int)) := HU.r.cell 1 _ rfl
                rw [if_neg (by decide)]
                clear hV hd hn hI
                go_simp
                exact rfl
              · -- 6: slot 100 := nilCheck t99
                intro xs d W hd hn hI hV
                have x5 : xs 5 = .pointer (some ⟨R, 0, none⟩) := hV 5 (hd 5 (by decide))
                have hd14 : d 14 = false := hn 14 _ rfl (by decide)
                have hW : W = w0.drew := by have h : W = if d 14 then w0.drew.setCell ⟨gm, 3, none⟩ (.string S) else w0.drew := hI
                                            rw [hd14] at h; exact h
                subst hW
                have cv : w0.drew.cell? ⟨V, 0, none⟩ = some (.pointer (some ⟨R, 0, none⟩)) := HU.v.cell 0 _ rfl
                have ce : w0.drew.cell? ⟨R, 1, none⟩ = some (.int .i64 (ri4 : Int)) := HU.r.cell 1 _ rfl
                rw [if_neg (by decide)]
                clear hV hd hn hI
                go_simp
                exact rfl
              · -- 7: slot 101 := fieldAddr 50 t100 1
                intro xs d W hd hn hI hV
                have x6 : xs 6 = .pointer (some ⟨R, 0, none⟩) := hV 6 (hd 6 (by decide))
                have hd14 : d 14 = false := hn 14 _ rfl (by decide)
                have hW : W = w0.drew := by have h : W = if d 14 then w0.drew.setCell ⟨gm, 3, none⟩ (.string S) else w0.drew := hI
                                            rw [hd14] at h; exact h
                subst hW
                have cv : w0.drew.cell? ⟨V, 0, none⟩ = some (.pointer (some ⟨R, 0, none⟩)) := HU.v.cell 0 _ rfl
                have ce : w0.drew.cell? ⟨R, 1, none⟩ = some (.int .i64 (ri4 : Int)) := HU.r.cell 1 _ rfl
                rw [if_neg (by decide)]
                clear hV hd hn hI
                go_simp
                exact rfl
              · -- 8: slot 102 := load 3 t101
                intro xs d W hd hn hI hV
                have x7 : xs 7 = .pointer (some ⟨R, 1, none⟩) := hV 7 (hd 7 (by decide))
                have hd14 : d 14 = false := hn 14 _ rfl (by decide)
                have hW : W = w0.drew := by have h : W = if d 14 then w0.drew.setCell ⟨gm, 3, none⟩ (.string S) else w0.drew := hI
                                            rw [hd14] at h; exact h
                subst hW
                have cv : w0.drew.cell? ⟨V, 0, none⟩ = some (.pointer (some ⟨R, 0, none⟩)) := HU.v.cell 0 _ rfl
                have ce : w0.drew.cell? ⟨R, 1, none⟩ = some (.int .i64 (ri4 : Int)) := HU.r.cell 1 _ rfl
                rw [if_neg (by decide)]
                clear hV hd hn hI
                go_simp
                exact rfl
              · -- 9: slot 103 := move t10
                intro xs d W hd hn hI hV
                have hd14 : d 14 = false := hn 14 _ rfl (by decide)
                have hW : W = w0.drew := by have h : W = if d 14 then w0.drew.setCell ⟨gm, 3, none⟩ (.string S) else w0.drew := hI
                                            rw [hd14] at h; exact h
                subst hW
                have cv : w0.drew.cell? ⟨V, 0, none⟩ = some (.pointer (some ⟨R, 0, none⟩)) := HU.v.cell 0 _ rfl
                have ce : w0.drew.cell? ⟨R, 1, none⟩ = some (.int .i64 (ri4 : Int)) := HU.r.cell 1 _ rfl
                rw [if_neg (by decide)]
                clear hV hd hn hI
                go_simp
                exact rfl
              · -- 10: slot 104 := binOp BinOp.add 3 t102 t103 3
                intro xs d W hd hn hI hV
                have x8 : xs 8 = .int .i64 (ri4 : Int) := hV 8 (hd 8 (by decide))
                have x9 : xs 9 = .int .i64 (K : Int) := hV 9 (hd 9 (by decide))
                have hd14 : d 14 = false := hn 14 _ rfl (by decide)
                have hW : W = w0.drew := by have h : W = if d 14 then w0.drew.setCell ⟨gm, 3, none⟩ (.string S) else w0.drew := hI
                                            rw [hd14] at h; exact h
                subst hW
                have cv : w0.drew.cell? ⟨V, 0, none⟩ = some (.pointer (some ⟨R, 0, none⟩)) := HU.v.cell 0 _ rfl
                have ce : w0.drew.cell? ⟨R, 1, none⟩ = some (.int .i64 (ri4 : Int)) := HU.r.cell 1 _ rfl
                have hwr : IntKind.i64.wrap ((ri4 : Int) + (K : Int)) = (ri4 : Int) + (K : Int) := IntWalk.i64_in _ (by omega)
                rw [if_neg (by decide)]
                clear hV hd hn hI
                go_simp
                exact rfl
              · -- 11: slot 105 := slice 27 t94 (some t98) (some t104) none
                intro xs d W hd hn hI hV
                have x0 : xs 0 = .slice A n c := hV 0 (hd 0 (by decide))
                have x4 : xs 4 = .int .i64 (ri4 : Int) := hV 4 (hd 4 (by decide))
                have x10 : xs 10 = .int .i64 ((ri4 : Int) + (K : Int)) := hV 10 (hd 10 (by decide))
                have hd14 : d 14 = false := hn 14 _ rfl (by decide)
                have hW : W = w0.drew := by have h : W = if d 14 then w0.drew.setCell ⟨gm, 3, none⟩ (.string S) else w0.drew := hI
                                            rw [hd14] at h; exact h
                subst hW
                have cv : w0.drew.cell? ⟨V, 0, none⟩ = some (.pointer (some ⟨R, 0, none⟩)) := HU.v.cell 0 _ rfl
                have ce : w0.drew.cell? ⟨R, 1, none⟩ = some (.int .i64 (ri4 : Int)) := HU.r.cell 1 _ rfl
                have q1 : (0 : Int) ≤ (ri4 : Int) + (K : Int) := by omega
                have q2 : (ri4 : Int) + (K : Int) ≤ (c : Int) := by have := hr.le; omega
                have q3 : ((ri4 : Int) + (K : Int)).toNat = ri4 + K := by omega
                have q4 : ri4 ≤ ri4 + K := by omega
                have q5 : ri4 + K - ri4 = K := by omega
                rw [if_neg (by decide)]
                clear hV hd hn hI
                go_simp
                exact rfl
              · -- 12: slot 106 := convert 27 9 t105
                intro xs d W hd hn hI hV
                have x11 : xs 11 = .slice (cutO A ri4 c) K (c - ri4) := hV 11 (hd 11 (by decide))
                have hd14 : d 14 = false := hn 14 _ rfl (by decide)
                have hW : W = w0.drew := by have h : W = if d 14 then w0.drew.setCell ⟨gm, 3, none⟩ (.string S) else w0.drew := hI
                                            rw [hd14] at h; exact h
                subst hW
                have cv : w0.drew.cell? ⟨V, 0, none⟩ = some (.pointer (some ⟨R, 0, none⟩)) := HU.v.cell 0 _ rfl
                have ce : w0.drew.cell? ⟨R, 1, none⟩ = some (.int .i64 (ri4 : Int)) := HU.r.cell 1 _ rfl
                have hc := run_conv_str (P := Try.prog) w0.drew (dst := 9) Try.underlying27 Try.underlying5 Try.underlying9 HS
                rw [if_neg (by decide)]
                clear hV hd hn hI
                go_simp
                exact rfl
              · -- 13: slot 107 := fieldAddr 41 t9 3
                intro xs d W hd hn hI hV
                have hd14 : d 14 = false := hn 14 _ rfl (by decide)
                have hW : W = w0.drew := by have h : W = if d 14 then w0.drew.setCell ⟨gm, 3, none⟩ (.string S) else w0.drew := hI
                                            rw [hd14] at h; exact h
                subst hW
                have cv : w0.drew.cell? ⟨V, 0, none⟩ = some (.pointer (some ⟨R, 0, none⟩)) := HU.v.cell 0 _ rfl
                have ce : w0.drew.cell? ⟨R, 1, none⟩ = some (.int .i64 (ri4 : Int)) := HU.r.cell 1 _ rfl
                rw [if_neg (by decide)]
                clear hV hd hn hI
                go_simp
                exact rfl
              · -- 14: slot None := store 9 t107 t106
                intro xs d W hd hn hI hV
                have x12 : xs 12 = .string S := hV 12 (hd 12 (by decide))
                have x13 : xs 13 = .pointer (some ⟨gm, 3, none⟩) := hV 13 (hd 13 (by decide))
                rw [if_pos (by decide)]
                intro hd14
                have hW : W = w0.drew := by
                  have h : W = if d 14 then w0.drew.setCell ⟨gm, 3, none⟩ (.string S) else w0.drew := hI
                  rw [hd14] at h
                  exact h
                subst hW
                have hV' := hV
                clear hV hn hd hI
                have cm : w0.drew.cell? ⟨gm, 3, none⟩ = some (.string ⟨#[]⟩) := HM.cell 3 _ rfl
                have fm : w0.drew.frozen? ⟨gm, 3, none⟩ = false := HM.free 3
                go_simp
                exact ⟨rfl, trivial, fun j hj => (hV' j hj).any (fun _ _ _ _ _ => trivial)⟩
            case hQ_u21x2 =>
              intro xs W hI hV
              have x0 : xs 0 = .slice A n c := hV 0 (by decide)
              have x1 : xs 1 = .pointer (some ⟨R, 0, none⟩) := hV 1 (by decide)
              have x2 : xs 2 = .pointer (some ⟨R, 0, none⟩) := hV 2 (by decide)
              have x3 : xs 3 = .pointer (some ⟨R, 1, none⟩) := hV 3 (by decide)
              have x4 : xs 4 = .int .i64 (ri4 : Int) := hV 4 (by decide)
              have x5 : xs 5 = .pointer (some ⟨R, 0, none⟩) := hV 5 (by decide)
              have x6 : xs 6 = .pointer (some ⟨R, 0, none⟩) := hV 6 (by decide)
              have x7 : xs 7 = .pointer (some ⟨R, 1, none⟩) := hV 7 (by decide)
              have x8 : xs 8 = .int .i64 (ri4 : Int) := hV 8 (by decide)
              have x9 : xs 9 = .int .i64 (K : Int) := hV 9 (by decide)
              have x10 : xs 10 = .int .i64 ((ri4 : Int) + (K : Int)) := hV 10 (by decide)
              have x11 : xs 11 = .slice (cutO A ri4 c) K (c - ri4) := hV 11 (by decide)
              have x12 : xs 12 = .string S := hV 12 (by decide)
              have x13 : xs 13 = .pointer (some ⟨gm, 3, none⟩) := hV 13 (by decide)
              have x14 : u21G V R gm A n c ri4 K S 14 (xs 14) W := hV 14 (by decide)
              clear hV
              have hW : W = w0.drew.setCell ⟨gm, 3, none⟩ (.string S) := hI
              have hg5 : w0.grownBy W (some gm) := by rw [hW]; exact grown_setd w0 gm 3 _ 1
              have U5 : Ust w W B R V P A n c ri4 0 (pkCells k s t Ax j cx) := HU.low hF (by rw [hW]; exact (Below.refl _ _).drew.setCell hgP _)
              have M5 : Blk W gm 41 [.int .u32 ma, .int .u32 mi, .int .u8 ms, .string S] := by rw [hW]; exact Blk.set (HM.drewN 1) 3 (.string S)
              have O5 := own_ne O4 hAx hg5
              clear hW hg5 hI x0 x1 x2 x3 x4 x5 x6 x7 x8 x9 x10 x11 x12 x13 x14 HU HM O4 HS
              have cv := U5.v.cell 0 _ rfl
              have c1 := U5.r.cell 1 _ rfl
              have f1 := U5.r.free 1
              have hg6 := grown_set W ⟨R, 1, none⟩ (.int .i64 ((ri4 : Int) + (K : Int)))
              have hB6 : Blk (W.setCell ⟨R, 1, none⟩ (.int .i64 ((ri4 : Int) + (K : Int)))) R 50 (rdr A n c (ri4 + K) 0) := by
                have h := U5.r.set 1 (.int .i64 ((ri4 : Int) + (K : Int)))
                simpa [rdr] using h
              have U6 := U5.rd hF hg6 hB6
              have M6 := M5.grown hg6 (by simpa using hgm)
              have O6 := own_low2 O5 hRP hg6
              clear hg6 hB6 U5 M5 O5
              go_upto_region 23 with (fail)
              obtain ⟨X6, hX⟩ : ∃ x, W.setCell ⟨R, 1, none⟩ (.int .i64 ((ri4 : Int) + (K : Int))) = x := ⟨_, rfl⟩
              rw [hX] at U6 M6 O6 ⊢
              clear hX cv c1 f1
              have hbase : P + 1 ≤ X6.heap.size := by have := U6.p.lt; omega
              have cp := U6.p.cell 3 _ rfl
              go_wp2_with (first | (refine wpList_get rfl 41 (.tmp 9) rfl gm rfl 41 [.int .u32 ma, .int .u32 mi, .int .u8 ms, .string S] _ M6 Try.underlying41 rfl sizeMb ?_) | (refine wpList_app (w0 := X6) _ (P + 1) rfl (.tmp 117) (.tmp 119) 24 24 41 (.agg #[.int .u32 0, .int .u32 0, .int .u8 0, .string ⟨#[]⟩]) 4 32 rfl Try.underlying24 info_mb rfl (by decide) (by decide) (.slice Ax j cx) j (mbs X) rfl (.own (own_below O6 (below_new _ _))) _ 1 (Mb.mk ma mi ms S).cells rfl (.slice (rd_box _ (Mb.mk ma mi ms S)) (by intro u hu; simp [Mb.cells] at hu; rcases hu with rfl | rfl | rfl | rfl <;> rfl)) ((Below.refl _ _).alloc hbase _) (by rw [World.size_alloc]; omega) (by omega) ?_; intro v1 w1 _ ho1 hb1 hg1; have ho2 := ho1 (.inl (by decide)); clear ho1; obtain ⟨A1, c1, rfl, _⟩ := own_rd ho2; have U9 := U6.low hF hb1; clear U6 O6 M6 cp hb1 hg1; have cp := U9.p.cell 3 _ rfl; have fp := U9.p.free 3; have U10 := U9.pk hF 3 (.slice A1 (j + 1) c1); have O10 := own_low2 ho2 (show P < P + 1 by omega) (grown_set w1 ⟨P, 3, none⟩ (.slice A1 (j + 1) c1)); clear ho2 U9))
              have O11 : (w1.setCell ⟨P, 3, none⟩ (.slice A1 (j + 1) c1)).ownsRow (P + 1) 41 4 (.slice A1 (j + 1) c1) (j + 1) (mbs (X ++ [Mb.mk ma mi ms S])) := by
                rw [mbs_append]
                simpa [mbs] using O10
              go_roundw
              case rel => exact ⟨j + 1, ri4 + K, 0, X ++ [Mb.mk ma mi ms S], A1, c1, by omega, by go_num, by omega, U10, O11, .inl ⟨rfl, HD0.out, step_ok hlt HE7.out H5.out.1 H5.out.2 HQ⟩⟩
              case measure => simp [intOf]; omega
          · have h7' : (rumE l i == 0) = false := by simpa using h7
            go_upto_region 23 with (fail)
            clear cv ce
            have hbase : P + 1 ≤ X4.heap.size := by have := U4.p.lt; omega
            have cp := U4.p.cell 3 _ rfl
            go_wp2_with (first | (refine wpList_get rfl 41 (.tmp 9) rfl gm rfl 41 [.int .u32 ma, .int .u32 mi, .int .u8 ms, .string (⟨#[]⟩ : ByteArray)] _ M4 Try.underlying41 rfl sizeMb ?_) | (refine wpList_app (w0 := X4) _ (P + 1) rfl (.tmp 117) (.tmp 119) 24 24 41 (.agg #[.int .u32 0, .int .u32 0, .int .u8 0, .string ⟨#[]⟩]) 4 32 rfl Try.underlying24 info_mb rfl (by decide) (by decide) (.slice Ax j cx) j (mbs X) rfl (.own (own_below O4 (below_new _ _))) _ 1 (Mb.mk ma mi ms (⟨#[]⟩ : ByteArray)).cells rfl (.slice (rd_box _ (Mb.mk ma mi ms (⟨#[]⟩ : ByteArray))) (by intro u hu; simp [Mb.cells] at hu; rcases hu with rfl | rfl | rfl | rfl <;> rfl)) ((Below.refl _ _).alloc hbase _) (by rw [World.size_alloc]; omega) (by omega) ?_; intro v1 w1 _ ho1 hb1 hg1; have ho2 := ho1 (.inl (by decide)); clear ho1; obtain ⟨A1, c1, rfl, _⟩ := own_rd ho2; have U9 := U4.low hF hb1; clear U4 O4 M4 cp hb1 hg1; have cp := U9.p.cell 3 _ rfl; have fp := U9.p.free 3; have U10 := U9.pk hF 3 (.slice A1 (j + 1) c1); have O10 := own_low2 ho2 (show P < P + 1 by omega) (grown_set w1 ⟨P, 3, none⟩ (.slice A1 (j + 1) c1)); clear ho2 U9))
            have O11 : (w1.setCell ⟨P, 3, none⟩ (.slice A1 (j + 1) c1)).ownsRow (P + 1) 41 4 (.slice A1 (j + 1) c1) (j + 1) (mbs (X ++ [Mb.mk ma mi ms (⟨#[]⟩ : ByteArray)])) := by
              rw [mbs_append]
              simpa [mbs] using O10
            go_roundw
            case rel => exact ⟨j + 1, ri4, (rumE l i), X ++ [Mb.mk ma mi ms (⟨#[]⟩ : ByteArray)], A1, c1, by omega, by go_num, g4, U10, O11, .inr ⟨h7, step_no hlt h7 HQ (by omega) HD0.out HQ9.out⟩⟩
            case measure => simp [intOf]; omega
      · have hlt' : ¬ (j : Int) < (Q : Int) := by omega
        have hq3 : rums l Q 10 = (X, i, 0) := by
          have hq2 := HQ.out
          rw [show Q - j = 0 by omega] at hq2
          rw [hq2]; simp [rums]
        clear HQ
        obtain ⟨hk, hs, ht, hq, h10⟩ := hH hd0
        have hqn : (vat 1 l 9).toNat = Q := by rw [← hq]; rfl
        clear hH h10
        by_cases hin : i = n
        · have hun : unpE l = 0 := by
            unfold unpE
            rw [if_neg (by omega), if_pos hd0, hqn, hq3]
            dsimp only
            rw [if_pos rfl, if_pos (by omega)]
          have HK := Lib.hid (And.intro hk (And.intro hs (And.intro ht (And.intro hqn hq3))))
          clear hk hs ht hqn hq3 hd0 hq
          subst hin
          have hee : msE true 60 0 = 0 := rfl
          have c1 := HX.r.cell 1 _ rfl
          have M1 := must_ wr R V A i c i 0 60 true HX.r HX.v
          unfold MustP at M1
          go_upto_region 25 with (go_at_call 22; refine M1.mono ?_; clear M1; rintro ee w0 ⟨rfl, hB1, hg1, hs1⟩)
          have HOX := own_low2 HOX (by have := hF.v; have := hF.p; omega) hg1
          have HU := HX.rd hF hg1 hB1
          clear HX hB1 hg1 hs1 c1
          have cv := HU.v.cell 0 _ rfl
          have ce := HU.r.cell 2 _ rfl
          rw [hee] at HU ce
          have hne : ((0 : Int) != 0) = false := rfl
          have HP := HU.p
          have HZ := HU.z
          have hb1 : Below w.heap.size w (w0.setRow B (pkCells k s t Ax j cx).toArray) := HU.b.grown (grown_row _ B _) HU.b.size (fun j hj => by cases hj; exact hF.b)
          have hzz : Blk (w0.setRow B (pkCells k s t Ax j cx).toArray) B 26 (pkCells k s t Ax j cx) := HZ.row (pkCells k s t Ax j cx).toArray
          have hrr : Rd (w0.setRow B (pkCells k s t Ax j cx).toArray) 4 Ax j cx (mbs X) := by
            obtain ⟨A', c', he', hr'⟩ := own_rd HOX
            cases he'
            exact rd_grown hr' (grown_row w0 B _) (fun a ha h => by
              have := HOX.lt a.block (by rw [ha]; rfl)
              cases h
              have := hF.r
              have := hF.v
              have := hF.p
              omega)
          obtain ⟨hk, hs, ht, hqn, hq3⟩ := HK.out
          have hfin : ∀ e, e = Ending.returned (.tuple #[pkVal k s t Ax j cx, .int .i64 0]) → UnpP w l e (w0.setRow B (pkCells k s t Ax j cx).toArray) := fun e he => unpP_ok hun hk hs ht (by rw [hqn, hq3]) he hrr hb1
          clear hk hs ht hqn hq3 HK hb1 hrr hun HOX hee
          have HFIN := Lib.hid hfin
          clear hfin
          go_wp2_with (first | (refine wpList_get rfl 26 (.tmp 6) rfl P rfl 26 (pkCells k s t Ax j cx) _ HP Try.underlying26 rfl sizePk ?_) | (refine wpList_put rfl 26 (.tmp 2) _ rfl B (pkCells k s t Ax j cx).toArray rfl rfl 26 zpk HZ sizePk rfl rfl ?_))
          refine bodyPost_ret (results_rec rfl _ _ _ _ _ rfl hzz Try.underlying26 rfl sizePk) rfl ?_
          exact HFIN.out _ rfl
        · have hun : unpE l = 60 := by
            unfold unpE
            rw [if_neg (by omega), if_pos hd0, hqn, hq3]
            dsimp only
            rw [if_pos rfl, if_neg (by omega)]
          have hen : (60 : Int) ≠ 0 := by decide
          have hin' : ((i : Int) == (n : Int)) = false := by simp; omega
          have hee : msE false 60 0 = 60 := rfl
          clear hk hs ht hq hqn hq3 hd0
          have c1 := HX.r.cell 1 _ rfl
          have M1 := must_ wr R V A n c i 0 60 false HX.r HX.v
          unfold MustP at M1
          go_upto_region 25 with (go_at_call 22; refine M1.mono ?_; clear M1; rintro ee w0 ⟨rfl, hB1, hg1, hs1⟩)
          have HU := HX.rd hF hg1 hB1
          clear HX hB1 hg1 hs1 c1
          have cv := HU.v.cell 0 _ rfl
          have ce := HU.r.cell 2 _ rfl
          rw [hee] at HU ce
          have hne : (60 != 0) = true := by first | rfl | simpa using hen
          go_upto_region 26 with (fail)
          have HZ26 : Blk w0.drew B 26 zpk := HU.z
          clear cv ce
          refine wp_region_loud (by kernel_rfl) (by kernel_rfl) ?fr_u26x3 ?hfr_u26x3 [5] (VV (u26c V R B 60) (u26G V R B 60)) (I26 w0 B) ?h0_u26x3 ?hob_u26x3 ?hQ_u26x3 (by decide)
          case hfr_u26x3 =>
            intro xs
            simp only [fillL]
            go_simp
            exact rfl
          case h0_u26x3 =>
            exact rfl
          case hob_u26x3 =>
            refine ⟨?_, ?_, ?_, ?_, ?_, ?_, ?_, trivial⟩
            · -- 0: slot 136 := build 26 #[]
              intro xs d W hd hn hI hV
              have hJ : I26 w0 B [d 5] W := hI
              have cv := (I26.at hJ HU.v (by have := hF.r; have := hF.v; omega)).cell 0 _ rfl
              have ce := (I26.at hJ HU.r (by have := hF.r; omega)).cell 2 _ rfl
              clear hJ
              rw [if_neg (by decide)]
              clear hV hd hn hI
              go_simp
              exact rfl
            · -- 1: slot 137 := load 48 t4
              intro xs d W hd hn hI hV
              have hJ : I26 w0 B [d 5] W := hI
              have cv := (I26.at hJ HU.v (by have := hF.r; have := hF.v; omega)).cell 0 _ rfl
              have ce := (I26.at hJ HU.r (by have := hF.r; omega)).cell 2 _ rfl
              clear hJ
              rw [if_neg (by decide)]
              clear hV hd hn hI
              go_simp
              exact rfl
            · -- 2: slot 138 := nilCheck t137
              intro xs d W hd hn hI hV
              have x1 : xs 1 = .pointer (some ⟨R, 0, none⟩) := hV 1 (hd 1 (by decide))
              have hJ : I26 w0 B [d 5] W := hI
              have cv := (I26.at hJ HU.v (by have := hF.r; have := hF.v; omega)).cell 0 _ rfl
              have ce := (I26.at hJ HU.r (by have := hF.r; omega)).cell 2 _ rfl
              clear hJ
              rw [if_neg (by decide)]
              clear hV hd hn hI
              go_simp
              exact rfl
            · -- 3: slot 139 := fieldAddr 50 t138 2
              intro xs d W hd hn hI hV
              have x2 : xs 2 = .pointer (some ⟨R, 0, none⟩) := hV 2 (hd 2 (by decide))
              have hJ : I26 w0 B [d 5] W := hI
              have cv := (I26.at hJ HU.v (by have := hF.r; have := hF.v; omega)).cell 0 _ rfl
              have ce := (I26.at hJ HU.r (by have := hF.r; omega)).cell 2 _ rfl
              clear hJ
              rw [if_neg (by decide)]
              clear hV hd hn hI
              go_simp
              exact rfl
            · -- 4: slot 140 := load 28 t139
              intro xs d W hd hn hI hV
              have x3 : xs 3 = .pointer (some ⟨R, 2, none⟩) := hV 3 (hd 3 (by decide))
              have hJ : I26 w0 B [d 5] W := hI
              have cv := (I26.at hJ HU.v (by have := hF.r; have := hF.v; omega)).cell 0 _ rfl
              have ce := (I26.at hJ HU.r (by have := hF.r; omega)).cell 2 _ rfl
              clear hJ
              rw [if_neg (by decide)]
              clear hV hd hn hI
              go_simp
              exact rfl
            · -- 5: slot None := store 26 t2 t136
              intro xs d W hd hn hI hV
              have x0 : xs 0 = .agg #[.int .u8 0, .int .u32 0, .int .u32 0, .slice none 0 0] := hV 0 (hd 0 (by decide))
              rw [if_pos (by decide)]
              intro hd5
              have hW : W = w0.drew := by
                have h : W = if d 5 then w0.drew.setRow B zpk.toArray else w0.drew := hI
                rw [hd5] at h
                exact h
              subst hW
              have hV' := hV
              clear hV hn hd hI
              refine ⟨?_, rfl⟩
              show OpGives _ _ _ _ _
              refine gives_put 26 _ _ rfl B zpk.toArray rfl x0 26 zpk HZ26 sizePk rfl rfl ?_
              exact ⟨rfl, trivial, fun j hj => (hV' j hj).any (fun _ _ _ _ _ => trivial)⟩
            · -- 6: slot 3 := assign t140
              intro xs d W hd hn hI hV
              have x4 : xs 4 = .int .i64 60 := hV 4 (hd 4 (by decide))
              rw [if_neg (by decide)]
              clear hV hd hn hI
              go_simp
              exact rfl
          case hQ_u26x3 =>
            intro xs W hI hV
            have x0 : xs 0 = .agg #[.int .u8 0, .int .u32 0, .int .u32 0, .slice none 0 0] := hV 0 (by decide)
            have x1 : xs 1 = .pointer (some ⟨R, 0, none⟩) := hV 1 (by decide)
            have x2 : xs 2 = .pointer (some ⟨R, 0, none⟩) := hV 2 (by decide)
            have x3 : xs 3 = .pointer (some ⟨R, 2, none⟩) := hV 3 (by decide)
            have x4 : xs 4 = .int .i64 60 := hV 4 (by decide)
            have x5 : u26G V R B 60 5 (xs 5) W := hV 5 (by decide)
            have x6 : xs 6 = .int .i64 60 := hV 6 (by decide)
            clear hV
            have hW : W = w0.drew.setRow B zpk.toArray := hI
            subst hW
            rw [x6]
            have hz2 : Blk (w0.drew.setRow B zpk.toArray) B 26 zpk := HZ26.row zpk.toArray
            have hbf : Below w.heap.size w (w0.drew.setRow B zpk.toArray) := HU.b.drew.grown (grown_row _ B zpk.toArray) HU.b.size (fun j hj => by cases hj; exact hF.b)
            clear x0 x1 x2 x3 x4 x5 x6 HU
            go_wp2
            refine bodyPost_ret (results_rec rfl _ _ _ _ _ rfl hz2 Try.underlying26 rfl sizePk) rfl ?_
            exact unpP_no 60 hun hen rfl hbf
    · have hun : unpE l = e := by
        rcases hcase with ⟨h1, _⟩ | ⟨_, h2⟩
        · exact absurd h1 he
        · exact h2
      have hne0 : (e == 0) = false := by simpa using he
      have hen : e ≠ 0 := he
      have hee : msE ((i : Int) == (n : Int)) 60 e = e := by unfold msE; rw [if_neg he]
      clear hcase
      by_cases hlt : j < Q
      · have hlt' : (j : Int) < (Q : Int) := by omega
        have c1 := HX.r.cell 1 _ rfl
        have M1 := must_ wr R V A n c i e 60 ((i : Int) == (n : Int)) HX.r HX.v
        unfold MustP at M1
        go_upto_region 25 with (go_at_call 22; refine M1.mono ?_; clear M1; rintro ee w0 ⟨rfl, hB1, hg1, hs1⟩)
        have HU := HX.rd hF hg1 hB1
        clear HX hB1 hg1 hs1 c1
        have cv := HU.v.cell 0 _ rfl
        have ce := HU.r.cell 2 _ rfl
        rw [hee] at HU ce
        have hne : (e != 0) = true := by first | rfl | simpa using hen
        go_upto_region 26 with (fail)
        have HZ26 : Blk w0.drew B 26 zpk := HU.z
        clear cv ce
        refine wp_region_loud (by kernel_rfl) (by kernel_rfl) ?fr_u26x4 ?hfr_u26x4 [5] (VV (u26c V R B e) (u26G V R B e)) (I26 w0 B) ?h0_u26x4 ?hob_u26x4 ?hQ_u26x4 (by decide)
        case hfr_u26x4 =>
          intro xs
          simp only [fillL]
          go_simp
          exact rfl
        case h0_u26x4 =>
          exact rfl
        case hob_u26x4 =>
          refine ⟨?_, ?_, ?_, ?_, ?_, ?_, ?_, trivial⟩
          · -- 0: slot 136 := build 26 #[]
            intro xs d W hd hn hI hV
            have hJ : I26 w0 B [d 5] W := hI
            have cv := (I26.at hJ HU.v (by have := hF.r; have := hF.v; omega)).cell 0 _ rfl
            have ce := (I26.at hJ HU.r (by have := hF.r; omega)).cell 2 _ rfl
            clear hJ
            rw [if_neg (by decide)]
            clear hV hd hn hI
            go_simp
            exact rfl
          · -- 1: slot 137 := load 48 t4
            intro xs d W hd hn hI hV
            have hJ : I26 w0 B [d 5] W := hI
            have cv := (I26.at hJ HU.v (by have := hF.r; have := hF.v; omega)).cell 0 _ rfl
            have ce := (I26.at hJ HU.r (by have := hF.r; omega)).cell 2 _ rfl
            clear hJ
            rw [if_neg (by decide)]
            clear hV hd hn hI
            go_simp
            exact rfl
          · -- 2: slot 138 := nilCheck t137
            intro xs d W hd hn hI hV
            have x1 : xs 1 = .pointer (some ⟨R, 0, none⟩) := hV 1 (hd 1 (by decide))
            have hJ : I26 w0 B [d 5] W := hI
            have cv := (I26.at hJ HU.v (by have := hF.r; have := hF.v; omega)).cell 0 _ rfl
            have ce := (I26.at hJ HU.r (by have := hF.r; omega)).cell 2 _ rfl
            clear hJ
            rw [if_neg (by decide)]
            clear hV hd hn hI
            go_simp
            exact rfl
          · -- 3: slot 139 := fieldAddr 50 t138 2
            intro xs d W hd hn hI hV
            have x2 : xs 2 = .pointer (some ⟨R, 0, none⟩) := hV 2 (hd 2 (by decide))
            have hJ : I26 w0 B [d 5] W := hI
            have cv := (I26.at hJ HU.v (by have := hF.r; have := hF.v; omega)).cell 0 _ rfl
            have ce := (I26.at hJ HU.r (by have := hF.r; omega)).cell 2 _ rfl
            clear hJ
            rw [if_neg (by decide)]
            clear hV hd hn hI
            go_simp
            exact rfl
          · -- 4: slot 140 := load 28 t139
            intro xs d W hd hn hI hV
            have x3 : xs 3 = .pointer (some ⟨R, 2, none⟩) := hV 3 (hd 3 (by decide))
            have hJ : I26 w0 B [d 5] W := hI
            have cv := (I26.at hJ HU.v (by have := hF.r; have := hF.v; omega)).cell 0 _ rfl
            have ce := (I26.at hJ HU.r (by have := hF.r; omega)).cell 2 _ rfl
            clear hJ
            rw [if_neg (by decide)]
            clear hV hd hn hI
            go_simp
            exact rfl
          · -- 5: slot None := store 26 t2 t136
            intro xs d W hd hn hI hV
            have x0 : xs 0 = .agg #[.int .u8 0, .int .u32 0, .int .u32 0, .slice none 0 0] := hV 0 (hd 0 (by decide))
            rw [if_pos (by decide)]
            intro hd5
            have hW : W = w0.drew := by
              have h : W = if d 5 then w0.drew.setRow B zpk.toArray else w0.drew := hI
              rw [hd5] at h
              exact h
            subst hW
            have hV' := hV
            clear hV hn hd hI
            refine ⟨?_, rfl⟩
            show OpGives _ _ _ _ _
            refine gives_put 26 _ _ rfl B zpk.toArray rfl x0 26 zpk HZ26 sizePk rfl rfl ?_
            exact ⟨rfl, trivial, fun j hj => (hV' j hj).any (fun _ _ _ _ _ => trivial)⟩
          · -- 6: slot 3 := assign t140
            intro xs d W hd hn hI hV
            have x4 : xs 4 = .int .i64 e := hV 4 (hd 4 (by decide))
            rw [if_neg (by decide)]
            clear hV hd hn hI
            go_simp
            exact rfl
        case hQ_u26x4 =>
          intro xs W hI hV
          have x0 : xs 0 = .agg #[.int .u8 0, .int .u32 0, .int .u32 0, .slice none 0 0] := hV 0 (by decide)
          have x1 : xs 1 = .pointer (some ⟨R, 0, none⟩) := hV 1 (by decide)
          have x2 : xs 2 = .pointer (some ⟨R, 0, none⟩) := hV 2 (by decide)
          have x3 : xs 3 = .pointer (some ⟨R, 2, none⟩) := hV 3 (by decide)
          have x4 : xs 4 = .int .i64 e := hV 4 (by decide)
          have x5 : u26G V R B e 5 (xs 5) W := hV 5 (by decide)
          have x6 : xs 6 = .int .i64 e := hV 6 (by decide)
          clear hV
          have hW : W = w0.drew.setRow B zpk.toArray := hI
          subst hW
          rw [x6]
          have hz2 : Blk (w0.drew.setRow B zpk.toArray) B 26 zpk := HZ26.row zpk.toArray
          have hbf : Below w.heap.size w (w0.drew.setRow B zpk.toArray) := HU.b.drew.grown (grown_row _ B zpk.toArray) HU.b.size (fun j hj => by cases hj; exact hF.b)
          clear x0 x1 x2 x3 x4 x5 x6 HU
          go_wp2
          refine bodyPost_ret (results_rec rfl _ _ _ _ _ rfl hz2 Try.underlying26 rfl sizePk) rfl ?_
          exact unpP_no e hun hen rfl hbf
      · have hlt' : ¬ (j : Int) < (Q : Int) := by omega
        have c1 := HX.r.cell 1 _ rfl
        have M1 := must_ wr R V A n c i e 60 ((i : Int) == (n : Int)) HX.r HX.v
        unfold MustP at M1
        go_upto_region 25 with (go_at_call 22; refine M1.mono ?_; clear M1; rintro ee w0 ⟨rfl, hB1, hg1, hs1⟩)
        have HU := HX.rd hF hg1 hB1
        clear HX hB1 hg1 hs1 c1
        have cv := HU.v.cell 0 _ rfl
        have ce := HU.r.cell 2 _ rfl
        rw [hee] at HU ce
        have hne : (e != 0) = true := by first | rfl | simpa using hen
        go_upto_region 26 with (fail)
        have HZ26 : Blk w0.drew B 26 zpk := HU.z
        clear cv ce
        refine wp_region_loud (by kernel_rfl) (by kernel_rfl) ?fr_u26x5 ?hfr_u26x5 [5] (VV (u26c V R B e) (u26G V R B e)) (I26 w0 B) ?h0_u26x5 ?hob_u26x5 ?hQ_u26x5 (by decide)
        case hfr_u26x5 =>
          intro xs
          simp only [fillL]
          go_simp
          exact rfl
        case h0_u26x5 =>
          exact rfl
        case hob_u26x5 =>
          refine ⟨?_, ?_, ?_, ?_, ?_, ?_, ?_, trivial⟩
          · -- 0: slot 136 := build 26 #[]
            intro xs d W hd hn hI hV
            have hJ : I26 w0 B [d 5] W := hI
            have cv := (I26.at hJ HU.v (by have := hF.r; have := hF.v; omega)).cell 0 _ rfl
            have ce := (I26.at hJ HU.r (by have := hF.r; omega)).cell 2 _ rfl
            clear hJ
            rw [if_neg (by decide)]
            clear hV hd hn hI
            go_simp
            exact rfl
          · -- 1: slot 137 := load 48 t4
            intro xs d W hd hn hI hV
            have hJ : I26 w0 B [d 5] W := hI
            have cv := (I26.at hJ HU.v (by have := hF.r; have := hF.v; omega)).cell 0 _ rfl
            have ce := (I26.at hJ HU.r (by have := hF.r; omega)).cell 2 _ rfl
            clear hJ
            rw [if_neg (by decide)]
            clear hV hd hn hI
            go_simp
            exact rfl
          · -- 2: slot 138 := nilCheck t137
            intro xs d W hd hn hI hV
            have x1 : xs 1 = .pointer (some ⟨R, 0, none⟩) := hV 1 (hd 1 (by decide))
            have hJ : I26 w0 B [d 5] W := hI
            have cv := (I26.at hJ HU.v (by have := hF.r; have := hF.v; omega)).cell 0 _ rfl
            have ce := (I26.at hJ HU.r (by have := hF.r; omega)).cell 2 _ rfl
            clear hJ
            rw [if_neg (by decide)]
            clear hV hd hn hI
            go_simp
            exact rfl
          · -- 3: slot 139 := fieldAddr 50 t138 2
            intro xs d W hd hn hI hV
            have x2 : xs 2 = .pointer (some ⟨R, 0, none⟩) := hV 2 (hd 2 (by decide))
            have hJ : I26 w0 B [d 5] W := hI
            have cv := (I26.at hJ HU.v (by have := hF.r; have := hF.v; omega)).cell 0 _ rfl
            have ce := (I26.at hJ HU.r (by have := hF.r; omega)).cell 2 _ rfl
            clear hJ
            rw [if_neg (by decide)]
            clear hV hd hn hI
            go_simp
            exact rfl
          · -- 4: slot 140 := load 28 t139
            intro xs d W hd hn hI hV
            have x3 : xs 3 = .pointer (some ⟨R, 2, none⟩) := hV 3 (hd 3 (by decide))
            have hJ : I26 w0 B [d 5] W := hI
            have cv := (I26.at hJ HU.v (by have := hF.r; have := hF.v; omega)).cell 0 _ rfl
            have ce := (I26.at hJ HU.r (by have := hF.r; omega)).cell 2 _ rfl
            clear hJ
            rw [if_neg (by decide)]
            clear hV hd hn hI
            go_simp
            exact rfl
          · -- 5: slot None := store 26 t2 t136
            intro xs d W hd hn hI hV
            have x0 : xs 0 = .agg #[.int .u8 0, .int .u32 0, .int .u32 0, .slice none 0 0] := hV 0 (hd 0 (by decide))
            rw [if_pos (by decide)]
            intro hd5
            have hW : W = w0.drew := by
              have h : W = if d 5 then w0.drew.setRow B zpk.toArray else w0.drew := hI
              rw [hd5] at h
              exact h
            subst hW
            have hV' := hV
            clear hV hn hd hI
            refine ⟨?_, rfl⟩
            show OpGives _ _ _ _ _
            refine gives_put 26 _ _ rfl B zpk.toArray rfl x0 26 zpk HZ26 sizePk rfl rfl ?_
            exact ⟨rfl, trivial, fun j hj => (hV' j hj).any (fun _ _ _ _ _ => trivial)⟩
          · -- 6: slot 3 := assign t140
            intro xs d W hd hn hI hV
            have x4 : xs 4 = .int .i64 e := hV 4 (hd 4 (by decide))
            rw [if_neg (by decide)]
            clear hV hd hn hI
            go_simp
            exact rfl
        case hQ_u26x5 =>
          intro xs W hI hV
          have x0 : xs 0 = .agg #[.int .u8 0, .int .u32 0, .int .u32 0, .slice none 0 0] := hV 0 (by decide)
          have x1 : xs 1 = .pointer (some ⟨R, 0, none⟩) := hV 1 (by decide)
          have x2 : xs 2 = .pointer (some ⟨R, 0, none⟩) := hV 2 (by decide)
          have x3 : xs 3 = .pointer (some ⟨R, 2, none⟩) := hV 3 (by decide)
          have x4 : xs 4 = .int .i64 e := hV 4 (by decide)
          have x5 : u26G V R B e 5 (xs 5) W := hV 5 (by decide)
          have x6 : xs 6 = .int .i64 e := hV 6 (by decide)
          clear hV
          have hW : W = w0.drew.setRow B zpk.toArray := hI
          subst hW
          rw [x6]
          have hz2 : Blk (w0.drew.setRow B zpk.toArray) B 26 zpk := HZ26.row zpk.toArray
          have hbf : Below w.heap.size w (w0.drew.setRow B zpk.toArray) := HU.b.drew.grown (grown_row _ B zpk.toArray) HU.b.size (fun j hj => by cases hj; exact hF.b)
          clear x0 x1 x2 x3 x4 x5 x6 HU
          go_wp2
          refine bodyPost_ret (results_rec rfl _ _ _ _ _ rfl hz2 Try.underlying26 rfl sizePk) rfl ?_
          exact unpP_no e hun hen rfl hbf
end Go.Proofs.Ytijpfhgcdncmhaa
