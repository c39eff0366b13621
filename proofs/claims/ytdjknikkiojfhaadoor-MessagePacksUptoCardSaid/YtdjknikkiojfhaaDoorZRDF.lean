import Derived.Test.YtdjknikkiojfhaaDoorZHF
import Derived.Lib.OthersKept
import Derived.Test.YtdjknikkiojfhaaDoorZKM
import Derived.Test.YtdjknikkiojfhaaDoorZPB
/- rdata.Check: whether data may be of a type: what holds in its loop. -/
namespace Go.Proofs.YtdjknikkiojfhaaDoor
open Go.RowKit Go.HL Go.Maps
set_option linter.unusedVariables false
set_option linter.unusedSimpArgs false
/-- Data. -/
structure Dt where
  raw : ByteArray
  host : ByteArray
  mail : ByteArray
  n0 : Int
  n1 : Int
  n2 : Int
  n3 : Int
  n4 : Int
deriving DecidableEq
def Dt.cells (d : Dt) : List Value := [.string d.raw, .string d.host, .string d.mail, .int .u32 d.n0, .int .u32 d.n1, .int .u32 d.n2, .int .u32 d.n3, .int .u32 d.n4]
def Dt.val (d : Dt) : Value := .agg #[.string d.raw, .string d.host, .string d.mail, .int .u32 d.n0, .int .u32 d.n1, .int .u32 d.n2, .int .u32 d.n3, .int .u32 d.n4]
def Dt.zero : Dt := ⟨⟨#[]⟩, ⟨#[]⟩, ⟨#[]⟩, 0, 0, 0, 0, 0⟩
def Dt.getN (d : Dt) : Nat → Int
  | 0 => d.n0
  | 1 => d.n1
  | 2 => d.n2
  | 3 => d.n3
  | _ => d.n4
def Dt.setN (d : Dt) : Nat → Dt
  | 0 => { d with n0 := 0 }
  | 1 => { d with n1 := 0 }
  | 2 => { d with n2 := 0 }
  | 3 => { d with n3 := 0 }
  | _ => { d with n4 := 0 }
theorem Dt.cellN (d : Dt) {k : Nat} (h : k < 5) : d.cells[3 + k]? = some (.int .u32 (d.getN k)) := by
  rcases k with _ | _ | _ | _ | _ | k
  all_goals first | rfl | omega
theorem Dt.setCellN (d : Dt) {k : Nat} (h : k < 5) : d.cells.set (3 + k) (.int .u32 0) = (d.setN k).cells := by
  rcases k with _ | _ | _ | _ | _ | k
  all_goals first | rfl | omega
/-- How many numbers. -/
def kOf (f : List UInt8) : Nat := (f.filter fun c => c == 115 || c == 108).length
/-- One letter of a form. -/
def chk (d : Dt) (s : Bool × Nat × Dt) (c : UInt8) : Bool × Nat × Dt :=
  if c = 104 ∨ c = 112 then (s.1 && isNm d.host, s.2.1, { s.2.2 with host := ⟨#[]⟩ })
  else if c = 109 then (s.1 && isNm d.mail, s.2.1, { s.2.2 with mail := ⟨#[]⟩ })
  else if c = 115 then (s.1 && decide (d.getN s.2.1 ≤ 65535), s.2.1 + 1, s.2.2.setN s.2.1)
  else if c = 108 then (s.1, s.2.1 + 1, s.2.2.setN s.2.1)
  else if c = 97 then (s.1 && ((d.raw.size : Int) == 4), s.2.1, { s.2.2 with raw := ⟨#[]⟩ })
  else if c = 113 then (s.1 && ((d.raw.size : Int) == 16), s.2.1, { s.2.2 with raw := ⟨#[]⟩ })
  else if c = 120 then (s.1 && decide ((d.raw.size : Int) ≤ 65535) && txtV d.raw.data.toList, s.2.1, { s.2.2 with raw := ⟨#[]⟩ })
  else (s.1 && decide ((d.raw.size : Int) ≤ 65535), s.2.1, { s.2.2 with raw := ⟨#[]⟩ })
def chks (d : Dt) (f : List UInt8) : Bool × Nat × Dt := f.foldl (chk d) (true, 0, d)
theorem chks_snoc (d : Dt) (f : List UInt8) (c : UInt8) : chks d (f ++ [c]) = chk d (chks d f) c := by unfold chks; rw [List.foldl_append]; rfl
/-- What holds while data are looked at. -/
structure Ck (W : World) (b : Nat) (d : Dt) (ok : Bool) (left : Dt) (s : ByteArray) (i : Nat) (wr : World) : Prop where
  D : Blk wr b 44 d.cells
  G : Blk wr (b + 1) 4 [.bool ok]
  L : Blk wr (b + 1 + 1) 44 left.cells
  I : wr.heap[b + 3]? = some (.stringIter s i)
  B : Below b W wr
section
variable {W : World} {b : Nat} {d left : Dt} {ok : Bool} {s : ByteArray} {i : Nat} {wr w' : World}
theorem Ck.size (h : Ck W b d ok left s i wr) : b + 4 ≤ wr.heap.size := by have := (Array.getElem?_eq_some_iff.1 h.I).1; omega
theorem Ck.below (h : Ck W b d ok left s i wr) (k : Below wr.heap.size wr w') : Ck W b d ok left s i w' :=
  ⟨h.D.below k, h.G.below k, h.L.below k, (k.block _ (Array.getElem?_eq_some_iff.1 h.I).1).trans h.I, h.B.trans (k.mono (by have := h.size; omega))⟩
theorem fr_iter (w : World) (k : Nat) (s : ByteArray) (p : Nat) : Fr (fun i => i = k) w (w.iterAt k s p) :=
  ⟨rfl, rfl, rfl, by simp [World.iterAt], fun i _ hn => by
    have hn' : ¬ i = k := hn
    show (w.heap.setIfInBounds k _)[i]? = _
    rw [Array.getElem?_setIfInBounds, if_neg (fun e => hn' e.symm)]⟩
theorem Ck.iter (h : Ck W b d ok left s i wr) (j : Nat) : Ck W b d ok left s j (wr.iterAt (b + 3) s j) :=
  ⟨h.D.fr (fr_iter _ _ _ _) (by omega), h.G.fr (fr_iter _ _ _ _) (by omega), h.L.fr (fr_iter _ _ _ _) (by omega), Go.Lib.iterAt_heap wr _ _ _ _ h.I, Fr.toBelow h.B (fr_iter _ _ _ _) (fun i _ e => by have e' : i = b + 3 := e; omega) (by have := h.size; omega)⟩
theorem Ck.setG (h : Ck W b d ok left s i wr) (v : Bool) : Ck W b d v left s i (wr.setCell ⟨b + 1, 0, none⟩ (.bool v)) := by
  have hf := (Fr.refl (fun i => i = b + 1) wr).setCell (b + 1) 0 (.bool v) (.inl rfl)
  exact ⟨h.D.fr hf (by omega), h.G.set 0 _, h.L.fr hf (by omega), (hf.block _ (Array.getElem?_eq_some_iff.1 h.I).1 (by omega)).trans h.I, Fr.toBelow h.B hf (fun i _ e => by have e' : i = b + 1 := e; omega) (by have := h.size; omega)⟩
theorem Ck.setL (h : Ck W b d ok left s i wr) (j : Nat) (v : Value) (l' : Dt) (e : left.cells.set j v = l'.cells) : Ck W b d ok l' s i (wr.setCell ⟨b + 1 + 1, j, none⟩ v) := by
  have hf := (Fr.refl (fun i => i = b + 1 + 1) wr).setCell (b + 1 + 1) j v (.inl rfl)
  exact ⟨h.D.fr hf (by omega), h.G.fr hf (by omega), by rw [← e]; exact h.L.set j _, (hf.block _ (Array.getElem?_eq_some_iff.1 h.I).1 (by omega)).trans h.I, Fr.toBelow h.B hf (fun i _ e => by have e' : i = b + 1 + 1 := e; omega) (by have := h.size; omega)⟩
theorem Ck.need (h : Ck W b d ok left s i wr) (x : Bool) : Calls Tryd.prog 58 #[.bool x, .pointer (some ⟨b + 1, 0, none⟩)] wr fun e w' => e = .returned (.tuple #[]) ∧ Ck W b d (ok && x) left s i w' := by
  have c0 := h.G.cell 0 _ rfl
  have f0 := h.G.free 0
  have h1 := h.setG (ok && x)
  cases ok
  · go_enter Tryd.func58, Tryd.ntmps58
    go_wp2
    exact bodyPost_end (results_none rfl _ _ _) rfl ⟨rfl, h1⟩
  · go_enter Tryd.func58, Tryd.ntmps58
    go_wp2
    exact bodyPost_end (results_none rfl _ _ _) rfl ⟨rfl, h1⟩
end
end Go.Proofs.YtdjknikkiojfhaaDoor

/- rdata.Check: whether data may be of a type. -/
namespace Go.Proofs.YtdjknikkiojfhaaDoor
open Go.RowKit Go.HL Go.Maps
set_option linter.unusedVariables false
set_option linter.unusedSimpArgs false
theorem chk_k (d : Dt) (s : Bool × Nat × Dt) (c : UInt8) : (chk d s c).2.1 = s.2.1 + kOf [c] := by
  unfold chk kOf
  by_cases h1 : c = 104 ∨ c = 112
  · rw [if_pos h1]; rcases h1 with rfl | rfl <;> rfl
  rw [if_neg h1]
  by_cases h2 : c = 109
  · rw [if_pos h2]; subst h2; rfl
  rw [if_neg h2]
  by_cases h3 : c = 115
  · rw [if_pos h3]; subst h3; rfl
  rw [if_neg h3]
  by_cases h4 : c = 108
  · rw [if_pos h4]; subst h4; rfl
  rw [if_neg h4]
  have e : (([c] : List UInt8).filter fun c => c == 115 || c == 108).length = 0 := by simp [h3, h4]
  rw [e]
  split <;> (try split) <;> (try split) <;> rfl
theorem kOf_app (a b : List UInt8) : kOf (a ++ b) = kOf a + kOf b := by unfold kOf; rw [List.filter_append, List.length_append]
theorem chks_k (d : Dt) (l : List UInt8) : (chks d l).2.1 = kOf l := by
  have h : ∀ (l : List UInt8) (s : Bool × Nat × Dt), (l.foldl (chk d) s).2.1 = s.2.1 + kOf l := by
    intro l
    induction l with
    | nil => intro s; rfl
    | cons c l ih =>
      intro s
      rw [List.foldl_cons, ih, chk_k, show c :: l = [c] ++ l from rfl, kOf_app, Nat.add_assoc]
  have := h l (true, 0, d)
  unfold chks
  rw [this]
  exact Nat.zero_add _
theorem neqD (a : Dt) (w : World) : (binOp .neq 44 (.agg #[.string a.raw, .string a.host, .string a.mail, .int .u32 a.n0, .int .u32 a.n1, .int .u32 a.n2, .int .u32 a.n3, .int .u32 a.n4]) (.agg #[.string ⟨#[]⟩, .string ⟨#[]⟩, .string ⟨#[]⟩, .int .u32 0, .int .u32 0, .int .u32 0, .int .u32 0, .int .u32 0])).run Tryd.prog w = .ok (.bool (!decide (a = Dt.zero))) w := by
  have h := eqData 9997 a.raw a.host a.mail ⟨#[]⟩ ⟨#[]⟩ ⟨#[]⟩ a.n0 a.n1 a.n2 a.n3 a.n4 0 0 0 0 0 w
  unfold dataCells at h
  rw [run_neq_struct, show (10000 : Nat) = 9997 + 3 from rfl, h]
  have e : (a.raw.toList == (⟨#[]⟩ : ByteArray).toList && a.host.toList == (⟨#[]⟩ : ByteArray).toList && a.mail.toList == (⟨#[]⟩ : ByteArray).toList && (a.n0 == 0 && a.n1 == 0 && a.n2 == 0 && a.n3 == 0 && a.n4 == 0)) = decide (a = Dt.zero) := by
    rw [Bool.eq_iff_iff]
    simp only [Bool.and_eq_true, beq_iff_eq, decide_eq_true_eq]
    constructor
    · rintro ⟨⟨⟨h1, h2⟩, h3⟩, ⟨⟨⟨h4, h5⟩, h6⟩, h7⟩, h8⟩
      obtain ⟨ar, ah, am, a0, a1, a2, a3, a4⟩ := a
      simp only at *
      rw [toList_inj h1, toList_inj h2, toList_inj h3, h4, h5, h6, h7, h8]
      rfl
    · rintro rfl
      exact ⟨⟨⟨rfl, rfl⟩, rfl⟩, ⟨⟨⟨rfl, rfl⟩, rfl⟩, rfl⟩, rfl⟩
  rw [e]
  rfl
def okF (f : List UInt8) (d : Dt) : Bool := (chks d f).1 && decide ((chks d f).2.2 = Dt.zero)
theorem Ck.new (W : World) (d : Dt) (s : ByteArray) : Ck W W.heap.size d true d s 0 ((((W.alloc (.cells d.cells.toArray 44)).alloc (.cells #[.bool true] 4)).alloc (.cells d.cells.toArray 44)).iter s 0) := by
  have h1 := Blk.new W 44 d.cells.toArray
  have h2 := Blk.new (W.alloc (.cells d.cells.toArray 44)) 4 #[.bool true]
  have h3 := Blk.new ((W.alloc (.cells d.cells.toArray 44)).alloc (.cells #[.bool true] 4)) 44 d.cells.toArray
  have h4 := World.iter_heap (((W.alloc (.cells d.cells.toArray 44)).alloc (.cells #[.bool true] 4)).alloc (.cells d.cells.toArray 44)) s 0
  have hb := below_alloc (below_alloc (below_alloc (below_new W (.cells d.cells.toArray 44)) (.cells #[.bool true] 4)) (.cells d.cells.toArray 44)) (.stringIter s 0)
  simp only [World.size_alloc] at h2 h3 h4
  exact ⟨((h1.alloc _).alloc _).alloc _, (h2.alloc _).alloc _, h3.alloc _, h4, hb⟩
set_option maxRecDepth 100000 in
set_option maxHeartbeats 8000000 in
theorem checkF_ (W : World) (d : Dt) (hz1 : d.host.size ≤ 140737488355328) (hz2 : d.mail.size ≤ 140737488355328) (hz3 : d.raw.size ≤ 140737488355328) (t : Int) (hK : Kd W) (f : List UInt8) (hf : formV t = f) (hfl : f.length ≤ 100) (hgood : kOf f ≤ 5) (hset : ∀ c ∈ f, c ∈ [104, 112, 109, 115, 108, 97, 113, 120, (114 : UInt8)]) :
    Calls Tryd.prog 37 #[.int .u16 t, d.val] W fun e W' => e = .returned (.int .i64 (if okF f d then 0 else 40)) ∧ Below W.heap.size W W' := by
  have hform := fun W hK => form_ W t hK
  rw [hf] at hform
  have hC0 := Ck.new W d (str f)
  have hb3 := below_alloc (below_alloc (below_new W (.cells d.cells.toArray 44)) (.cells #[.bool true] 4)) (.cells d.cells.toArray 44)
  have hK3 := hK.below hb3
  obtain ⟨W3, hW3⟩ : ∃ x, ((W.alloc (.cells d.cells.toArray 44)).alloc (.cells #[.bool true] 4)).alloc (.cells d.cells.toArray 44) = x := ⟨_, rfl⟩
  have hsz : W3.heap.size = W.heap.size + 3 := by rw [← hW3]; simp only [World.size_alloc]
  rw [hW3] at hC0 hK3
  unfold Dt.cells at hW3
  have hform3 := hform W3 hK3
  obtain ⟨b, hb⟩ : ∃ x, W.heap.size = x := ⟨_, rfl⟩
  rw [hb] at hC0 hsz ⊢
  obtain ⟨R, hR⟩ : ∃ R, (if okF f d = true then (0 : Int) else 40) = R := ⟨_, rfl⟩
  rw [hR]
  have HR := Lib.hid hR
  have HC0 := Lib.hid hC0
  clear hR hK3 hb3 hform hC0 hK
  unfold Dt.val
  go_enter Tryd.func37, Tryd.ntmps37
  go_wp2_with (first | (rw [hW3, hb]; go_at_call 59; refine hform3.mono ?_; clear hform3; rintro e W1 ⟨rfl, ex⟩; rw [ex]; clear ex W1) | (go_at_call 59; refine hform3.mono ?_; clear hform3; rintro e W1 ⟨rfl, ex⟩; rw [ex]; clear ex W1))
  clear hW3 hb hsz
  go_loopw [5] (fun kv wr => ∃ i : Nat, i ≤ f.length ∧ kv = .int .i64 ((kOf (f.take i) : Nat) : Int) ∧ Ck W b d (chks d (f.take i)).1 (chks d (f.take i)).2.2 (str f) i wr) (fun _ wr => f.length + 1 - wr.iterPos (b + 3))
  case atStart => exact ⟨0, Nat.zero_le _, rfl, HC0.out⟩
  case round =>
    clear HC0
    obtain ⟨i, hi, rfl, hC⟩ := hrel
    have hpos : wr.iterPos (b + 3) = i := by unfold World.iterPos; rw [hC.I]
    have hkk := chks_k d (f.take i)
    obtain ⟨⟨ok, k, left⟩, hcs⟩ : ∃ x, chks d (f.take i) = x := ⟨_, rfl⟩
    rw [hcs] at hC hkk
    simp only at hC hkk
    rw [← hkk]
    by_cases hlt : i < f.length
    · obtain ⟨c, hc⟩ : ∃ c, f[i]? = some c := ⟨_, List.getElem?_eq_getElem hlt⟩
      have htk : f.take (i + 1) = f.take i ++ [c] := by rw [List.take_add_one, hc]; rfl
      have hst : chks d (f.take (i + 1)) = chk d (ok, k, left) c := by rw [htk, chks_snoc, hcs]
      have hk1 : kOf (f.take (i + 1)) = k + kOf [c] := by rw [htk, kOf_app, ← hkk]
      have hk2 : kOf (f.take (i + 1)) ≤ 5 := Nat.le_trans (((List.take_sublist _ _).filter _).length_le) hgood
      have hmem : c ∈ f := List.mem_of_getElem? hc
      have hcm := hset c hmem
      have hsl : i < (str f).size := by rw [str_size]; exact hlt
      have hsc : ((str f)[i]'hsl) = c := by
        have e1 : (str f)[i]'hsl = f[i]'hlt := by rfl
        rw [e1]
        rw [List.getElem?_eq_getElem hlt] at hc
        exact Option.some.inj hc
      have hc128 : c.toNat < 128 := by
        simp only [List.mem_cons, List.not_mem_nil, or_false] at hcm
        rcases hcm with rfl | rfl | rfl | rfl | rfl | rfl | rfl | rfl | rfl <;> decide
      have hnx := fun ty => Go.Lib.run_next_ascii_at (P := Tryd.prog) wr (b + 3) (str f) i ty hC.I hsl (by rw [hsc]; exact hc128)
      rw [hsc] at hnx
      have hCi := hC.iter (i + 1)
      obtain ⟨Wn, hWn⟩ : ∃ x, wr.iterAt (b + 3) (str f) (i + 1) = x := ⟨_, rfl⟩
      rw [hWn] at hnx hCi
      have HI := Lib.hid (And.intro hpos (And.intro hst hk1))
      have Hlt := Lib.hid hlt
      clear hWn hC hc htk hst hmem hsl hsc hc128 hcs hset hkk hpos hlt hgood hf hi hk1
      simp only [List.mem_cons, List.not_mem_nil, or_false] at hcm
      rcases hcm with rfl | rfl | rfl | rfl | rfl | rfl | rfl | rfl | rfl
      · obtain ⟨X, hX⟩ : ∃ X, (if isNm d.host = true then (0 : Int) else 11) = X := ⟨_, rfl⟩
        have hXb : (X == 0) = isNm d.host := by rw [← hX]; cases isNm d.host <;> rfl
        have hck := fun w => check_ w d.host hz1
        rw [hX] at hck
        have d1 := hCi.D.cell 1 _ rfl
        clear hX
        go_wp2_with (first | (go_at_call 36; refine (hck _).mono ?_; clear hck; rintro e W5 ⟨rfl, hb5⟩; have hC5 := hCi.below hb5; clear hb5 d1) | (go_at_call 58; refine (hC5.need _).mono ?_; rintro e W6 ⟨rfl, hC6⟩; have s1 := hC6.L.cell 1 _ rfl; have f1 := hC6.L.free 1))
        have hF := hC6.setL 1 (.string ⟨#[]⟩) { left with host := ⟨#[]⟩ } rfl
        obtain ⟨hpos, hst, hk1⟩ := HI.out
        have hlt := Hlt.out
        have hp2 := hF.I
        refine ⟨⟨i + 1, hlt, ?_, ?_⟩, ?_⟩
        · rw [hk1]; exact congrArg (Value.int .i64) (by rw [show kOf [104] = 0 from rfl]; omega)
        · rw [hst, show chk d (ok, k, left) (104 : UInt8) = (ok && isNm d.host, k, { left with host := ⟨#[]⟩ }) from rfl]; exact hF
        · rw [hpos]; unfold World.iterPos; rw [hp2]; show f.length + 1 - (i + 1) < _; omega
      · obtain ⟨X, hX⟩ : ∃ X, (if isNm d.host = true then (0 : Int) else 11) = X := ⟨_, rfl⟩
        have hXb : (X == 0) = isNm d.host := by rw [← hX]; cases isNm d.host <;> rfl
        have hck := fun w => check_ w d.host hz1
        rw [hX] at hck
        have d1 := hCi.D.cell 1 _ rfl
        clear hX
        go_wp2_with (first | (go_at_call 36; refine (hck _).mono ?_; clear hck; rintro e W5 ⟨rfl, hb5⟩; have hC5 := hCi.below hb5; clear hb5 d1) | (go_at_call 58; refine (hC5.need _).mono ?_; rintro e W6 ⟨rfl, hC6⟩; have s1 := hC6.L.cell 1 _ rfl; have f1 := hC6.L.free 1))
        have hF := hC6.setL 1 (.string ⟨#[]⟩) { left with host := ⟨#[]⟩ } rfl
        obtain ⟨hpos, hst, hk1⟩ := HI.out
        have hlt := Hlt.out
        have hp2 := hF.I
        refine ⟨⟨i + 1, hlt, ?_, ?_⟩, ?_⟩
        · rw [hk1]; exact congrArg (Value.int .i64) (by rw [show kOf [112] = 0 from rfl]; omega)
        · rw [hst, show chk d (ok, k, left) (112 : UInt8) = (ok && isNm d.host, k, { left with host := ⟨#[]⟩ }) from rfl]; exact hF
        · rw [hpos]; unfold World.iterPos; rw [hp2]; show f.length + 1 - (i + 1) < _; omega
      · obtain ⟨X, hX⟩ : ∃ X, (if isNm d.mail = true then (0 : Int) else 11) = X := ⟨_, rfl⟩
        have hXb : (X == 0) = isNm d.mail := by rw [← hX]; cases isNm d.mail <;> rfl
        have hck := fun w => check_ w d.mail hz2
        rw [hX] at hck
        have d1 := hCi.D.cell 2 _ rfl
        clear hX
        go_wp2_with (first | (go_at_call 36; refine (hck _).mono ?_; clear hck; rintro e W5 ⟨rfl, hb5⟩; have hC5 := hCi.below hb5; clear hb5 d1) | (go_at_call 58; refine (hC5.need _).mono ?_; rintro e W6 ⟨rfl, hC6⟩; have s1 := hC6.L.cell 2 _ rfl; have f1 := hC6.L.free 2))
        have hF := hC6.setL 2 (.string ⟨#[]⟩) { left with mail := ⟨#[]⟩ } rfl
        obtain ⟨hpos, hst, hk1⟩ := HI.out
        have hlt := Hlt.out
        have hp2 := hF.I
        refine ⟨⟨i + 1, hlt, ?_, ?_⟩, ?_⟩
        · rw [hk1]; exact congrArg (Value.int .i64) (by rw [show kOf [109] = 0 from rfl]; omega)
        · rw [hst, show chk d (ok, k, left) (109 : UInt8) = (ok && isNm d.mail, k, { left with mail := ⟨#[]⟩ }) from rfl]; exact hF
        · rw [hpos]; unfold World.iterPos; rw [hp2]; show f.length + 1 - (i + 1) < _; omega
      · have hk5 : k < 5 := by
          have h1 := HI.out.2.2
          have e : kOf [115] = 1 := rfl
          omega
        have hk5i : (k : Int) < 5 := by omega
        have d1 := hCi.D.cell (3 + k) _ (d.cellN hk5)
        go_wp2_with (first | (go_at_call 58; refine (hCi.need _).mono ?_; rintro e W6 ⟨rfl, hC6⟩; have s1 := hC6.L.cell (3 + k) _ (left.cellN hk5); have f1 := hC6.L.free (3 + k)))
        have hF := hC6.setL (3 + k) (.int .u32 0) (left.setN k) (left.setCellN hk5)
        obtain ⟨hpos, hst, hk1⟩ := HI.out
        have hlt := Hlt.out
        have hp2 := hF.I
        refine ⟨⟨i + 1, hlt, ?_, ?_⟩, ?_⟩
        · rw [hk1]; exact congrArg (Value.int .i64) (by rw [show kOf [115] = 1 from rfl]; omega)
        · rw [hst, show chk d (ok, k, left) (115 : UInt8) = (ok && decide (d.getN k ≤ 65535), k + 1, left.setN k) from rfl]; exact hF
        · rw [hpos]; unfold World.iterPos; rw [hp2]; show f.length + 1 - (i + 1) < _; omega
      · have hk5 : k < 5 := by
          have h1 := HI.out.2.2
          have e : kOf [108] = 1 := rfl
          omega
        have hk5i : (k : Int) < 5 := by omega
        have s1 := hCi.L.cell (3 + k) _ (left.cellN hk5)
        have f1 := hCi.L.free (3 + k)
        go_wp2
        have hF := hCi.setL (3 + k) (.int .u32 0) (left.setN k) (left.setCellN hk5)
        obtain ⟨hpos, hst, hk1⟩ := HI.out
        have hlt := Hlt.out
        have hp2 := hF.I
        refine ⟨⟨i + 1, hlt, ?_, ?_⟩, ?_⟩
        · rw [hk1]; exact congrArg (Value.int .i64) (by rw [show kOf [108] = 1 from rfl]; omega)
        · rw [hst, show chk d (ok, k, left) (108 : UInt8) = (ok, k + 1, left.setN k) from rfl]; exact hF
        · rw [hpos]; unfold World.iterPos; rw [hp2]; show f.length + 1 - (i + 1) < _; omega
      · have s1 := hCi.L.cell 0 _ rfl
        have f1 := hCi.L.free 0
        have hC7 := hCi.setL 0 (.string ⟨#[]⟩) { left with raw := ⟨#[]⟩ } rfl
        have d1 := hC7.D.cell 0 _ rfl
        go_wp2_with (first | (go_at_call 58; refine (hC7.need _).mono ?_; rintro e W6 ⟨rfl, hC6⟩))
        have hF := hC6
        obtain ⟨hpos, hst, hk1⟩ := HI.out
        have hlt := Hlt.out
        have hp2 := hF.I
        refine ⟨⟨i + 1, hlt, ?_, ?_⟩, ?_⟩
        · rw [hk1]; exact congrArg (Value.int .i64) (by rw [show kOf [97] = 0 from rfl]; omega)
        · rw [hst, show chk d (ok, k, left) (97 : UInt8) = (ok && ((d.raw.size : Int) == 4), k, { left with raw := ⟨#[]⟩ }) from rfl]; exact hF
        · rw [hpos]; unfold World.iterPos; rw [hp2]; show f.length + 1 - (i + 1) < _; omega
      · have s1 := hCi.L.cell 0 _ rfl
        have f1 := hCi.L.free 0
        have hC7 := hCi.setL 0 (.string ⟨#[]⟩) { left with raw := ⟨#[]⟩ } rfl
        have d1 := hC7.D.cell 0 _ rfl
        go_wp2_with (first | (go_at_call 58; refine (hC7.need _).mono ?_; rintro e W6 ⟨rfl, hC6⟩))
        have hF := hC6
        obtain ⟨hpos, hst, hk1⟩ := HI.out
        have hlt := Hlt.out
        have hp2 := hF.I
        refine ⟨⟨i + 1, hlt, ?_, ?_⟩, ?_⟩
        · rw [hk1]; exact congrArg (Value.int .i64) (by rw [show kOf [113] = 0 from rfl]; omega)
        · rw [hst, show chk d (ok, k, left) (113 : UInt8) = (ok && ((d.raw.size : Int) == 16), k, { left with raw := ⟨#[]⟩ }) from rfl]; exact hF
        · rw [hpos]; unfold World.iterPos; rw [hp2]; show f.length + 1 - (i + 1) < _; omega
      · have s1 := hCi.L.cell 0 _ rfl
        have f1 := hCi.L.free 0
        have hC7 := hCi.setL 0 (.string ⟨#[]⟩) { left with raw := ⟨#[]⟩ } rfl
        have d1 := hC7.D.cell 0 _ rfl
        obtain ⟨ok1, ho1⟩ : ∃ x, (ok && decide ((d.raw.size : Int) ≤ 65535)) = x := ⟨_, rfl⟩
        have HO1 := Lib.hid ho1
        cases ok1
        · clear ho1
          go_wp2_with (first | (go_at_call 58; refine (hC7.need _).mono ?_; rintro e W6 ⟨rfl, hC6⟩; rw [HO1.out] at hC6; have g1 := hC6.G.cell 0 _ rfl))
          have hF := hC6
          obtain ⟨hpos, hst, hk1⟩ := HI.out
          have hlt := Hlt.out
          have hp2 := hF.I
          refine ⟨⟨i + 1, hlt, ?_, ?_⟩, ?_⟩
          · rw [hk1]; exact congrArg (Value.int .i64) (by rw [show kOf [120] = 0 from rfl]; omega)
          · rw [hst, show chk d (ok, k, left) (120 : UInt8) = (ok && decide ((d.raw.size : Int) ≤ 65535) && txtV d.raw.data.toList, k, { left with raw := ⟨#[]⟩ }) from rfl, HO1.out]; exact hF
          · rw [hpos]; unfold World.iterPos; rw [hp2]; show f.length + 1 - (i + 1) < _; omega
        · have hr5 : d.raw.size ≤ 65535 := by
            simp only [Bool.and_eq_true, decide_eq_true_eq] at ho1
            omega
          clear ho1
          have htx := fun w => texts_ w d.raw (by omega)
          go_wp2_with (first | (go_at_call 60; refine (htx _).mono ?_; rintro e W8 ⟨⟨v8, rfl⟩, hb8⟩; have hC8 := hC6.below hb8; clear hb8) | (go_at_call 58; refine (hC8.need _).mono ?_; rintro e W9 ⟨rfl, hC9⟩) | (go_at_call 58; refine (hC7.need _).mono ?_; rintro e W6 ⟨rfl, hC6⟩; rw [HO1.out] at hC6; have g1 := hC6.G.cell 0 _ rfl; have d2 := hC6.D.cell 0 _ rfl; clear d1))
          have hF := hC9
          obtain ⟨hpos, hst, hk1⟩ := HI.out
          have hlt := Hlt.out
          have hp2 := hF.I
          refine ⟨⟨i + 1, hlt, ?_, ?_⟩, ?_⟩
          · rw [hk1]; exact congrArg (Value.int .i64) (by rw [show kOf [120] = 0 from rfl]; omega)
          · rw [hst, show chk d (ok, k, left) (120 : UInt8) = (ok && decide ((d.raw.size : Int) ≤ 65535) && txtV d.raw.data.toList, k, { left with raw := ⟨#[]⟩ }) from rfl, HO1.out]; exact hF
          · rw [hpos]; unfold World.iterPos; rw [hp2]; show f.length + 1 - (i + 1) < _; omega
      · have s1 := hCi.L.cell 0 _ rfl
        have f1 := hCi.L.free 0
        have hC7 := hCi.setL 0 (.string ⟨#[]⟩) { left with raw := ⟨#[]⟩ } rfl
        have d1 := hC7.D.cell 0 _ rfl
        go_wp2_with (first | (go_at_call 58; refine (hC7.need _).mono ?_; rintro e W6 ⟨rfl, hC6⟩))
        have hF := hC6
        obtain ⟨hpos, hst, hk1⟩ := HI.out
        have hlt := Hlt.out
        have hp2 := hF.I
        refine ⟨⟨i + 1, hlt, ?_, ?_⟩, ?_⟩
        · rw [hk1]; exact congrArg (Value.int .i64) (by rw [show kOf [114] = 0 from rfl]; omega)
        · rw [hst, show chk d (ok, k, left) (114 : UInt8) = (ok && decide ((d.raw.size : Int) ≤ 65535), k, { left with raw := ⟨#[]⟩ }) from rfl]; exact hF
        · rw [hpos]; unfold World.iterPos; rw [hp2]; show f.length + 1 - (i + 1) < _; omega
    · obtain rfl : i = f.length := by omega
      rw [List.take_length] at hcs
      have hend := fun ty => Go.Lib.run_next_end_at (P := Tryd.prog) wr (b + 3) (str f) f.length ty hC.I (by rw [str_size]; omega)
      have g1 := hC.G.cell 0 _ rfl
      have hB := hC.B
      have hokF : okF f d = (ok && decide (left = Dt.zero)) := by unfold okF; rw [hcs]
      have HOK := Lib.hid hokF
      clear hokF
      cases ok
      · clear hC hcs hset hgood hpos hkk
        go_wp2
        go_ret
        exact ⟨by rw [← HR.out, HOK.out]; rfl, hB⟩
      · have l0 := hC.L.cell 0 _ rfl
        have l1 := hC.L.cell 1 _ rfl
        have l2 := hC.L.cell 2 _ rfl
        have l3 := hC.L.cell 3 _ rfl
        have l4 := hC.L.cell 4 _ rfl
        have l5 := hC.L.cell 5 _ rfl
        have l6 := hC.L.cell 6 _ rfl
        have l7 := hC.L.cell 7 _ rfl
        have hne := fun w => neqD left w
        clear hC hcs hset hgood hpos hkk
        by_cases hz : left = Dt.zero
        · rw [decide_eq_true hz] at hne
          have HZ := Lib.hid hz
          clear hz
          go_wp2
          go_ret
          exact ⟨by rw [← HR.out, HOK.out, decide_eq_true HZ.out]; rfl, hB⟩
        · rw [decide_eq_false hz] at hne
          have HZ := Lib.hid hz
          clear hz
          go_wp2
          go_ret
          exact ⟨by rw [← HR.out, HOK.out, decide_eq_false HZ.out]; rfl, hB⟩
end Go.Proofs.YtdjknikkiojfhaaDoor

/- The document's data: which names, how many numbers a type has. -/
namespace Go.Proofs.YtdjknikkiojfhaaDoor
open Go.RowKit Go.HL Go.Maps
set_option linter.unusedVariables false
set_option linter.unusedSimpArgs false
/-- No type that is known. -/
structure NoT (t : Int) : Prop where
  e1 : (t == 1) = false
  e2 : (t == 2) = false
  e5 : (t == 5) = false
  e6 : (t == 6) = false
  e12 : (t == 12) = false
  e15 : (t == 15) = false
  e16 : (t == 16) = false
  e28 : (t == 28) = false
  e33 : (t == 33) = false
theorem tcase (t : Int) : t = 1 ∨ t = 2 ∨ t = 5 ∨ t = 6 ∨ t = 12 ∨ t = 15 ∨ t = 16 ∨ t = 28 ∨ t = 33 ∨ NoT t := by
  by_cases h1 : t = 1
  · exact .inl h1
  by_cases h2 : t = 2
  · exact .inr (.inl h2)
  by_cases h5 : t = 5
  · exact .inr (.inr (.inl h5))
  by_cases h6 : t = 6
  · exact .inr (.inr (.inr (.inl h6)))
  by_cases h12 : t = 12
  · exact .inr (.inr (.inr (.inr (.inl h12))))
  by_cases h15 : t = 15
  · exact .inr (.inr (.inr (.inr (.inr (.inl h15)))))
  by_cases h16 : t = 16
  · exact .inr (.inr (.inr (.inr (.inr (.inr (.inl h16))))))
  by_cases h28 : t = 28
  · exact .inr (.inr (.inr (.inr (.inr (.inr (.inr (.inl h28)))))))
  by_cases h33 : t = 33
  · exact .inr (.inr (.inr (.inr (.inr (.inr (.inr (.inr (.inl h33))))))))
  exact .inr (.inr (.inr (.inr (.inr (.inr (.inr (.inr (.inr ⟨by simpa using h1, by simpa using h2, by simpa using h5, by simpa using h6, by simpa using h12, by simpa using h15, by simpa using h16, by simpa using h28, by simpa using h33⟩))))))))
theorem NoT.form {t : Int} (h : NoT t) : formV t = [114] := by
  have k := h
  obtain ⟨e1, e2, e5, e6, e12, e15, e16, e28, e33⟩ := k
  simp only [beq_eq_false_iff_ne, ne_eq] at e1 e2 e5 e6 e12 e15 e16 e28 e33
  unfold formV kindsL
  simp only [formF]
  rw [if_neg (fun e => e1 e.symm), if_neg (fun e => e2 e.symm), if_neg (fun e => e5 e.symm), if_neg (fun e => e6 e.symm), if_neg (fun e => e12 e.symm), if_neg (fun e => e15 e.symm), if_neg (fun e => e16 e.symm), if_neg (fun e => e28 e.symm), if_neg (fun e => e33 e.symm)]
/-- Each type has one of nine forms. -/
theorem forms (t : Int) : formV t ∈ [[97], [104], [104, 109, 108, 108, 108, 108, 108], [115, 104], [120], [113], [115, 115, 115, 112], [(114 : UInt8)]] := by
  rcases tcase t with rfl | rfl | rfl | rfl | rfl | rfl | rfl | rfl | rfl | h
  · exact List.mem_of_getElem? (i := 0) rfl
  · exact List.mem_of_getElem? (i := 1) rfl
  · exact List.mem_of_getElem? (i := 1) rfl
  · exact List.mem_of_getElem? (i := 2) rfl
  · exact List.mem_of_getElem? (i := 1) rfl
  · exact List.mem_of_getElem? (i := 3) rfl
  · exact List.mem_of_getElem? (i := 4) rfl
  · exact List.mem_of_getElem? (i := 5) rfl
  · exact List.mem_of_getElem? (i := 6) rfl
  · rw [h.form]; exact List.mem_of_getElem? (i := 7) rfl
theorem form_good (t : Int) : (formV t).length ≤ 100 ∧ kOf (formV t) ≤ 5 ∧ ∀ c ∈ formV t, c ∈ [104, 112, 109, 115, 108, 97, 113, 120, (114 : UInt8)] := by
  have h := forms t
  generalize formV t = f at h
  simp only [List.mem_cons, List.not_mem_nil, or_false] at h
  rcases h with rfl | rfl | rfl | rfl | rfl | rfl | rfl | rfl <;> decide
theorem checkD_ (W : World) (d : Dt) (hz1 : d.host.size ≤ 140737488355328) (hz2 : d.mail.size ≤ 140737488355328) (hz3 : d.raw.size ≤ 140737488355328) (t : Int) (hK : Kd W) :
    Calls Tryd.prog 37 #[.int .u16 t, d.val] W fun e W' => e = .returned (.int .i64 (if okF (formV t) d then 0 else 40)) ∧ Below W.heap.size W W' :=
  checkF_ W d hz1 hz2 hz3 t hK (formV t) rfl (form_good t).1 (form_good t).2.1 (form_good t).2.2
/-- Has it a host? -/
def hostT (t : Int) : Bool := t == 2 || t == 5 || t == 12 || t == 6 || t == 15 || t == 33
set_option maxRecDepth 8000 in
theorem names_ (W : World) (t : Int) : Calls Tryd.prog 68 #[.int .u16 t] W fun e W' => e = .returned (.tuple #[.bool (hostT t), .bool (t == 6)]) ∧ W' = W := by
  rcases tcase t with rfl | rfl | rfl | rfl | rfl | rfl | rfl | rfl | rfl | h
  all_goals first
    | (obtain ⟨e1, e2, e5, e6, e12, e15, e16, e28, e33⟩ := h
       rw [show hostT t = false by unfold hostT; rw [e2, e5, e12, e6, e15, e33]; rfl, e6]
       go_enter Tryd.func68, Tryd.ntmps68
       go_wp2
       go_ret2
       exact ⟨rfl, rfl⟩)
    | (go_enter Tryd.func68, Tryd.ntmps68
       go_wp2
       go_ret2
       exact ⟨rfl, rfl⟩)
/-- How many numbers, of how many bits. -/
def numT (t : Int) : Int × Int := if t = 6 then (5, 32) else if t = 15 then (1, 16) else if t = 33 then (3, 16) else (0, 0)
set_option maxRecDepth 8000 in
theorem numbers_ (W : World) (t : Int) : Calls Tryd.prog 69 #[.int .u16 t] W fun e W' => e = .returned (.tuple #[.int .i64 (numT t).1, .int .i64 (numT t).2]) ∧ W' = W := by
  rcases tcase t with rfl | rfl | rfl | rfl | rfl | rfl | rfl | rfl | rfl | h
  all_goals first
    | (obtain ⟨e1, e2, e5, e6, e12, e15, e16, e28, e33⟩ := h
       rw [show numT t = (0, 0) by simp only [beq_eq_false_iff_ne, ne_eq] at e6 e15 e33; unfold numT; rw [if_neg e6, if_neg e15, if_neg e33]]
       go_enter Tryd.func69, Tryd.ntmps69
       go_wp2
       go_ret2
       exact ⟨rfl, rfl⟩)
    | (go_enter Tryd.func69, Tryd.ntmps69
       go_wp2
       go_ret2
       exact ⟨rfl, rfl⟩)
end Go.Proofs.YtdjknikkiojfhaaDoor

/- hearsayref01.Split, Is; hearsayref03.Size: contracts, by walks. -/
namespace Go.Proofs.YtdjknikkiojfhaaDoor
open Go.RowKit Go.HL
set_option linter.unusedVariables false
set_option linter.unusedSimpArgs false
theorem info_str : (Tryd.prog.info? 9).map (fun i => (i.zero, i.size, i.bytes)) = some (some (.string ByteArray.empty), 1, 16) := by kernel_rfl
/-- Labels as values. -/
def strs (ls : List (List UInt8)) : List Value := ls.map fun x => .string (str x)
theorem strs_snoc (ls : List (List UInt8)) (x : List UInt8) : strs (ls ++ [x]) = strs ls ++ [.string (str x)] := by simp [strs]
def SplitP (w : World) (s : ByteArray) (e : Ending) (w' : World) : Prop :=
  ∃ A n c, e = .returned (.tuple #[.slice A n c, .bool (isNm s)]) ∧ (isNm s = true → ∃ ls, labsT s.data.toList = some ls ∧ w'.ownsRow w.heap.size 9 1 (.slice A n c) ls.length (strs ls)) ∧ Below w.heap.size w w'
def InvS (w : World) (l : List UInt8) (v s : Value) (wr : World) : Prop :=
  ∃ (m : List UInt8) (pre : List (List UInt8)), s = .string (str m) ∧ pre.length + m.length ≤ 255 ∧ wr.ownsRow w.heap.size 9 1 v pre.length (strs pre) ∧ Hid ((labsT m).map (pre ++ ·) = labsT l) ∧ Below w.heap.size w wr
def sLen : Value → Nat
  | .string s => s.size
  | _ => 0
theorem str_mid (l : List UInt8) (i k : Nat) (h : i + k ≤ l.length) : (str l).extract i (i + k) = str ((l.drop i).take k) := by
  apply ByteArray.ext
  apply Array.ext'
  simp [str, List.drop_take, show i + k - i = k by omega]
set_option maxHeartbeats 1000000 in
theorem split_ (w : World) (s : ByteArray) (hs : s.size ≤ 140737488355328) : Calls Tryd.prog 67 #[.string s] w (SplitP w s) := by
  by_cases hbig : 255 < s.size
  · have hno : isNm s = false := by unfold isNm; rw [decide_eq_false (by omega)]; rfl
    have hb' : (255 : Int) < (s.size : Int) := by omega
    unfold SplitP
    rw [hno]
    go_enter Tryd.func67, Tryd.ntmps67
    go_wp2
    go_ret2
    exact ⟨none, 0, 0, rfl, (fun h => by cases h), Below.refl _ _⟩
  · have hb' : ¬ (255 : Int) < (s.size : Int) := by omega
    obtain ⟨l, hl⟩ : ∃ l, s.data.toList = l := ⟨_, rfl⟩
    have hsl : s = str l := by
      apply ByteArray.ext
      apply Array.ext'
      rw [hl, str_toList]
    have hll : l.length = s.size := by rw [← hl]; simp
    have HNM := Lib.hid (show isNm s = (labsT l).isSome by unfold isNm; rw [decide_eq_true (by omega), hl]; rfl)
    have HSL := Lib.hid hsl
    have HL0 := Lib.hid hl
    have HLL := Lib.hid hll
    clear hll hl hbig hsl
    go_enter Tryd.func67, Tryd.ntmps67
    go_wp2
    go_loopw [4, 5] (fun v s wr => InvS w l v s wr) (fun _ s _ => sLen s)
    case atStart => exact ⟨l, [], by rw [HSL.out], by have := HLL.out; simp; omega, World.ownsRow_nil _ _ _ _, Lib.hid (by simp), Below.refl _ _⟩
    case round =>
      obtain ⟨m, pre, rfl, hpm, ho, HE, hb⟩ := hrel
      cases m with
      | nil =>
        go_wp2
        go_ret2
        have he := HE.out
        rw [labsT_nil] at he
        have hnm : isNm s = false := by rw [HNM.out, ← he]; rfl
        exact ⟨none, 0, 0, by rw [hnm]; rfl, (fun h => by rw [hnm] at h; cases h), hb⟩
      | cons b r =>
        rw [List.length_cons] at hpm
        have hi := fun W => idx_str (P := Tryd.prog) 9 Tryd.underlying9 .i64 0 (str (b :: r)) (by rw [str_size]; simp) W
        rw [str_toList] at hi
        simp only [List.getD_cons_zero] at hi
        have hi : ∀ W, (Instr.index 9 (.string (str (b :: r))) (.int .i64 0)).run Tryd.prog W = .ok (.int .u8 (b.toNat : Int)) W := hi
        have hm1 := fun k (h : k ≤ r.length) => str_mid (b :: r) 1 k (by simp; omega)
        have hm2 := fun k (h : k ≤ r.length) => str_cut (b :: r) (k + 1) (by simp; omega)
        simp only [List.drop_succ_cons, List.drop_zero] at hm1 hm2
        have hsz : (str (b :: r)).size = r.length + 1 := by rw [str_size]; simp
        have he := HE.out
        clear HE
        obtain ⟨k, hk⟩ : ∃ k, b.toNat = k := ⟨_, rfl⟩
        have hk2 : k < 256 := by rw [← hk]; exact b.toNat_lt
        rw [hk] at hi
        by_cases hk0 : k = 0
        · have hb0 : b = 0 := UInt8.toNat_inj.1 (by simpa [hk0] using hk)
          rw [hb0, labsT_zero] at he
          subst hk0
          have HE := Lib.hid he
          obtain ⟨s1, hs1⟩ : ∃ s1, str (b :: r) = s1 := ⟨_, rfl⟩
          rw [hs1] at hi hsz ⊢
          have hs0 : (0 : Int) < (s1.size : Int) := by omega
          clear he hm1 hm2 hk hs1
          by_cases hr0 : r.length = 0
          · have hd : ((s1.size : Int) == 1) = true := by simp; omega
            clear hsz
            go_wp2
            go_ret2
            have he := HE.out
            rw [if_pos (List.eq_nil_of_length_eq_zero hr0)] at he
            have he2 : labsT l = some pre := by rw [← he]; simp
            have hnm : isNm s = true := by rw [HNM.out, he2]; rfl
            obtain ⟨A, c, rfl, hr⟩ := own_rd ho
            exact ⟨A, _, c, by rw [hnm]; rfl, fun _ => ⟨pre, by rw [HL0.out]; exact he2, ho⟩, hb⟩
          · have hd : ((s1.size : Int) == 1) = false := by simp; omega
            clear hsz
            go_wp2
            go_ret2
            have he := HE.out
            rw [if_neg (fun e => hr0 (by rw [e]; rfl))] at he
            have hnm : isNm s = false := by rw [HNM.out, ← he]; rfl
            obtain ⟨A, c, rfl, hr⟩ := own_rd ho
            exact ⟨A, _, c, by rw [hnm]; rfl, (fun h => by rw [hnm] at h; cases h), hb⟩
        · have hk1 : ((k : Int) == 0) = false := by simp; omega
          by_cases h63 : 63 < k
          · have h63' : (63 : Int) < (k : Int) := by omega
            rw [labsT_big b r (by omega)] at he
            have HE := Lib.hid he
            obtain ⟨s1, hs1⟩ : ∃ s1, str (b :: r) = s1 := ⟨_, rfl⟩
            rw [hs1] at hi hsz ⊢
            have hs0 : (0 : Int) < (s1.size : Int) := by omega
            clear he hm1 hm2 hk hs1
            go_wp2
            go_ret2
            have hnm : isNm s = false := by rw [HNM.out, ← HE.out]; rfl
            exact ⟨none, 0, 0, by rw [hnm]; rfl, (fun h => by rw [hnm] at h; cases h), hb⟩
          have h63' : ¬ (63 : Int) < (k : Int) := by omega
          rw [labsT_cons b r (fun e => hk0 (by rw [← hk, e]; rfl)) (by omega), hk] at he
          by_cases hsh : r.length < k
          · rw [if_pos hsh] at he
            have HE := Lib.hid he
            obtain ⟨s1, hs1⟩ : ∃ s1, str (b :: r) = s1 := ⟨_, rfl⟩
            rw [hs1] at hi hsz ⊢
            have hs0 : (0 : Int) < (s1.size : Int) := by omega
            have hs2 : (s1.size : Int) < (k : Int) + 1 := by omega
            clear he hm1 hm2 hk hs1
            go_wp2
            go_ret2
            have hnm : isNm s = false := by rw [HNM.out, ← HE.out]; rfl
            exact ⟨none, 0, 0, by rw [hnm]; rfl, (fun h => by rw [hnm] at h; cases h), hb⟩
          · rw [if_neg hsh, Option.map_map] at he
            have HE := Lib.hid (show (labsT (r.drop k)).map ((pre ++ [r.take k]) ++ ·) = labsT l by
              rw [← he]
              congr 1
              funext x
              simp)
            have hm1 := hm1 k (by omega)
            have hm2 := hm2 k (by omega)
            obtain ⟨s1, hs1⟩ : ∃ s1, str (b :: r) = s1 := ⟨_, rfl⟩
            rw [hs1] at hi hsz hm1 hm2 ⊢
            obtain ⟨x1, hx1⟩ : ∃ x1, str (r.take k) = x1 := ⟨_, rfl⟩
            obtain ⟨x2, hx2⟩ : ∃ x2, str (r.drop k) = x2 := ⟨_, rfl⟩
            rw [hx1, Nat.add_comm 1 k] at hm1
            rw [hx2] at hm2
            have HX1 := Lib.hid hx1
            have HX2 := Lib.hid hx2
            have hs0 : (0 : Int) < (s1.size : Int) := by omega
            have hs2 : ¬ (s1.size : Int) < (k : Int) + 1 := by omega
            have hs3 : (k : Int) + 1 ≤ (s1.size : Int) := by omega
            have hsr : s1.size = r.length + 1 := hsz
            have HSR := Lib.hid hsr
            clear he hk hs1 hx1 hx2 hsz hsr
            obtain ⟨A1, c1, rfl, hr1⟩ := own_rd ho
            have happ : App wr w.heap.size 9 1 (.slice A1 pre.length c1) pre.length (strs pre) := .own ho
            clear hr1
            go_wp2_with (at_builtin; refine wpList_app1 (w0 := w) w.heap.size rfl _ _ 112 9 (.string ByteArray.empty) 16 rfl Tryd.underlying112 info_str rfl (by omega) (.slice A1 pre.length c1) pre.length (strs pre) (.string x1) rfl happ rfl rfl hb hb.size (by omega) ?_; intro v1 w1 ho1 hb1 hg1)
            go_roundw
            case rel => exact ⟨r.drop k, pre ++ [r.take k], by rw [HX2.out], by rw [List.length_append, List.length_drop]; simp; omega, by rw [strs_snoc, HX1.out, List.length_append]; exact ho1, HE, hb1⟩
            case measure => show x2.size < s1.size; rw [← HX2.out, str_size, List.length_drop, HSR.out]; omega
theorem is_ (w : World) (s : ByteArray) (hs : s.size ≤ 140737488355328) : Calls Tryd.prog 44 #[.string s] w fun e w' => e = .returned (.bool (isNm s)) ∧ Below w.heap.size w w' := by
  go_enter Tryd.func44, Tryd.ntmps44
  go_wp2_with (go_at_call 67; refine (split_ _ _ hs).mono ?_; rintro e w1 ⟨A, n, c, rfl, hn, hb⟩; clear hn)
  go_ret
  exact ⟨rfl, hb⟩
end Go.Proofs.YtdjknikkiojfhaaDoor

/- The document's short texts. -/
namespace Go.Proofs.YtdjknikkiojfhaaDoor
open Go.RowKit Go.HL Go.Maps
set_option linter.unusedVariables false
set_option linter.unusedSimpArgs false
set_option maxRecDepth 8000 in
set_option maxHeartbeats 2000000 in
theorem rtexts_ (w : World) (l : List UInt8) (hs : l.length ≤ 100000000) : Calls Tryd.prog 83 #[.string (str l)] w fun e w' => (∃ v, e = .returned (.tuple #[v, .bool (txtV l)])) ∧ Below w.heap.size w w' := by
  go_enter Tryd.func83, Tryd.ntmps83
  go_wp2
  go_loopw [0, 4] (fun sv v wr => ∃ (m : List UInt8) (q : Nat) (cs : List Value), sv = .string (str m) ∧ q + m.length ≤ l.length ∧ (m.length < l.length → 0 < q) ∧ wr.ownsRow w.heap.size 9 1 v q cs ∧ txtOk m = txtOk l ∧ Below w.heap.size w wr) (fun sv _ _ => sLen sv)
  case atStart => exact ⟨l, 0, [], rfl, by omega, fun h => by omega, World.ownsRow_nil _ _ _ _, rfl, Below.refl _ _⟩
  case round =>
    obtain ⟨m, q, cs, rfl, hq, hq0, ho, ht, hb⟩ := hrel
    cases m with
    | nil =>
      obtain ⟨A, c, rfl, -⟩ := own_rd ho
      have hz : (str ([] : List UInt8)).size = 0 := rfl
      obtain ⟨s1, hs1⟩ : ∃ s1, str ([] : List UInt8) = s1 := ⟨_, rfl⟩
      rw [hs1] at hz ⊢
      have hs0 : ¬ (0 : Int) < (s1.size : Int) := by omega
      clear hs1 hz
      go_wp2
      go_ret2
      refine ⟨⟨.slice A q c, ?_⟩, hb⟩
      rw [show txtV l = decide (0 < q) from ?_]
      · rfl
      · unfold txtV
        rw [← ht, show txtOk [] = true by rw [txtOk]]
        cases l with
        | nil => simp at hq; have e0 : q = 0 := (by omega); simp [e0]
        | cons a r => simp at hq0; simp; omega
    | cons b r =>
      rw [List.length_cons] at hq hq0
      have hi := fun W => idx_str (P := Tryd.prog) 9 Tryd.underlying9 .i64 0 (str (b :: r)) (by rw [str_size]; simp) W
      rw [str_toList] at hi
      simp only [List.getD_cons_zero] at hi
      have hi : ∀ W, (Instr.index 9 (.string (str (b :: r))) (.int .i64 0)).run Tryd.prog W = .ok (.int .u8 (b.toNat : Int)) W := hi
      have hm1 := fun k (h : k ≤ r.length) => str_mid (b :: r) 1 k (by simp; omega)
      have hm2 := fun k (h : k ≤ r.length) => str_cut (b :: r) (k + 1) (by simp; omega)
      simp only [List.drop_succ_cons, List.drop_zero] at hm1 hm2
      have hsz : (str (b :: r)).size = r.length + 1 := by rw [str_size]; simp
      rw [txtOk_cons] at ht
      obtain ⟨k, hk⟩ : ∃ k, b.toNat = k := ⟨_, rfl⟩
      have hk2 : k < 256 := by rw [← hk]; exact b.toNat_lt
      rw [hk] at hi ht
      obtain ⟨s1, hs1⟩ : ∃ s1, str (b :: r) = s1 := ⟨_, rfl⟩
      rw [hs1] at hi hm1 hm2 hsz ⊢
      have hs0 : (0 : Int) < (s1.size : Int) := by omega
      by_cases hsh : r.length < k
      · rw [if_pos hsh] at ht
        have HT := Lib.hid ht
        have hlt : (s1.size : Int) < (k : Int) + 1 := by omega
        clear ht hm1 hm2 hs1 hk
        go_wp2
        go_ret2
        refine ⟨⟨.slice none 0 0, ?_⟩, hb⟩
        rw [show txtV l = false by unfold txtV; rw [← HT.out]; rfl]
        rfl
      · rw [if_neg hsh] at ht
        have HT := Lib.hid ht
        have hlt : ¬ (s1.size : Int) < (k : Int) + 1 := by omega
        have hm1 := hm1 k (by omega)
        have hm2 := hm2 k (by omega)
        obtain ⟨x1, hx1⟩ : ∃ x1, str (r.take k) = x1 := ⟨_, rfl⟩
        obtain ⟨x2, hx2⟩ : ∃ x2, str (r.drop k) = x2 := ⟨_, rfl⟩
        rw [hx1, Nat.add_comm 1 k] at hm1
        rw [hx2] at hm2
        have HX2 := Lib.hid hx2
        have HSR := Lib.hid hsz
        have hs3 : (k : Int) + 1 ≤ (s1.size : Int) := by omega
        clear hx1 hx2 hsz
        obtain ⟨A1, c1, rfl, -⟩ := own_rd ho
        have happ : App wr w.heap.size 9 1 (.slice A1 q c1) q cs := .own ho
        have hbs := hb.size
        clear ht hs1 hk
        go_wp2_with (at_builtin; refine wpList_app1 (w0 := w) w.heap.size rfl _ _ 112 9 (.string ByteArray.empty) 16 rfl Tryd.underlying112 info_str rfl (by omega) (.slice A1 q c1) q cs (.string x1) rfl happ rfl rfl hb hbs (by omega) ?_; intro v1 w1 ho2 hb2 hg2)
        go_roundw
        case rel => exact ⟨r.drop k, q + 1, _, by rw [HX2.out], by rw [List.length_drop]; omega, fun _ => by omega, ho2, HT.out, hb2⟩
        case measure => show x2.size < s1.size; rw [← HX2.out, str_size, List.length_drop, HSR.out]; omega
end Go.Proofs.YtdjknikkiojfhaaDoor
