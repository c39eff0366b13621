/- The document's Put: contract. -/
import Derived.Test.YtioehogncgloiaaPL3
namespace Go.Proofs.Ytioehogncgloiaa
open Go.RowKit Go.HL Go.Maps
set_option linter.unusedVariables false
set_option linter.unusedSimpArgs false
/-- The document's cache with a row of one's own. -/
structure RO (B : Nat) (W : World) (M : Nat) (v : Value) (room : Int) (row : List Re) : Prop where
  hd : Blk W M 62 [v, .int .i64 room]
  ow : W.ownsRow B 91 10 v row.length (res row)
theorem RO.below {B M : Nat} {W W' : World} {v : Value} {room : Int} {row : List Re} (h : RO B W M v room row) (k : Below W.heap.size W W') : RO B W' M v room row := ⟨h.hd.below k, own_below h.ow k⟩
theorem RO.ref {B M : Nat} {W : World} {v : Value} {room : Int} {row : List Re} (h : RO B W M v room row) : RefW W M v room row := RefW.mk' h.hd h.ow
theorem RO.ne {B M : Nat} {W : World} {v : Value} {room : Int} {row : List Re} (h : RO B W M v room row) : v.ownBlock ≠ some M := own_ne_blk h.ow h.hd (by decide)
def tookV : Option Re → Value
  | none => reZero
  | some e => e.val
def RTake2P (B : Nat) (W : World) (M : Nat) (room : Int) (row : List Re) (O : Option Re) (en : Ending) (W' : World) : Prop :=
  en = .returned (.tuple #[tookV O, .bool O.isSome]) ∧ ∃ v', RO B W' M v' room row ∧ Fr (fun k => k = M) W W'
theorem rmR_none {q : Qn} {row : List Re} (h : findR q row = none) : rmR q row = row := by
  unfold findR at h
  unfold rmR
  exact List.eraseP_of_forall_not (fun x hx => by have := List.find?_eq_none.1 h x hx; simpa using this)
theorem rtake2_ (B : Nat) (W : World) (M : Nat) (v : Value) (room : Int) (row : List Re) (h : RO B W M v room row) (hB : B ≤ W.heap.size) (hlen : row.length ≤ 5000) (q : Qn) :
    Calls Try.prog 44 #[ptr (some M), q.val] W (RTake2P B W M room (rmR q row) (findR q row)) := by
  refine (rtake_ W M v room row h.ref hlen q).mono ?_
  intro en W' hp
  cases hf : findR q row with
  | none =>
    rw [hf] at hp
    obtain ⟨rfl, hb⟩ := hp
    exact ⟨rfl, v, by rw [rmR_none hf]; exact h.below hb, Fr.of_below hb⟩
  | some e =>
    rw [hf] at hp
    obtain ⟨rfl, v', h1, h2, h3⟩ := hp
    exact ⟨rfl, v', ⟨h1, own_lower h2 hB⟩, h3⟩
/-- While an entry is appended, and the row laid into the cache. -/
structure RI (B M : Nat) (v5 : Value) (room : Int) (row5 rowN : List Re) (W5 : World) (da ds : Bool) (W : World) : Prop where
  f : Fr (fun k => k = M ∨ v5.ownBlock = some k) W5 W
  a : da = false → RO B W M v5 room row5
  b : ds = false → Blk W M 62 [v5, .int .i64 room]
  c : ds = true → ∃ u, RO B W M u room rowN
  e : ds = true → da = true
theorem RI.below {B M : Nat} {v5 : Value} {room : Int} {row5 rowN : List Re} {W5 W W' : World} {da ds : Bool} (h : RI B M v5 room row5 rowN W5 da ds W) (k : Below W.heap.size W W') : RI B M v5 room row5 rowN W5 da ds W' :=
  ⟨h.f.trans (Fr.of_below k), fun x => (h.a x).below k, fun x => (h.b x).below k, fun x => by obtain ⟨u, hu⟩ := h.c x; exact ⟨u, hu.below k⟩, h.e⟩
def rgA (b5 : Nat) (e : Re) (u : Value) (W : World) : Prop := ∃ gg, u = .slice (some ⟨gg, 0, none⟩) 1 1 ∧ b5 ≤ gg ∧ Blk W gg 91 e.cells
def rgB (B : Nat) (rowN : List Re) (u : Value) (W : World) : Prop := W.ownsRow B 91 10 u rowN.length (res rowN)
theorem rgA.below {b5 : Nat} {e : Re} {u : Value} {W W' : World} (h : rgA b5 e u W) (k : Below W.heap.size W W') : rgA b5 e u W' := by
  obtain ⟨gg, h1, h2, h3⟩ := h
  exact ⟨gg, h1, h2, h3.below k⟩
theorem rgA.fr {S : Nat → Prop} {b5 : Nat} {e : Re} {u : Value} {W W' : World} (h : rgA b5 e u W) (k : Fr S W W') (hs : ∀ i, S i → i < b5) : rgA b5 e u W' := by
  obtain ⟨gg, h1, h2, h3⟩ := h
  exact ⟨gg, h1, h2, h3.fr k (fun x => by have := hs _ x; omega)⟩
def rpI (B M : Nat) (v5 : Value) (room : Int) (row5 rowN : List Re) (W5 : World) : List Bool → World → Prop
  | [_, _, da, ds], W => RI B M v5 room row5 rowN W5 da ds W
  | _, _ => True
def rpG (b5 B : Nat) (e : Re) (rowN : List Re) : Nat → Value → World → Prop
  | 11, u, W => rgA b5 e u W
  | 12, u, W => rgB B rowN u W
  | _, _, _ => True
theorem rpG_keep {b5 B : Nat} {e : Re} {rowN : List Re} {j : Nat} {u : Value} {W W' : World} (h : rpG b5 B e rowN j u W) (h1 : rgA b5 e u W → rgA b5 e u W') (h2 : rgB B rowN u W → rgB B rowN u W') : rpG b5 B e rowN j u W' := by
  unfold rpG at *
  split at h
  · exact h1 h
  · exact h2 h
  · trivial
theorem rpG_keep2 {b5 B : Nat} {e : Re} {rowN : List Re} {j : Nat} {u : Value} {W W' : World} (h : rpG b5 B e rowN j u W) (hj : j ≠ 12) (h1 : rgA b5 e u W → rgA b5 e u W') : rpG b5 B e rowN j u W' := by
  unfold rpG at *
  split at h
  · exact h1 h
  · exact absurd rfl hj
  · trivial
theorem nmI_ok (s : ByteArray) : (isNm s = false ∨ isNm s = true) := by cases isNm s <;> simp
def rpc (M : Nat) (v5 : Value) (q : Qn) (a : Am) (now lf : Int) : List (Option Value) := [some (.pointer (some ⟨M, 0, none⟩)), some (.pointer (some ⟨M, 0, none⟩)), some (.pointer (some ⟨M, 0, none⟩)), some (.pointer (some ⟨M, 0, none⟩)), some v5, some q.val, some (foldQ q).val, some a.val, some (.int .i64 now), some (.int .i64 lf), some (.agg #[.string (foldQ q).nm, .int .u16 (foldQ q).ty, .int .u16 (foldQ q).cl, .int .u16 a.rc, .bool a.aa, .slice a.an.a a.an.n a.an.c, .slice a.au.a a.au.n a.au.c, .slice a.ex.a a.ex.n a.ex.c, .int .i64 now, .int .i64 lf]), none, none, some (.pointer (some ⟨M, 0, none⟩)), some (.pointer (some ⟨M, 0, none⟩)), some undef]
def RPutP (W : World) (M : Nat) (room : Int) (row : List Re) (en0 : Re) (P : List Ae × Bool) (en : Ending) (W' : World) : Prop :=
  ∃ v' row', en = .returned (.bool P.2) ∧ row'.map Re.e = P.1 ∧ RefW W' M v' room row' ∧ Fr (fun k => k = M) W W' ∧ (∀ i, RB v' i → W.heap.size ≤ i) ∧ ∀ e ∈ row', e ∈ row ∨ e = en0
theorem RO.rb {B M : Nat} {W : World} {v : Value} {room : Int} {row : List Re} (h : RO B W M v room row) (i : Nat) (hi : RB v i) : B ≤ i := own_base h.ow i (own_rb h.ow i hi)
theorem sweepR_mem {now : Int} {row : List Re} {e : Re} (h : e ∈ sweepR now row) : e ∈ row := (List.mem_filter.1 h).1
theorem rmR_mem {q : Qn} {row : List Re} {e : Re} (h : e ∈ rmR q row) : e ∈ row := List.mem_of_mem_eraseP h
theorem sweepR_len (now : Int) (l : List Re) : (sweepR now l).length ≤ l.length := List.length_filter_le _ _
theorem rmR_len (k : Qn) (l : List Re) : (rmR k l).length ≤ l.length := List.length_eraseP_le
theorem cutS_blk {A : Option Addr} {lo c size : Nat} {b : Addr} (h : cutS A lo c size = some b) : ∃ a, A = some a ∧ b.block = a.block := by
  unfold cutS at h
  split at h
  · exact ⟨b, h, rfl⟩
  · obtain ⟨a, h1, h2⟩ := Option.map_eq_some_iff.1 h
    refine ⟨a, h1, ?_⟩
    rw [← h2]
    unfold Addr.add
    split <;> rfl
theorem RO.cut {B M : Nat} {W : World} {A : Option Addr} {n c : Nat} {room : Int} {l : List Re} (h : RO B W M (.slice A n c) room l) (hl : l.length = n) (hn : 1 ≤ n) :
    RefW (W.setCell ⟨M, 0, none⟩ (.slice (cutS A 1 c 10) (n - 1) (c - 1))) M (.slice (cutS A 1 c 10) (n - 1) (c - 1)) room (l.drop 1) ∧ ∀ i, RB (.slice (cutS A 1 c 10) (n - 1) (c - 1)) i → B ≤ i := by
  obtain ⟨A', c', e1, hr⟩ := own_rd h.ow
  obtain ⟨rfl, -, rfl⟩ : A = A' ∧ n = l.length ∧ c = c' := by simpa using e1
  rw [hl] at hr
  have hb : ∀ (b : Addr), cutS A 1 c 10 = some b → (Value.slice A n c).ownBlock = some b.block := fun b hb => by
    obtain ⟨a, ha, hbb⟩ := cutS_blk hb
    rw [hbb]
    exact own_rb h.ow _ ⟨a, n, c, by rw [ha], by omega, rfl⟩
  have hne : ∀ (b : Addr), cutS A 1 c 10 = some b → b.block ≠ M := fun b hb2 e => h.ne (by rw [hb b hb2, e])
  have hcut := hr.cutS 1 (n - 1) c (by omega) (by have := hr.le; omega) (Nat.le_refl _)
  rw [res_drop, show (res (l.drop 1)).take ((n - 1) * 10) = res (l.drop 1) by rw [List.take_of_length_le]; rw [res_len, List.length_drop, hl]; exact Nat.le_refl _] at hcut
  have hld : (l.drop 1).length = n - 1 := by rw [List.length_drop, hl]
  refine ⟨⟨h.hd.set 0 _, ⟨_, _, by rw [hld], ?_⟩, fun b m k hv h0 => ?_⟩, fun i hi => ?_⟩
  · rw [hld]
    exact Rd.fr0 hcut (fr_set W M 0 _) (fun b hb2 _ => hne b hb2)
  · simp only [Value.slice.injEq] at hv
    exact hne _ hv.1
  · obtain ⟨b, m, k, hv, _, rfl⟩ := hi
    simp only [Value.slice.injEq] at hv
    exact own_base h.ow _ (hb _ hv.1)
set_option maxRecDepth 8000 in
set_option maxHeartbeats 8000000 in
theorem rput_ (W : World) (M : Nat) (v : Value) (room : Int) (row : List Re) (h : RefW W M v room row) (hok : ∀ e ∈ row, (0 ≤ e.put ∧ e.put ≤ 4611686018427387904) ∧ (0 ≤ e.life ∧ e.life ≤ 2147483647)) (hlen : row.length ≤ 4500) (hr1 : 1 ≤ room) (q : Qn) (hq : q.nm.size ≤ 2000) (a : Am) (ha : a.ok W) (hs : a.small) (hap : a.apart (fun k => k = M)) (now : Int) :
    Calls Try.prog 20 #[ptr (some M), q.val, a.val, .int .i64 now] W (RPutP W M room row ⟨foldQ q, a, clockV now, a.life⟩ (putV room (row.map Re.e) q a.rc a.an.l a.au.l a.ex.l now)) := by
  obtain ⟨P, hP⟩ : ∃ P, putV room (row.map Re.e) q a.rc a.an.l a.au.l a.ex.l now = P := ⟨_, rfl⟩
  rw [hP]
  unfold putV at hP
  rw [← sweepR_e, ← rmR_e, ← show a.life = lifeV a.rc a.an.l a.au.l a.ex.l from rfl] at hP
  have HNE := Lib.hid (show newAe q a.rc a.an.l a.au.l a.ex.l (clockV now) = Re.e ⟨foldQ q, a, clockV now, a.life⟩ from rfl)
  have hclk := fun W => rclock_ W now
  have hcb := clockV_bd now
  obtain ⟨cn, hcn⟩ : ∃ x, clockV now = x := ⟨_, rfl⟩
  rw [hcn] at hP hclk hcb HNE ⊢
  have b1 := below_new W (.cells #[.string q.nm, .int .u16 q.ty, .int .u16 q.cl] 25)
  have b2 := below_alloc b1 (.cells #[.int .u16 a.rc, .bool a.aa, .slice a.an.a a.an.n a.an.c, .slice a.au.a a.au.n a.au.c, .slice a.ex.a a.ex.n a.ex.c] 28)
  have hQ := (Blk.new W 25 #[.string q.nm, .int .u16 q.ty, .int .u16 q.cl]).alloc (.cells #[.int .u16 a.rc, .bool a.aa, .slice a.an.a a.an.n a.an.c, .slice a.au.a a.au.n a.au.c, .slice a.ex.a a.ex.n a.ex.c] 28)
  have hA := Blk.new (W.alloc (.cells #[.string q.nm, .int .u16 q.ty, .int .u16 q.cl] 25)) 28 #[.int .u16 a.rc, .bool a.aa, .slice a.an.a a.an.n a.an.c, .slice a.au.a a.au.n a.au.c, .slice a.ex.a a.ex.n a.ex.c]
  rw [World.size_alloc] at hA
  have hz : ((W.alloc (.cells #[.string q.nm, .int .u16 q.ty, .int .u16 q.cl] 25)).alloc (.cells #[.int .u16 a.rc, .bool a.aa, .slice a.an.a a.an.n a.an.c, .slice a.au.a a.au.n a.au.c, .slice a.ex.a a.ex.n a.ex.c] 28)).heap.size = W.heap.size + 2 := by rw [World.size_alloc, World.size_alloc]
  obtain ⟨W0, hW0⟩ : ∃ x, (W.alloc (.cells #[.string q.nm, .int .u16 q.ty, .int .u16 q.cl] 25)).alloc (.cells #[.int .u16 a.rc, .bool a.aa, .slice a.an.a a.an.n a.an.c, .slice a.au.a a.au.n a.au.c, .slice a.ex.a a.ex.n a.ex.c] 28) = x := ⟨_, rfl⟩
  obtain ⟨g, hg⟩ : ∃ x, W.heap.size = x := ⟨_, rfl⟩
  rw [hW0] at b2 hQ hA hz
  have hMg : M < g := by rw [← hg]; exact h.hd.lt
  rw [hg] at hQ hA hz
  have hsw := rsweep_ W0 M v room row (h.below b2) hok (by omega) cn
  have ha0 := ha.below b2
  have HQ := Lib.hid hQ
  have HA := Lib.hid hA
  have HG := Lib.hid (And.intro hg (And.intro hz hMg))
  have HB := Lib.hid b2
  have hl1 := sweepR_len cn row
  have hsm := fun e => sweepR_mem (now := cn) (row := row) (e := e)
  obtain ⟨row1, hrow1⟩ : ∃ x, sweepR cn row = x := ⟨_, rfl⟩
  rw [hrow1] at hsw hP hl1 hsm
  have HSM := Lib.hid hsm
  have hlf := Am.life_nn ha
  have haM : a.apart (fun k => k = M) := hap.mono (fun i hi => hi)
  have hlfe := fun W (hw : Below W0.heap.size W0 W ∨ Fr (fun k => k = M) W0 W) => refLife_ W a (by rcases hw with hw | hw; exact ha0.below hw; exact ha0.fr hw haM) hs
  obtain ⟨lf, hlfv⟩ : ∃ x, a.life = x := ⟨_, rfl⟩
  rw [hlfv] at hP hlf hlfe HNE ⊢
  clear h hok hQ hA b1 b2 hz hg hrow1 hcn hlfv hsm
  unfold ptr at hsw ⊢
  unfold Qn.val Am.val
  unfold Am.val at hlfe
  simp only [Option.map] at hsw ⊢
  go_enter Try.func20, Try.ntmps20
  go_upto_region 3 with (first | (go_at_call 40; refine (hclk _).mono ?_; rintro e w' ⟨rfl, rfl⟩) | (go_at_call 41; refine hsw.mono ?_; clear hsw; rintro e W1 ⟨rfl, v1, hB1, ho1, hF1⟩))
  rw [HG.out.1]
  have R1 : RO (g + 2) W1 M v1 room row1 := ⟨hB1, by rw [← HG.out.2.1]; exact ho1⟩
  have hneM : ¬ g = M ∧ ¬ g + 1 = M := by have := HG.out; omega
  have hA1 := HA.out.fr hF1 hneM.2
  have hQ1 := HQ.out.fr hF1 hneM.1
  have j0 := hA1.cell 0 _ rfl
  have j1 := hA1.cell 1 _ rfl
  have j2 := hA1.cell 2 _ rfl
  have j3 := hA1.cell 3 _ rfl
  have j4 := hA1.cell 4 _ rfl
  have hlf1 := hlfe W1 (.inr hF1)
  have HF1 := Lib.hid hF1
  have HR1 := Lib.hid R1
  have HA1 := Lib.hid hA1
  clear hlfe hclk hB1 ho1 hF1 R1 hA1
  have his : ∀ W, Calls Try.prog 43 #[.string q.nm] W fun e w' => e = .returned (.bool (isNm q.nm)) ∧ Below W.heap.size W w' := fun W => is_ W q.nm (by omega)
  obtain ⟨N, hN⟩ : ∃ x, isNm q.nm = x := ⟨_, rfl⟩
  rw [hN] at his hP
  clear hN
  by_cases hbad : lf = 0 ∨ N = false
  · rw [if_pos hbad] at hP
    subst hP
    have fin : ∀ W3, Below W1.heap.size W1 W3 → RPutP W M room row ⟨foldQ q, a, cn, lf⟩ (row1.map Re.e, false) (.returned (.bool false)) W3 := fun W3 hb => ⟨v1, row1, rfl, rfl, (HR1.out.below hb).ref, (Fr.of_below HB.out).trans ((HF1.out.mono (fun i _ hi => .inl hi)).trans (Fr.of_below hb)), fun i hi => by have := HR1.out.rb i hi; have := HG.out; omega, fun e he => .inl (HSM.out e he)⟩
    have HFI := Lib.hid fin
    clear fin
    cases N
    · go_wp2_with (first | (go_at_call 42; refine hlf1.mono ?_; clear hlf1; rintro e W2 ⟨rfl, hb2⟩; have y0 := (hQ1.below hb2).cell 0 _ rfl) | (go_at_call 43; refine (his _).mono ?_; clear his; rintro e W3 ⟨rfl, hb3⟩))
      go_ret
      exact HFI.out _ (below_trans hb2 hb3)
    · have hl0 : lf = 0 := by rcases hbad with h | h; exact h; cases h
      subst hl0
      go_wp2_with (first | (go_at_call 42; refine hlf1.mono ?_; clear hlf1; rintro e W2 ⟨rfl, hb2⟩; have y0 := (hQ1.below hb2).cell 0 _ rfl) | (go_at_call 43; refine (his _).mono ?_; clear his; rintro e W3 ⟨rfl, hb3⟩))
      go_ret
      exact HFI.out _ (below_trans hb2 hb3)
  rw [if_neg hbad] at hP
  have hl0 : ¬ lf = 0 := fun h => hbad (.inl h)
  obtain rfl : N = true := by cases N; exact absurd (.inr rfl) hbad; rfl
  have hkey := fun W => rkey_ W q (by omega)
  unfold Qn.val at hkey
  have htk := fun W (h : RO (g + 2) W M v1 room row1) (hW : g + 2 ≤ W.heap.size) => rtake2_ (g + 2) W M v1 room row1 h hW (by omega) (foldQ q)
  unfold ptr Qn.val at htk
  simp only [Option.map] at htk
  clear hbad
  have hz1 : g + 2 ≤ W1.heap.size := by have := HF1.out.size; have := HG.out; omega
  go_upto_region 7 with (first | (go_at_call 42; refine hlf1.mono ?_; clear hlf1; rintro e W2 ⟨rfl, hb2⟩; have y0 := (hQ1.below hb2).cell 0 _ rfl) | (go_at_call 43; refine (his _).mono ?_; clear his; rintro e W3 ⟨rfl, hb3⟩; have hb13 := below_trans hb2 hb3; have z0 := (hQ1.below hb13).cell 0 _ rfl; have z1 := (hQ1.below hb13).cell 1 _ rfl; have z2 := (hQ1.below hb13).cell 2 _ rfl) | (go_at_call 45; refine (hkey _).mono ?_; clear hkey; rintro e W4 ⟨rfl, hb4⟩; have hb14 := below_trans hb13 hb4; have R4 := HR1.out.below hb14; have hz4 : g + 2 ≤ W4.heap.size := Nat.le_trans hz1 hb14.size) | (go_at_call 44; refine (htk _ R4 hz4).mono ?_; clear htk; rintro e W5 ⟨rfl, v5, R5, hF5⟩))
  have hQ5 := (hQ1.below hb14).fr hF5 hneM.1
  have hA5 := (HA1.out.below hb14).fr hF5 hneM.2
  have hF15 : Fr (fun k => k = M) W W5 := (Fr.of_below HB.out).trans' (HF1.out.trans' ((Fr.of_below hb14).trans' hF5))
  have hl5 : (rmR (foldQ q) row1).length ≤ 4500 := by have := rmR_len (foldQ q) row1; omega
  have hm5 : ∀ e, e ∈ rmR (foldQ q) row1 → e ∈ row := fun e he => HSM.out e (rmR_mem he)
  obtain ⟨row5, hrow5⟩ : ∃ x, rmR (foldQ q) row1 = x := ⟨_, rfl⟩
  rw [hrow5] at R5 hP hl5 hm5
  have hz5 : g + 2 ≤ W5.heap.size := Nat.le_trans hz4 hF5.size
  have haW5 : M < W5.heap.size := R5.hd.lt
  obtain ⟨b5, hb5⟩ : ∃ x, W5.heap.size = x := ⟨_, rfl⟩
  have hv5lt : ∀ i, v5.ownBlock = some i → i < b5 := fun i hi => by obtain ⟨_, _, hx⟩ := own_blk R5.ow hi; have := (Array.getElem?_eq_some_iff.1 hx).1; omega
  have hv5ge : ∀ i, v5.ownBlock = some i → g + 2 ≤ i := fun i hi => own_base R5.ow i hi
  obtain ⟨en0, HEN⟩ : ∃ e : Re, Hid (e = ⟨foldQ q, a, cn, lf⟩) := ⟨_, Lib.hid rfl⟩
  obtain ⟨rN, HRN⟩ : ∃ x, Hid (x = row5 ++ [en0]) := ⟨_, Lib.hid rfl⟩
  have hes : ∀ W, RI (g + 2) M v5 room row5 rN W5 false false W → Blk W g 25 [.string q.nm, .int .u16 q.ty, .int .u16 q.cl] ∧ Blk W (g + 1) 28 [.int .u16 a.rc, .bool a.aa, .slice a.an.a a.an.n a.an.c, .slice a.au.a a.au.n a.au.c, .slice a.ex.a a.ex.n a.ex.c] := fun W hI => ⟨hQ5.fr hI.f (fun x => by rcases x with x | x; exact hneM.1 x; have := hv5ge _ x; omega), hA5.fr hI.f (fun x => by rcases x with x | x; exact hneM.2 x; have := hv5ge _ x; omega)⟩
  have hfrB : ∀ da ds W, RI (g + 2) M v5 room row5 rN W5 da ds W → Blk W g 25 [.string q.nm, .int .u16 q.ty, .int .u16 q.cl] ∧ Blk W (g + 1) 28 [.int .u16 a.rc, .bool a.aa, .slice a.an.a a.an.n a.an.c, .slice a.au.a a.au.n a.au.c, .slice a.ex.a a.ex.n a.ex.c] := fun da ds W hI => ⟨hQ5.fr hI.f (fun x => by rcases x with x | x; exact hneM.1 x; have := hv5ge _ x; omega), hA5.fr hI.f (fun x => by rcases x with x | x; exact hneM.2 x; have := hv5ge _ x; omega)⟩
  clear hes
  have hgS : ∀ i, (i = M ∨ v5.ownBlock = some i) → i < b5 := fun i hi => by rcases hi with hi | hi; omega; exact hv5lt i hi
  clear hQ5 hA5 hF5 hb14 R4 hz4 hb4 hb13 hb3 hb2 y0 z0 z1 z2 j0 j1 j2 j3 j4 hQ1
  refine wp_region_loud (by kernel_rfl) (by kernel_rfl) ?frP ?hfrP [6, 11, 12, 15] (VV (rpc M v5 q a cn lf) (rpG b5 (g + 2) en0 rN)) (rpI (g + 2) M v5 room row5 rN W5) ?h0P ?hobP ?hQP (by decide)
  case hfrP =>
    intro xs
    simp only [fillL]
    go_simp
    exact rfl
  case h0P => exact ⟨(Fr.refl _ W5).drew, fun _ => R5.below ⟨rfl, rfl, rfl, Nat.le_refl _, fun _ _ => rfl⟩, fun _ => R5.hd.below ⟨rfl, rfl, rfl, Nat.le_refl _, fun _ _ => rfl⟩, fun h => (by cases h), fun h => (by cases h)⟩
  case hobP =>
    refine ⟨?_, ?_, ?_, ?_, ?_, ?_, ?_, ?_, ?_, ?_, ?_, ?_, ?_, ?_, ?_, ?_, trivial⟩
    · -- 0
      intro xs d W hd hn hI hV
      replace hI : RI (g + 2) M v5 room row5 rN W5 (d 12) (d 15) W := hI
      rw [if_neg (by decide)]
      clear hV hd hn hI
      go_simp
      exact rfl
    · -- 1
      intro xs d W hd hn hI hV
      replace hI : RI (g + 2) M v5 room row5 rN W5 (d 12) (d 15) W := hI
      rw [if_neg (by decide)]
      clear hV hd hn hI
      go_simp
      exact rfl
    · -- 2
      intro xs d W hd hn hI hV
      replace hI : RI (g + 2) M v5 room row5 rN W5 (d 12) (d 15) W := hI
      have x1 : xs 1 = .pointer (some ⟨M, 0, none⟩) := hV 1 (hd 1 (by decide))
      rw [if_neg (by decide)]
      clear hV hd hn hI
      go_simp
      exact rfl
    · -- 3
      intro xs d W hd hn hI hV
      replace hI : RI (g + 2) M v5 room row5 rN W5 (d 12) (d 15) W := hI
      have x2 : xs 2 = .pointer (some ⟨M, 0, none⟩) := hV 2 (hd 2 (by decide))
      rw [if_neg (by decide)]
      clear hV hd hn hI
      go_simp
      exact rfl
    · -- 4
      intro xs d W hd hn hI hV
      replace hI : RI (g + 2) M v5 room row5 rN W5 (d 12) (d 15) W := hI
      have x3 : xs 3 = .pointer (some ⟨M, 0, none⟩) := hV 3 (hd 3 (by decide))
      have hda : d 12 = false := hn 12 _ rfl (by decide)
      have c0 : W.cell? ⟨M, 0, none⟩ = some v5 := (hI.a hda).hd.cell 0 _ rfl
      obtain ⟨A5, k5, rfl, -⟩ := own_rd (hI.a hda).ow
      rw [if_neg (by decide)]
      clear hV hd hn hI
      go_simp
      exact rfl
    · -- 5
      intro xs d W hd hn hI hV
      replace hI : RI (g + 2) M v5 room row5 rN W5 (d 12) (d 15) W := hI
      obtain ⟨hq5, ha5⟩ := hfrB _ _ _ hI
      have q0 := hq5.cell 0 _ rfl
      have q1 := hq5.cell 1 _ rfl
      have q2 := hq5.cell 2 _ rfl
      rw [if_neg (by decide)]
      clear hV hd hn hI
      go_simp
      exact rfl
    · -- 6
      intro xs d W hd hn hI hV
      replace hI : RI (g + 2) M v5 room row5 rN W5 (d 12) (d 15) W := hI
      have x5 : xs 5 = q.val := hV 5 (hd 5 (by decide))
      rw [if_pos (by decide)]
      intro hdn
      have hk := rkey_ W q (by omega)
      have hV' := hV
      clear hV hd hn
      unfold Qn.val at x5 hk
      go_simp
      refine hk.mono ?_
      rintro e' W' ⟨rfl, hb⟩
      exact ⟨_, rfl, hI.below hb, rfl, fun j hj => VV.any2 (hV' j hj) (fun h => rpG_keep h (fun h => h.below hb) (fun h => own_below h hb))⟩
    · -- 7
      intro xs d W hd hn hI hV
      replace hI : RI (g + 2) M v5 room row5 rN W5 (d 12) (d 15) W := hI
      obtain ⟨hq5, ha5⟩ := hfrB _ _ _ hI
      have q0 := ha5.cell 0 _ rfl
      have q1 := ha5.cell 1 _ rfl
      have q2 := ha5.cell 2 _ rfl
      have q3 := ha5.cell 3 _ rfl
      have q4 := ha5.cell 4 _ rfl
      rw [if_neg (by decide)]
      clear hV hd hn hI
      go_simp
      exact rfl
    · -- 8
      intro xs d W hd hn hI hV
      replace hI : RI (g + 2) M v5 room row5 rN W5 (d 12) (d 15) W := hI
      rw [if_neg (by decide)]
      clear hV hd hn hI
      go_simp
      exact rfl
    · -- 9
      intro xs d W hd hn hI hV
      replace hI : RI (g + 2) M v5 room row5 rN W5 (d 12) (d 15) W := hI
      rw [if_neg (by decide)]
      clear hV hd hn hI
      go_simp
      exact rfl
    · -- 10
      intro xs d W hd hn hI hV
      replace hI : RI (g + 2) M v5 room row5 rN W5 (d 12) (d 15) W := hI
      have x6 : xs 6 = .agg #[.string (foldQ q).nm, .int .u16 (foldQ q).ty, .int .u16 (foldQ q).cl] := hV 6 (hd 6 (by decide))
      have x7 : xs 7 = .agg #[.int .u16 a.rc, .bool a.aa, .slice a.an.a a.an.n a.an.c, .slice a.au.a a.au.n a.au.c, .slice a.ex.a a.ex.n a.ex.c] := hV 7 (hd 7 (by decide))
      have x8 : xs 8 = .int .i64 cn := hV 8 (hd 8 (by decide))
      have x9 : xs 9 = .int .i64 lf := hV 9 (hd 9 (by decide))
      rw [if_neg (by decide)]
      clear hV hd hn hI
      go_simp
      exact rfl
    · -- 11
      intro xs d W hd hn hI hV
      replace hI : RI (g + 2) M v5 room row5 rN W5 (d 12) (d 15) W := hI
      have x10 : xs 10 = .agg #[.string (foldQ q).nm, .int .u16 (foldQ q).ty, .int .u16 (foldQ q).cl, .int .u16 a.rc, .bool a.aa, .slice a.an.a a.an.n a.an.c, .slice a.au.a a.au.n a.au.c, .slice a.ex.a a.ex.n a.ex.c, .int .i64 cn, .int .i64 lf] := hV 10 (hd 10 (by decide))
      rw [if_pos (by decide)]
      intro hdn
      have hV' := hV
      clear hV hd hn
      have hb := below_new W (.cells #[.string (foldQ q).nm, .int .u16 (foldQ q).ty, .int .u16 (foldQ q).cl, .int .u16 a.rc, .bool a.aa, .slice a.an.a a.an.n a.an.c, .slice a.au.a a.au.n a.au.c, .slice a.ex.a a.ex.n a.ex.c, .int .i64 cn, .int .i64 lf] 91 )
      have hB := Blk.new W 91 #[.string (foldQ q).nm, .int .u16 (foldQ q).ty, .int .u16 (foldQ q).cl, .int .u16 a.rc, .bool a.aa, .slice a.an.a a.an.n a.an.c, .slice a.au.a a.au.n a.au.c, .slice a.ex.a a.ex.n a.ex.c, .int .i64 cn, .int .i64 lf]
      have hbs : b5 ≤ W.heap.size := by rw [← hb5]; exact hI.f.size
      go_simp
      refine ⟨hI.below hb, ⟨_, rfl, hbs, by rw [HEN.out]; exact hB⟩, fun j hj => VV.any2 (hV' j hj) (fun h => rpG_keep h (fun h => h.below hb) (fun h => own_below h hb))⟩
    · -- 12
      intro xs d W hd hn hI hV
      replace hI : RI (g + 2) M v5 room row5 rN W5 (d 12) (d 15) W := hI
      have x4 : xs 4 = v5 := hV 4 (hd 4 (by decide))
      have g11 : rgA b5 en0 (xs 11) W := hV 11 (hd 11 (by decide))
      rw [if_pos (by decide)]
      intro hdn
      have hV' := hV
      have hds : d 15 = false := by cases h15 : d 15; rfl; have := hI.e h15; rw [hdn] at this; cases this
      clear hV hd hn
      obtain ⟨gg, e11, hg5, hBg⟩ := g11
      have hR := hI.a hdn
      have hbs : b5 ≤ W.heap.size := by rw [← hb5]; exact hI.f.size
      refine ⟨gives_app W W (g + 2) (.tmp 33) (.tmp 40) 60 60 91 reZero 10 120 rfl Try.underlying60 infoEnt rfl (by omega) (by omega) v5 row5.length (res row5) x4 (.own hR.ow) (.slice (some ⟨gg, 0, none⟩) 1 1) 1 en0.cells e11 (.slice ⟨rfl, fun h => (by cases h), Nat.le_refl _, fun ad had => by cases had; exact blk_cells hBg⟩ (re_one _)) (Below.refl _ _) (by omega) (by omega) ?_, rfl⟩
      intro u W' _ ho hb hgr
      replace ho := ho (.inl (by omega))
      have hf : Fr (fun k => k = M ∨ v5.ownBlock = some k) W W' := (Fr.refl _ W).grown hgr (fun i hi => .inl (.inr hi))
      refine ⟨⟨hI.f.trans' hf, fun h => (by rw [show upd d 12 true 12 = true from upd_self _ _ _] at h; cases h), fun _ => (hI.b hds).grown hgr (fun e => hR.ne e.symm), fun h => (by rw [show upd d 12 true 15 = d 15 from upd_ne _ _ (by decide), hds] at h; cases h), fun _ => upd_self _ _ _⟩, ?_, fun j hj => VV.any2 (hV' j hj) (fun h => rpG_keep2 h (fun e => by subst e; rw [hdn] at hj; cases hj) (fun h => h.fr hf hgS))⟩
      show W'.ownsRow _ _ _ u rN.length (res rN)
      rw [HRN.out, List.length_append, res_snoc]
      exact ho
    · -- 13
      intro xs d W hd hn hI hV
      replace hI : RI (g + 2) M v5 room row5 rN W5 (d 12) (d 15) W := hI
      have x0 : xs 0 = .pointer (some ⟨M, 0, none⟩) := hV 0 (hd 0 (by decide))
      rw [if_neg (by decide)]
      clear hV hd hn hI
      go_simp
      exact rfl
    · -- 14
      intro xs d W hd hn hI hV
      replace hI : RI (g + 2) M v5 room row5 rN W5 (d 12) (d 15) W := hI
      have x13 : xs 13 = .pointer (some ⟨M, 0, none⟩) := hV 13 (hd 13 (by decide))
      rw [if_neg (by decide)]
      clear hV hd hn hI
      go_simp
      exact rfl
    · -- 15
      intro xs d W hd hn hI hV
      replace hI : RI (g + 2) M v5 room row5 rN W5 (d 12) (d 15) W := hI
      have x14 : xs 14 = .pointer (some ⟨M, 0, none⟩) := hV 14 (hd 14 (by decide))
      have g12 : rgB (g + 2) rN (xs 12) W := hV 12 (hd 12 (by decide))
      have hda : d 12 = true := hd 12 (by decide)
      rw [if_pos (by decide)]
      intro hdn
      have hV' := hV
      clear hV hd hn
      unfold rgB at g12
      have hB := hI.b hdn
      have c0 := hB.cell 0 _ rfl
      have f0 := hB.free 0
      obtain ⟨A6, k6, e12, -⟩ := own_rd g12
      rw [e12] at g12
      have hfs : Fr (fun k => k = M) W (W.setCell ⟨M, 0, none⟩ (.slice A6 rN.length k6)) := (Fr.refl _ W).setCell M 0 _ (.inl rfl)
      have hkeep : ∀ u, rgB (g + 2) rN u W → rgB (g + 2) rN u (W.setCell ⟨M, 0, none⟩ (.slice A6 rN.length k6)) := fun u h => own_fr h hfs (fun i hi e => own_ne_blk h hB (by decide) (by rw [← e]; exact hi))
      have HH := Lib.hid (show RI (g + 2) M v5 room row5 rN W5 (upd d 15 true 12) (upd d 15 true 15) (W.setCell ⟨M, 0, none⟩ (.slice A6 rN.length k6)) ∧ ∀ j, d j = true → VV (rpc M v5 q a cn lf) (rpG b5 (g + 2) en0 rN) j (xs j) (W.setCell ⟨M, 0, none⟩ (.slice A6 rN.length k6)) from ⟨⟨hI.f.trans' (hfs.mono (fun i _ hi => .inl hi)), fun h => (by rw [show upd d 15 true 12 = d 12 from upd_ne _ _ (by decide), hda] at h; cases h), fun h => (by rw [show upd d 15 true 15 = true from upd_self _ _ _] at h; cases h), fun _ => ⟨_, hB.set 0 _, hkeep _ g12⟩, fun _ => by rw [show upd d 15 true 12 = d 12 from upd_ne _ _ (by decide)]; exact hda⟩, fun j hj => VV.any2 (hV' j hj) (fun h => rpG_keep h (fun h => h.fr hfs (fun i hi => hgS i (.inl hi))) (hkeep _))⟩)
      clear hI hV' g12 hfs hkeep hB
      go_simp
      exact ⟨HH.out.1, rfl, HH.out.2⟩
  case hQP =>
    intro xs W6 hI hV
    replace hI : RI (g + 2) M v5 room row5 rN W5 true true W6 := hI
    obtain ⟨u, R6⟩ := hI.c rfl
    have hF6 : Fr (fun k => k = M) W W6 := hF15.trans (hI.f.mono (fun i _ hi => by
      rcases hi with hi | hi
      · exact .inl hi
      · exact .inr (by have := hv5ge i hi; have := HG.out; omega)))
    obtain ⟨n6, hn6⟩ : ∃ x, rN.length = x := ⟨_, rfl⟩
    obtain ⟨A6, k6, e6, hr6⟩ := own_rd R6.ow
    rw [hn6] at e6
    subst e6
    have c0 := R6.hd.cell 0 _ rfl
    have c1 := R6.hd.cell 1 _ rfl
    have hl6 : n6 = row5.length + 1 := by rw [← hn6, HRN.out, List.length_append]; rfl
    have hmem : ∀ e ∈ rN, e ∈ row ∨ e = ⟨foldQ q, a, cn, lf⟩ := fun e he => by
      rw [HRN.out] at he
      rcases List.mem_append.1 he with he | he
      · exact .inl (hm5 e he)
      · exact .inr (by rw [← HEN.out]; simpa using he)
    have hmap : rN.map Re.e = row5.map Re.e ++ [newAe q a.rc a.an.l a.au.l a.ex.l cn] := by rw [HRN.out, List.map_append, List.map_cons, List.map_nil, HEN.out, HNE.out]
    rw [← hmap, List.length_map, show ((row5.length : Nat) : Int) + 1 = (n6 : Int) by omega] at hP
    have HM := Lib.hid hmap
    have HR6 := Lib.hid R6
    have HF6 := Lib.hid hF6
    have HN6 := Lib.hid hn6
    have HL6 := Lib.hid hl6
    clear hl6
    clear hI hV hF15 hF6 R6 R5 hmap hn6 hm5 hgS hv5lt hv5ge hfrB hr6
    by_cases hgt : room < (n6 : Int)
    · rw [if_pos hgt] at hP
      have HP := Lib.hid hP
      clear hP
      have HL61 := HL6.out
      have h16 : 1 ≤ n6 := by omega
      clear HL61
      have f0 : ∀ nq, (W6.drewN nq).frozen? ⟨M, 0, none⟩ = false := fun nq => (HR6.out.below (below_drewN (Below.refl _ _) nq)).hd.free 0
      go_upto_region 8 with fail
      go_quiet (fail)
      have R7 := HR6.out.below (below_drewN (Below.refl _ _) nq)
      have hF7 := HF6.out.drewN nq
      obtain ⟨W7, hW7⟩ : ∃ x, W6.drewN nq = x := ⟨_, rfl⟩
      rw [hW7] at R7 hF7 ⊢
      have d0 := R7.hd.cell 0 _ rfl
      have f7 := R7.hd.free 0
      have HR7 := Lib.hid (R7.cut HN6.out h16)
      clear f0 R7 hW7 c0 c1
      go_wp2_with (first | (refine wpList_cutL rfl 60 91 (.tmp 58) (.const (.int .i64 1)) rfl Try.underlying60 sizeEnt A6 n6 k6 rfl rfl 1 rfl h16 ?_))
      go_ret
      exact ⟨_, rN.drop 1, by rw [← HP.out]; rfl, by rw [← HP.out, List.map_drop], HR7.out.1, hF7.setCell M 0 _ (.inl rfl), fun i hi => by have := HR7.out.2 i hi; have := HG.out; omega, fun e he => hmem e (List.mem_of_mem_drop he)⟩
    · rw [if_neg hgt] at hP
      have HP := Lib.hid hP
      clear hP
      go_upto_region 8 with fail
      go_quiet (fail)
      go_wp2
      go_ret
      exact ⟨_, rN, by rw [← HP.out]; rfl, by rw [← HP.out], (HR6.out.below (below_drewN (Below.refl _ _) nq)).ref, HF6.out.drewN nq, fun i hi => by have := HR6.out.rb i hi; have := HG.out; omega, hmem⟩
end Go.Proofs.Ytioehogncgloiaa
