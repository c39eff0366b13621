/- keeps: an example is kept, and gone in time. -/
import Derived.Test.YtioehogncgloiaaCN
namespace Go.Proofs.Ytioehogncgloiaa
open Go.RowKit Go.HL Go.Maps
set_option linter.unusedVariables false
set_option linter.unusedSimpArgs false
theorem Left.out {W W' : World} {C bm : Nat} {room : Int} {row row' : List Ce} (h : Left W C bm room row row' W') {g : Nat} (hg : g < W.heap.size) (hn : ¬ CH C bm row g) : ¬ CH C bm row' g := fun hk => by
  rcases h.h g hk with x | x
  · exact hn x
  · omega
theorem CS_CH {C bm : Nat} {row : List Ce} {k : Nat} (h : ¬ CH C bm row k) : ¬ CS C bm row k := fun x => h (.inl x)
def kQ : Qn := ⟨⟨#[1, 97, 0]⟩, 1, 1⟩
def kR : Rc := ⟨⟨#[1, 65, 0]⟩, 1, 1, 5, ⟨#[]⟩, ⟨#[]⟩, ⟨#[]⟩, 0, 0, 0, 0, 0⟩
def kA (g : Nat) : Am := ⟨0, true, ⟨some ⟨g, 0, none⟩, 1, 1, [kR]⟩, ⟨none, 0, 0, []⟩, ⟨none, 0, 0, []⟩⟩
def kE : Ae := newAe kQ 0 [kR] [] [] 100
theorem kQ_ok : kQ.ok := ⟨by decide, by decide, by decide⟩
theorem kR_ok : kR.ok := ⟨by decide, by decide, by decide, by decide, by decide, by decide, by decide, by decide, by decide, by decide, by decide, by decide⟩
theorem kLife : lifeV 0 [kR] [] [] = 5 := by decide
theorem kPut : putV 1 [] kQ 0 [kR] [] [] 100 = ([kE], true) := by
  unfold putV
  rw [kLife, if_neg (by rw [show isNm kQ.nm = true from by kernel_rfl]; decide)]
  rfl
theorem kSw (now : Int) (h0 : 0 ≤ now) (h1 : now < 1000) : sweepV (clockV now) [kE] = if now < 150 then [kE] else [] := by
  have hc : clockV now = now := by unfold clockV; rw [if_neg (by omega), if_neg (by omega)]
  rw [hc]
  unfold sweepV
  have hl : kE.put + kE.life * 10 = 150 := by show (100 : Int) + lifeV 0 [kR] [] [] * 10 = 150; rw [kLife]; rfl
  have ha : aliveB now kE = decide (now < 150) := by unfold aliveB; rw [hl]
  rw [List.filter_cons, ha]
  split <;> split <;> simp_all
theorem kGet1 : getV [kE] kQ 110 = ([kE], some kE) := by
  unfold getV
  rw [kSw 110 (by decide) (by decide), if_pos (by decide)]
  have hf : findV (foldQ kQ) [kE] = some kE := by
    unfold findV
    rw [List.find?_cons_of_pos]
    exact (Qn.eqB_iff _ _).2 rfl
  have hr : rmV (foldQ kQ) [kE] = [] := by
    unfold rmV
    rw [List.eraseP_cons_of_pos]
    exact (Qn.eqB_iff _ _).2 rfl
  rw [hf]
  simp only
  rw [hr]
  rfl
theorem kGet2 : getV [kE] kQ 150 = ([], none) := by
  unfold getV
  rw [kSw 150 (by decide) (by decide), if_neg (by decide)]
  rfl
theorem kAge : ageV (clockV 110) kE = 1 := by decide
theorem kRec : agedR 1 kR = ⟨⟨#[1, 97, 0]⟩, 1, 1, 4, ⟨#[]⟩, ⟨#[]⟩, ⟨#[]⟩, 0, 0, 0, 0, 0⟩ := by
  unfold agedR
  rw [show foldS kR.nm = ⟨#[1, 97, 0]⟩ from by rfl]
  rfl
theorem one_row {row : List Ce} {e : Ae} (h : row.map Ce.e = [e]) : ∃ c, row = [c] ∧ c.e = e := by
  cases row with
  | nil => cases h
  | cons c l =>
    cases l with
    | nil => exact ⟨c, rfl, by simpa using h⟩
    | cons d l => simp at h
theorem no_row {row : List Ce} (h : row.map Ce.e = []) : row = [] := by simpa using h
def Tells (w : World) (v : Value) (e : Ending) (w' : World) : Prop := e = .returned v ∧ Below w.heap.size w w'
theorem own_some {w : World} {base n size : Nat} {e : TypeId} {v : Value} {cs : List Value} (h : w.ownsRow base e size v n cs) (hn : 0 < n) : ∃ g c, v = .slice (some ⟨g, 0, none⟩) n c ∧ Rd w size (some ⟨g, 0, none⟩) n c cs := by
  obtain ⟨A, c, rfl, hr⟩ := own_rd h
  rcases h.2 with ⟨_, hk⟩ | ⟨g, cap, cur, he, _⟩
  · omega
  · cases he
    exact ⟨g, c, rfl, hr⟩
theorem kA_ok (W : World) (g : Nat) (h : Blk W g 46 kR.cells) : (kA g).ok W := by
  refine ⟨by show (0 : Int) ≤ 0 ∧ (0 : Int) < 65536; omega, ⟨⟨rfl, fun ha => (by cases ha), Nat.le_refl _, fun a ha j u hu => ?_⟩, fun r hr => ?_⟩, ⟨Rd.nil _ _, fun r hr => (by cases hr)⟩, ⟨Rd.nil _ _, fun r hr => (by cases hr)⟩⟩
  · cases ha
    rw [add_plain]
    exact h.cell j u (by simpa [kA, rcs] using hu)
  · have : r = kR := by simpa [kA] using hr
    rw [this]
    exact kR_ok
theorem kA_small (g : Nat) : (kA g).small := by
  refine ⟨by show 1 ≤ 30; omega, by show 0 ≤ 30; omega, by show 0 ≤ 30; omega, fun r hr => ?_, fun r hr => (by cases hr), fun r hr => (by cases hr)⟩
  have : r = kR := by simpa [kA] using hr
  rw [this]
  decide
set_option maxRecDepth 8000 in
set_option maxHeartbeats 4000000 in
theorem keeps_ (w : World) : Calls Try.prog 13 #[] w (Tells w (.bool true)) := by
  have hnew := new_ w 1 (by omega) (by omega)
  obtain ⟨C, hC⟩ : ∃ x, w.heap.size + 1 = x := ⟨_, rfl⟩
  obtain ⟨bm, hbm⟩ : ∃ x, w.heap.size = x := ⟨_, rfl⟩
  rw [hC, hbm] at hnew
  have HB := Lib.hid hbm
  have HC := Lib.hid hC
  clear hC hbm
  have hput := fun (W2 : World) (g : Nat) (h : CacheW W2 C bm 1 []) (hg : Blk W2 g 46 kR.cells) (hn : ¬ CS C bm [] g) => put_ W2 C bm 1 [] h (by omega) (by omega) (by simp) kQ kQ_ok (by decide) (kA g) (kA_ok W2 g hg) (kA_small g) ⟨(fun ad had _ hk => by cases had; exact hn hk), (fun ad had => by cases had), (fun ad had => by cases had)⟩ 100
  have hputV : ∀ g, putV 1 (([] : List Ce).map Ce.e) kQ (kA g).rc (kA g).an.l (kA g).au.l (kA g).ex.l 100 = ([kE], true) := fun g => kPut
  simp only [hputV] at hput
  have hget := fun (W : World) (row : List Ce) (h : CacheW W C bm 1 row) (now : Int) => get_ W C bm 1 row h kQ kQ_ok (by decide) now
  have Hput := Lib.hid hput
  have Hget := Lib.hid hget
  clear hput hget hputV
  unfold ptr at hnew
  simp only [Option.map] at hnew
  go_enter Try.func13, Try.ntmps13
  go_upto_region 5 with (first | (go_at_call 9; refine hnew.mono ?_; clear hnew; rintro en W1 ⟨rfl, hc1, hb1⟩))
  have b1 := below_new W1 (.cells #[.string ⟨#[1, 97, 0]⟩, .int .u16 1, .int .u16 1] 25)
  have b2 := below_alloc b1 (.cells #[.string ⟨#[1, 65, 0]⟩, .int .u16 1, .int .u16 1, .int .u32 5, .string ⟨#[]⟩, .string ⟨#[]⟩, .string ⟨#[]⟩, .int .u32 0, .int .u32 0, .int .u32 0, .int .u32 0, .int .u32 0] 46)
  have hQ := (Blk.new W1 25 #[.string ⟨#[1, 97, 0]⟩, .int .u16 1, .int .u16 1]).alloc (.cells #[.string ⟨#[1, 65, 0]⟩, .int .u16 1, .int .u16 1, .int .u32 5, .string ⟨#[]⟩, .string ⟨#[]⟩, .string ⟨#[]⟩, .int .u32 0, .int .u32 0, .int .u32 0, .int .u32 0, .int .u32 0] 46)
  have hR := Blk.new (W1.alloc (.cells #[.string ⟨#[1, 97, 0]⟩, .int .u16 1, .int .u16 1] 25)) 46 #[.string ⟨#[1, 65, 0]⟩, .int .u16 1, .int .u16 1, .int .u32 5, .string ⟨#[]⟩, .string ⟨#[]⟩, .string ⟨#[]⟩, .int .u32 0, .int .u32 0, .int .u32 0, .int .u32 0, .int .u32 0]
  rw [World.size_alloc] at hR
  have hz2 : ((W1.alloc (.cells #[.string ⟨#[1, 97, 0]⟩, .int .u16 1, .int .u16 1] 25)).alloc (.cells #[.string ⟨#[1, 65, 0]⟩, .int .u16 1, .int .u16 1, .int .u32 5, .string ⟨#[]⟩, .string ⟨#[]⟩, .string ⟨#[]⟩, .int .u32 0, .int .u32 0, .int .u32 0, .int .u32 0, .int .u32 0] 46)).heap.size = W1.heap.size + 2 := by rw [World.size_alloc, World.size_alloc]
  obtain ⟨W2, hW2⟩ : ∃ x, (W1.alloc (.cells #[.string ⟨#[1, 97, 0]⟩, .int .u16 1, .int .u16 1] 25)).alloc (.cells #[.string ⟨#[1, 65, 0]⟩, .int .u16 1, .int .u16 1, .int .u32 5, .string ⟨#[]⟩, .string ⟨#[]⟩, .string ⟨#[]⟩, .int .u32 0, .int .u32 0, .int .u32 0, .int .u32 0, .int .u32 0] 46) = x := ⟨_, rfl⟩
  rw [hW2] at b2 hQ hR hz2
  have hc2 := hc1.below b2
  have hn1 : ∀ k, W1.heap.size ≤ k → ¬ CH C bm [] k := fun k hk hx => by have := CH.lt hc1 k hx; omega
  have hput := Hput.out W2 (W1.heap.size + 1) hc2 hR (CS_CH (hn1 _ (by omega)))
  obtain ⟨g3, hg3⟩ : ∃ x, W1.heap.size = x := ⟨_, rfl⟩
  rw [hg3] at hput hQ hR hz2 hn1 b1 b2 ⊢
  have q0 := hQ.cell 0 _ rfl
  have q1 := hQ.cell 1 _ rfl
  have q2 := hQ.cell 2 _ rfl
  unfold ptr Qn.val Am.val kQ kA at hput
  simp only [Option.map] at hput
  have hbs1 : bm ≤ W1.heap.size := by have := hb1.size; have := HB.out; omega
  have HB2 := Lib.hid (show Below bm w W2 by rw [← hW2]; exact (hb1.alloc hbs1 _).alloc (by rw [World.size_alloc]; omega) _)
  have hbs2 : bm ≤ g3 := by omega
  clear b1 b2 hR hc1 hb1
  go_upto_region 6 with (first | (go_at_call 10; refine hput.mono ?_; clear hput; rintro en W3 ⟨row3, rfl, he3, hl3⟩))
  obtain ⟨c3, rfl, hce⟩ := one_row he3
  have hc3 := hl3.c
  have hn3 : ∀ k, g3 ≤ k → k < W2.heap.size → ¬ CH C bm [c3] k := fun k hk hk2 => hl3.out hk2 (hn1 k hk)
  have hQ3 := hQ.fr hl3.f (CS_CH (hn1 _ (Nat.le_refl _)))
  have HB3 := Lib.hid (Fr.toBelow HB2.out hl3.f (fun i _ hi => by rcases hi with hi | hi | hi; (have := HC.out; have := HB.out; omega); omega; cases hi) (by omega))
  have hz3 := hl3.f.size
  have hget1 := Hget.out W3 [c3] hc3 110
  rw [show [c3].map Ce.e = [kE] by simp [hce], kGet1] at hget1
  have q03 := hQ3.cell 0 _ rfl
  have q13 := hQ3.cell 1 _ rfl
  have q23 := hQ3.cell 2 _ rfl
  have HL3 := Lib.hid hl3
  clear hl3 q0 q1 q2 hQ he3
  unfold ptr Qn.val kQ at hget1
  simp only [Option.map] at hget1
  go_upto_region 7 with (first | (go_at_call 11; refine hget1.mono ?_; clear hget1; rintro en W4 ⟨row4, he4, hl4, hh4, v1, v2, v3, rfl, o1, o2, o3⟩; rw [kAge] at o1 o2 o3; replace o1 : W4.ownsRow W3.heap.size 46 12 v1 1 (rcs [agedR 1 kR]) := o1; replace o2 : W4.ownsRow W3.heap.size 46 12 v2 0 (rcs []) := o2; replace o3 : W4.ownsRow W3.heap.size 46 12 v3 0 (rcs []) := o3; rw [kRec] at o1; obtain ⟨A1, k1, rfl, r1⟩ := own_rd o1; obtain ⟨A2, k2, rfl, r2⟩ := own_rd o2; obtain ⟨A3, k3, rfl, r3⟩ := own_rd o3))
  rw [show kE.rc = 0 from rfl]
  have hQ4 := hQ3.fr hl4.f (CS_CH (hn3 _ (Nat.le_refl _) (by omega)))
  have HB4 := Lib.hid (Fr.toBelow HB3.out hl4.f (fun i _ hi => by
    rcases HL3.out.h i (.inl hi) with hx | hx
    · rcases hx with (hx | hx | hx) | ⟨c, hc, hx⟩
      · have := HC.out; have := HB.out; omega
      · omega
      · cases hx
      · cases hc
    · omega) (by omega))
  have hz4 := hl4.f.size
  have b5 := below_new W4 (.cells #[.int .u16 0, .bool false, .slice A1 1 k1, .slice A2 0 k2, .slice A3 0 k3] 28)
  have hA5 := Blk.new W4 28 #[.int .u16 0, .bool false, .slice A1 1 k1, .slice A2 0 k2, .slice A3 0 k3]
  have hz5 := World.size_alloc W4 (.cells #[.int .u16 0, .bool false, .slice A1 1 k1, .slice A2 0 k2, .slice A3 0 k3] 28)
  obtain ⟨W5, hW5⟩ : ∃ x, W4.alloc (.cells #[.int .u16 0, .bool false, .slice A1 1 k1, .slice A2 0 k2, .slice A3 0 k3] 28) = x := ⟨_, rfl⟩
  rw [hW5] at b5 hA5 hz5 ⊢
  have hc5 := hl4.c.below b5
  have hQ5 := hQ4.below b5
  have HB5 := Lib.hid (show Below bm w W5 by rw [← hW5]; exact HB4.out.alloc (by omega) _)
  have o15 := own_below o1 b5
  have hget2 := Hget.out W5 row4 hc5 150
  rw [he4, kGet2] at hget2
  obtain ⟨g4, hg4⟩ : ∃ x, W4.heap.size = x := ⟨_, rfl⟩
  rw [hg4] at hA5 hz5 ⊢
  have hn4 : ∀ k, CH C bm row4 k → k < W3.heap.size := fun k hk => CH.lt hc3 k (hh4 k hk)
  have q05 := hQ5.cell 0 _ rfl
  have q15 := hQ5.cell 1 _ rfl
  have q25 := hQ5.cell 2 _ rfl
  clear q03 q13 q23 hQ3 hQ4 o1 o2 o3 r1 r2 r3 hW5 b5
  unfold ptr Qn.val kQ at hget2
  simp only [Option.map] at hget2
  go_upto_region 8 with (first | (go_at_call 11; refine hget2.mono ?_; clear hget2; rintro en W6 ⟨row6, he6, hl6, hh6, hgp⟩; obtain rfl : en = .returned (.tuple #[.agg #[.int .u16 0, .bool false, .slice none 0 0, .slice none 0 0, .slice none 0 0], .bool false]) := hgp))
  have hA6 := hA5.fr hl6.f (fun hx => by have := hn4 _ (.inl hx); omega)
  have o16 := own_fr o15 hl6.f (fun i hi hx => by have := own_base o15 i hi; have := hn4 _ (.inl hx); omega)
  have HB6 := Lib.hid (Fr.toBelow HB5.out hl6.f (fun i _ hi => by
    rcases HL3.out.h i (hh4 i (.inl hi)) with hx | hx
    · rcases hx with (hx | hx | hx) | ⟨c, hc, hx⟩
      · have := HC.out; have := HB.out; omega
      · omega
      · cases hx
      · cases hc
    · omega) (by omega))
  have b7 := below_new W6 (.cells #[.int .u16 0, .bool false, .slice none 0 0, .slice none 0 0, .slice none 0 0] 28)
  have hA7 := hA6.below b7
  have o17 := own_below o16 b7
  obtain ⟨g1, cc1, e1, r17⟩ := own_some o17 (by omega)
  cases e1
  have hcs := Rd.rec r17 0 _ rfl
  rw [add_plain, Nat.zero_mul] at hcs
  obtain ⟨W7, hW7⟩ : ∃ x, W6.alloc (.cells #[.int .u16 0, .bool false, .slice none 0 0, .slice none 0 0, .slice none 0 0] 28) = x := ⟨_, rfl⟩
  rw [hW7] at hA7 o17 hcs b7 ⊢
  have a1 := hA7.cell 1 _ rfl
  have a2 := hA7.cell 2 _ rfl
  have d0 : W7.cell? ⟨g1, 0, none⟩ = some (.string ⟨#[1, 97, 0]⟩) := by have := hcs 0 _ rfl; rwa [add_plain] at this
  have d1 : W7.cell? ⟨g1, 1, none⟩ = some (.int .u16 1) := by have := hcs 1 _ rfl; rwa [add_plain] at this
  have d2 : W7.cell? ⟨g1, 2, none⟩ = some (.int .u16 1) := by have := hcs 2 _ rfl; rwa [add_plain] at this
  have d3 : W7.cell? ⟨g1, 3, none⟩ = some (.int .u32 4) := by have := hcs 3 _ rfl; rwa [add_plain] at this
  have d4 : W7.cell? ⟨g1, 4, none⟩ = some (.string ⟨#[]⟩) := by have := hcs 4 _ rfl; rwa [add_plain] at this
  have d5 : W7.cell? ⟨g1, 5, none⟩ = some (.string ⟨#[]⟩) := by have := hcs 5 _ rfl; rwa [add_plain] at this
  have d6 : W7.cell? ⟨g1, 6, none⟩ = some (.string ⟨#[]⟩) := by have := hcs 6 _ rfl; rwa [add_plain] at this
  have d7 : W7.cell? ⟨g1, 7, none⟩ = some (.int .u32 0) := by have := hcs 7 _ rfl; rwa [add_plain] at this
  have d8 : W7.cell? ⟨g1, 8, none⟩ = some (.int .u32 0) := by have := hcs 8 _ rfl; rwa [add_plain] at this
  have d9 : W7.cell? ⟨g1, 9, none⟩ = some (.int .u32 0) := by have := hcs 9 _ rfl; rwa [add_plain] at this
  have d10 : W7.cell? ⟨g1, 10, none⟩ = some (.int .u32 0) := by have := hcs 10 _ rfl; rwa [add_plain] at this
  have d11 : W7.cell? ⟨g1, 11, none⟩ = some (.int .u32 0) := by have := hcs 11 _ rfl; rwa [add_plain] at this
  have hN : (Op.equalIn 9998 42 (.agg #[.int .u32 0, .int .u32 0, .int .u32 0, .int .u32 0, .int .u32 0]) (.agg #[.int .u32 0, .int .u32 0, .int .u32 0, .int .u32 0, .int .u32 0])).run Try.prog W7 = _ := eqArr 9996 0 0 0 0 0 0 0 0 0 0 W7
  have HB7 := Lib.hid (show Below w.heap.size w W7 by rw [HB.out, ← hW7]; exact HB6.out.alloc (by have := hl6.f.size; omega) _)
  go_wp2
  go_ret
  exact ⟨rfl, HB7.out⟩
end Go.Proofs.Ytioehogncgloiaa
