/- press.New, Put, Plain: contracts; wakes. -/
import Derived.Test.YtobfahafpmipfaaPG
import Derived.Test.YtobfahafpmipfaaPK
namespace Go.Proofs.Ytobfahafpmipfaa
open Go.RowKit Go.HL Go.Maps
set_option linter.unusedVariables false
set_option linter.unusedSimpArgs false
attribute [local go_sem] run_makeMap
theorem ok2 (a b : UInt8) : okL [[a], [b]] := by
  intro x hx
  simp at hx
  rcases hx with rfl | rfl <;> simp
theorem new_ (w : World) : Calls Try.prog 13 #[] w fun e w' => e = .returned (.pointer (some ⟨w.heap.size + 1, 0, none⟩)) ∧ w' = (w.alloc (.map #[] 0)).alloc (.cells #[.map (some w.heap.size)] 58) := by
  go_enter Try.func13, Try.ntmps13
  go_wp2
  go_ret
  exact ⟨rfl, rfl⟩
/-- Two results. -/
def Two (R : Value → Value → World → Prop) (e : Ending) (w' : World) : Prop := ∃ a b, e = .returned (.tuple #[a, b]) ∧ R a b w'
theorem put_two (w : World) (p b s : Value) (R : Value → Value → World → Prop) (h : Calls Try.prog 25 #[p, b, s, .bool false] w (Two R)) : Calls Try.prog 16 #[p, b, s] w (Two R) := by
  go_enter Try.func16, Try.ntmps16
  go_wp2_with (go_at_call 25; refine h.mono ?_; clear h; rintro e w1 ⟨x, y, rfl, hR⟩)
  go_ret2
  exact ⟨x, y, rfl, hR⟩
theorem plain_two (w : World) (p b s : Value) (R : Value → Value → World → Prop) (h : Calls Try.prog 25 #[p, b, s, .bool true] w (Two R)) : Calls Try.prog 14 #[p, b, s] w (Two R) := by
  go_enter Try.func14, Try.ntmps14
  go_wp2_with (go_at_call 25; refine h.mono ?_; clear h; rintro e w1 ⟨x, y, rfl, hR⟩)
  go_ret2
  exact ⟨x, y, rfl, hR⟩
/-- No bytes and an error. -/
def NoneB (w : World) (er : Int) (a b : Value) (w' : World) : Prop := a = .slice none 0 0 ∧ b = .int .i64 er ∧ Below w.heap.size w w'
theorem two_none {f : Nat} {args : Array Value} {w : World} {er : Int} (h : Calls Try.prog f args w (None2 w er)) : Calls Try.prog f args w (Two (NoneB w er)) :=
  h.mono fun e w' ⟨h1, h2⟩ => ⟨_, _, h1, rfl, rfl, h2⟩
/-- The bytes behind, and what is remembered then. -/
def SomeB (w : World) (bm : Nat) (plain : Bool) (l : List UInt8) (ls : List (List UInt8)) (tab : Tb) (a b : Value) (w' : World) : Prop :=
  b = .int .i64 0 ∧ w'.ownsRow w.heap.size 5 1 a (l.length + (en plain tab ls l.length).1.length) (bs (l ++ (en plain tab ls l.length).1)) ∧ Tbl w' bm (en plain tab ls l.length).2 ∧ w.grownBy w' (some bm)
theorem two_some {f : Nat} {args : Array Value} {w : World} {bm : Nat} {plain : Bool} {l : List UInt8} {ls : List (List UInt8)} {tab : Tb} (h : Calls Try.prog f args w (RowR w bm plain l ls tab)) : Calls Try.prog f args w (Two (SomeB w bm plain l ls tab)) :=
  h.mono fun e w' ⟨v2, h1, h2⟩ => ⟨v2, _, h1, rfl, h2⟩
theorem put_ok (w : World) (gt bm : Nat) (hgt : w.cell? ⟨gt, 0, none⟩ = some (.map (some bm))) (hgb : gt ≠ bm) (tab : Tb) (hT : Tbl w bm tab) (A : Option Addr) (n c : Nat) (l : List UInt8) (hr : Rd w 1 A n c (bs l)) (hn : n ≤ 140737488354000) (ls : List (List UInt8)) (hok : okL ls) (h255 : (gl ls).length ≤ 255) (htl : tab.length ≤ 1000000) :
    Calls Try.prog 16 #[.pointer (some ⟨gt, 0, none⟩), .slice A n c, .string (str (gl ls))] w (Two (SomeB w bm false l ls tab)) :=
  put_two w _ _ _ _ (two_some (row_ok w gt bm hgt hgb tab hT A n c l hr hn ls hok h255 htl false))
/-- A table that was made. -/
structure Made (w : World) (gt bm : Nat) (tab : Tb) : Prop where
  cell : w.cell? ⟨gt, 0, none⟩ = some (.map (some bm))
  ne : gt ≠ bm
  tbl : Tbl w bm tab
theorem Made.new (w : World) : Made ((w.alloc (.map #[] 0)).alloc (.cells #[.map (some w.heap.size)] 58)) (w.heap.size + 1) w.heap.size [] := by
  refine ⟨?_, by omega, (Tbl.made w).kept (World.grownBy_alloc _ _ none) (by simp)⟩
  have hb := Boxed.new (w.alloc (.map #[] 0)) 58 (.map (some w.heap.size))
  rw [World.size_alloc] at hb
  exact hb.cell
theorem Made.next {w w' : World} {gt bm : Nat} {tab tab' : Tb} (h : Made w gt bm tab) (hg : w.grownBy w' (some bm)) (ht : Tbl w' bm tab') : Made w' gt bm tab' :=
  ⟨hg.cell h.cell (by simpa using h.ne), h.ne, ht⟩
theorem Made.below (w : World) : Below w.heap.size w ((w.alloc (.map #[] 0)).alloc (.cells #[.map (some w.heap.size)] 58)) :=
  ((Below.refl _ _).alloc (Nat.le_refl _) _).alloc (by rw [World.size_alloc]; omega) _
set_option maxRecDepth 4000 in
set_option maxHeartbeats 2000000 in
theorem wakes_ (w : World) : Calls Try.prog 11 #[] w fun e w' => e = .returned (.bool true) ∧ Below w.heap.size w w' := by
  obtain ⟨W0, hW0⟩ : ∃ W, (w.alloc (.map #[] 0)).alloc (.cells #[.map (some w.heap.size)] 58) = W := ⟨_, rfl⟩
  have hM0 := Made.new w
  have hb0 := Made.below w
  have hnew := new_ w
  rw [hW0] at hM0 hb0 hnew
  have h1 := put_ok W0 _ _ hM0.cell hM0.ne [] hM0.tbl none 0 0 [] (Rd.nil _ _) (by omega) [[97], [98]] (ok2 _ _) (by decide) (by simp)
  have e1 : str (gl [[97], [98]]) = ⟨#[1, 97, 1, 98, 0]⟩ := rfl
  have f1 : en false [] [[97], [98]] ([] : List UInt8).length = ([1, 97, 1, 98, 0], [([1, 97, 1, 98, 0], 0), ([1, 98, 0], 2)]) := rfl
  unfold SomeB at h1
  rw [e1, f1] at h1
  have h2 := fun (w1 : World) (hM : Made w1 (w.heap.size + 1) w.heap.size [([1, 97, 1, 98, 0], 0), ([1, 98, 0], 2)]) A c hr => put_ok w1 _ _ hM.cell hM.ne _ hM.tbl A 5 c [1, 97, 1, 98, 0] hr (by omega) [[99], [98]] (ok2 _ _) (by decide) (by simp)
  have e2 : str (gl [[99], [98]]) = ⟨#[1, 99, 1, 98, 0]⟩ := rfl
  have f2 : en false [([1, 97, 1, 98, 0], 0), ([1, 98, 0], 2)] [[99], [98]] ([1, 97, 1, 98, 0] : List UInt8).length = ([1, 99, 192, 2], [([1, 97, 1, 98, 0], 0), ([1, 98, 0], 2), ([1, 99, 1, 98, 0], 5)]) := rfl
  unfold SomeB at h2
  rw [e2, f2] at h2
  have h3 := fun (w2 : World) A c hr => take_ A 9 c 5 (by omega) w2 [1, 97, 1, 98, 0, 1, 99, 192, 2] hr
  have f3 : tkR [1, 97, 1, 98, 0, 1, 99, 192, 2] 5 = ([1, 99, 1, 98, 0], 9, 0) := by kernel_rfl
  rw [f3] at h3
  have H1 := Lib.hid h1
  have H2 := Lib.hid h2
  have H3 := Lib.hid h3
  have HM0 := Lib.hid hM0
  have HB0 := Lib.hid hb0
  clear h1 h2 h3 hM0 hb0 e1 e2 f1 f2 f3
  go_enter Try.func11, Try.ntmps11
  go_wp2_with (first | (go_at_call 13; refine hnew.mono ?_; clear hnew; rintro e w' ⟨rfl, rfl⟩) | (go_at_call 16; refine H1.out.mono ?_; clear H1; rintro e w1 ⟨a1, b1, rfl, rfl, ho1, ht1, hg1⟩; obtain ⟨A1, c1, rfl, hr1⟩ := own_rd ho1; have HM1 := Lib.hid (HM0.out.next hg1 ht1); have HB1 := Lib.hid (HB0.out.grown hg1 HB0.out.size (fun k hk => by cases hk; exact Nat.le_refl _)); clear ht1 hg1 ho1) | (go_at_call 16; refine (H2.out _ HM1.out _ _ hr1).mono ?_; clear H2; rintro e w2 ⟨a2, b2, rfl, rfl, ho2, ht2, hg2⟩; obtain ⟨A2, c2, rfl, hr2⟩ := own_rd ho2; have HB2 := Lib.hid (HB1.out.grown hg2 HB1.out.size (fun k hk => by cases hk; exact Nat.le_refl _)); clear ht2 hg2 ho2) | (go_at_call 9; refine (H3.out _ _ _ hr2).mono ?_; clear H3; rintro e w3 ⟨rfl, hb3⟩; have hr3 : Rd w3 1 A2 9 c2 (bs [1, 97, 1, 98, 0, 1, 99, 192, 2]) := hr2.below hb3; have hcv := run_conv_str (P := Try.prog) w3 Try.underlying22 Try.underlying5 Try.underlying9 hr3))
  go_ret
  exact ⟨rfl, HB2.out.trans (hb3.mono HB2.out.size)⟩
end Go.Proofs.Ytobfahafpmipfaa
