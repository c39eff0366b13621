/- ref.Ints, wakes. -/
import Derived.Test.YtbcpnjgmbdhdkaaD2
namespace Go.Proofs.Ytbcpnjgmbdhdkaa
open Go.RowKit Go.HL
set_option linter.unusedVariables false
set_option linter.unusedSimpArgs false

/-- A call that tells this, and leaves what was there as it was. -/
def Tells (w : World) (v : Value) (e : Ending) (w' : World) : Prop := e = .returned v ∧ Below w.heap.size w w'
theorem ints_len (w : World) (A A' : Option Addr) (n c n' c' : Nat) (l l' : List Int) (hr : Rd w 1 A n c (is l)) (hr' : Rd w 1 A' n' c' (is l')) (h : n ≠ n') :
    Calls Try.prog 9 #[.slice A n c, .slice A' n' c'] w (Tells w (.bool (decide (l = l')))) := by
  have h1 := hr.isLen
  have h2 := hr'.isLen
  have h3 : decide (l = l') = false := decide_eq_false (fun h3 => by subst h3; omega)
  rw [h3]
  have h4 : ((n : Int) != (n' : Int)) = true := by rw [bne_iff_ne]; omega
  clear h1 h2 h3
  go_enter Try.func9, Try.ntmps9
  go_wp2
  go_ret
  exact ⟨rfl, Below.refl _ _⟩
set_option maxHeartbeats 1000000 in
theorem ints_same (w : World) (A A' : Option Addr) (n c c' : Nat) (l l' : List Int) (hr : Rd w 1 A n c (is l)) (hr' : Rd w 1 A' n c' (is l')) (hn : n ≤ 140737488355328) :
    Calls Try.prog 9 #[.slice A n c, .slice A' n c'] w (Tells w (.bool (decide (l = l')))) := by
  have h1 := hr.isLen
  have h2 := hr'.isLen
  have h4 : ((n : Int) != (n : Int)) = false := by simp
  go_enter Try.func9, Try.ntmps9
  go_wp2
  go_loopw [5] (fun i wr => ∃ k : Nat, k ≤ n ∧ i = .int .i64 k ∧ l.take k = l'.take k ∧ Below w.heap.size w wr) (fun i _ => n - (intOf i).toNat)
  case atStart => exact ⟨0, Nat.zero_le _, rfl, by simp, Below.refl _ _⟩
  case round =>
    obtain ⟨k, hk, rfl, he, hb⟩ := hrel
    by_cases hlt : k < n
    · cases A with
      | none => have := (hr.nil_ rfl).1; omega
      | some ad =>
      cases A' with
      | none => have := (hr'.nil_ rfl).1; omega
      | some ad' =>
      have ca := (hr.below hb).isAt k hlt
      have cb := (hr'.below hb).isAt k hlt
      obtain ⟨x, hx⟩ : ∃ x, l.getD k 0 = x := ⟨_, rfl⟩
      obtain ⟨y, hy⟩ : ∃ y, l'.getD k 0 = y := ⟨_, rfl⟩
      rw [hx] at ca
      rw [hy] at cb
      have ht : l.take (k + 1) = l.take k ++ [x] := by rw [List.take_succ_eq_append_getElem (by omega), ← hx, List.getD_eq_getElem?_getD, List.getElem?_eq_getElem (by omega)]; rfl
      have ht' : l'.take (k + 1) = l'.take k ++ [y] := by rw [List.take_succ_eq_append_getElem (by omega), ← hy, List.getD_eq_getElem?_getD, List.getElem?_eq_getElem (by omega)]; rfl
      have HT := Lib.hid ht
      have HT' := Lib.hid ht'
      have HE := Lib.hid he
      have H1 := Lib.hid h1
      have H2 := Lib.hid h2
      have hi1 : (k : Int) < (n : Int) := by omega
      have hi0 : (0 : Int) ≤ (k : Int) := by omega
      clear ht ht' hx hy he h1 h2 hr hr'
      by_cases hxy : x = y
      · subst hxy
        go_wp2
        go_quiet (fail)
        go_wp2
        go_roundw
        case rel => exact ⟨k + 1, hlt, by go_num, by rw [HT.out, HT'.out, HE.out], below_drewN hb _⟩
        case measure => simp [intOf]; omega
      · have hne : (x != y) = true := bne_iff_ne.2 hxy
        have hf : decide (l = l') = false := decide_eq_false (fun h => by
          have e1 := HT.out
          have e2 := HT'.out
          rw [h] at e1
          rw [e1] at e2
          have := List.append_inj_right' e2 rfl
          exact hxy (by simpa using this))
        have HF := Lib.hid hf
        clear hxy hf
        go_wp2
        go_quiet (fail)
        go_wp2
        go_ret
        rw [HF.out]
        exact ⟨rfl, below_drewN hb _⟩
    · obtain rfl : k = n := by omega
      have hf : decide (l = l') = true := decide_eq_true (by
        rw [List.take_of_length_le (by omega), List.take_of_length_le (by omega)] at he
        exact he)
      have HF := Lib.hid hf
      clear hf he
      go_wp2
      go_ret
      rw [HF.out]
      exact ⟨rfl, hb⟩
theorem ints_ (w : World) (A A' : Option Addr) (n c n' c' : Nat) (l l' : List Int) (hr : Rd w 1 A n c (is l)) (hr' : Rd w 1 A' n' c' (is l')) (hn : n ≤ 140737488355328) :
    Calls Try.prog 9 #[.slice A n c, .slice A' n' c'] w (Tells w (.bool (decide (l = l')))) := by
  by_cases h : n = n'
  · subst h
    exact ints_same w A A' n c c' l l' hr hr' hn
  · exact ints_len w A A' n c n' c' l l' hr hr' h

set_option maxHeartbeats 1000000 in
theorem wakes (w : World) : Calls Try.prog 8 #[] w (Tells w (.bool true)) := by
  have hnew := new_ w none 0 0 [] (Rd.nil w 1) (by omega)
  go_enter Try.func8, Try.ntmps8
  go_wp2_with (go_at_call 10; refine hnew.mono ?_; rintro e w1 ⟨g, rfl, hg, hs1, hb1⟩)
  have hn1 := next_ w1 g [] 0 (by omega) (by omega) hs1
  go_wp2_with (go_at_call 14; refine hn1.mono ?_; clear hn1; rintro e w2 ⟨rfl, hs2, hg2⟩; rw [show nextV [] 0 = 1013904223 by rfl] at hs2 ⊢; have hn2 := next_ w2 g [] 1013904223 (by omega) (by omega) hs2)
  refine hn2.mono ?_
  rintro e w3 ⟨rfl, hs3, hg3⟩
  rw [show nextV [] 1013904223 = 1196435762 by decide] at hs3 ⊢
  have hb3 : Below w.heap.size w w3 := (hb1.grown hg2 hb1.size (fun k hk => by cases hk; exact hg)).grown hg3 (Nat.le_trans hb1.size hg2.size) (fun k hk => by cases hk; exact hg)
  clear hn2 hs2 hg2 hs1 hb1 hs3 hg3 hnew
  have hl := Rd.lit w3 #[.int .u32 0, .int .u32 0] 26
  have hnew2 := new_ _ _ _ _ [0, 0] hl (by simp)
  go_wp2_with (go_at_call 10; refine hnew2.mono ?_; rintro e w4 ⟨g4, rfl, hg4, hs4, hb4⟩)
  have hs4' : Src (· < w4.heap.size) w4 g4 [0, 0] 0 := hs4
  have hb04 : Below w.heap.size w w4 := below_trans (below_alloc hb3 _) hb4
  have hgg : w.heap.size ≤ g4 := by have := hb3.size; simp at hg4; omega
  have hsh := shuffle_ w4 g4 [0, 0] 0 3 (by omega) (by omega) (by intro x hx; simp at hx; omega) hs4'
  have hrow : rowN 3 = 3 := by decide
  have hres : (sh (3 - 1) (upto 3) [0, 0] 0).1 = [1, 2, 0] := by decide
  rw [hrow] at hsh
  clear hs4 hs4' hnew2 hl hb4 hg4 hrow
  refine hsh.mono ?_
  rintro e w5 ⟨rfl, ha5, _, _, _, hg5⟩
  rw [hres] at ha5
  have hb05 : Below w.heap.size w w5 := hb04.grown hg5 hb04.size (fun k hk => by cases hk; exact hgg)
  clear hsh hg5 hres
  have hr5 := ha5.rd.alloc (.cells #[.int .i64 1, .int .i64 2, .int .i64 0] 3)
  have hr6 := Rd.lit w5 #[.int .i64 1, .int .i64 2, .int .i64 0] 3
  have hi := ints_ _ _ _ _ _ _ _ [1, 2, 0] [1, 2, 0] hr5 hr6 (by simp)
  go_wp2_with (go_at_call 9; refine hi.mono ?_; rintro e w6 ⟨rfl, hb6⟩)
  go_ret
  exact ⟨rfl, below_trans (below_alloc hb05 _) hb6⟩
end Go.Proofs.Ytbcpnjgmbdhdkaa
