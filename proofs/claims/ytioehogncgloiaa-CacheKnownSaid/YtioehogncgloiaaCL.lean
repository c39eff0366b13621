/- What a statement looks at: wide, large, heavy; steps among the arguments. -/
import Derived.Test.YtioehogncgloiaaCK
namespace Go.Proofs.Ytioehogncgloiaa
open Go.RowKit Go.HL Go.Maps Go.WideShapes
set_option linter.unusedVariables false
set_option linter.unusedSimpArgs false
def WideP (w : World) (l : List Rc) (e : Ending) (w' : World) : Prop := ∃ b : Bool, e = .returned (.bool b) ∧ (b = false → ∀ r ∈ l, r.nm.size ≤ 2000) ∧ w' = w
theorem wide_ (w : World) (A : Option Addr) (n c : Nat) (l : List Rc) (hr : Rd w 12 A n c (rcs l)) (hn : n ≤ 30) :
    Calls Try.prog 28 #[.slice A n c] w (WideP w l) := by
  have hl := Rd.recs hr
  go_enter Try.func28, Try.ntmps28
  go_wp2
  go_loopw [3] (fun i wr => ∃ k : Nat, k ≤ n ∧ i = .int .i64 k ∧ (∀ (j : Nat) r, j < k → l[j]? = some r → r.nm.size ≤ 2000) ∧ wr = w) (fun i _ => n - (intOf i).toNat)
  case atStart => exact ⟨0, Nat.zero_le _, rfl, fun j r h => absurd h (by omega), rfl⟩
  case round =>
    obtain ⟨k, hk, rfl, hno, rfl⟩ := hrel
    by_cases hlt : k < n
    · obtain ⟨r, hrk⟩ : ∃ r, l[k]? = some r := ⟨l[k], List.getElem?_eq_getElem (by omega)⟩
      cases A with
      | none => have := (hr.nil_ rfl).1; omega
      | some ad =>
      have hcs := Rd.rec hr k r hrk
      have hc0 : wr.cell? (ad.add (k * 12)) = some (.string r.nm) := by have := hcs 0 _ rfl; rwa [Addr.add_zero'] at this
      by_cases hbig : 2000 < r.nm.size
      · have hb' : (2000 : Int) < (r.nm.size : Int) := by omega
        go_wp2
        go_ret
        exact ⟨true, rfl, (fun h => by cases h), rfl⟩
      · have hb' : ¬ (2000 : Int) < (r.nm.size : Int) := by omega
        go_wp2
        go_roundw
        case rel =>
          refine ⟨k + 1, by omega, by go_num, fun j q hj hq => ?_, trivial⟩
          by_cases hjk : j < k
          · exact hno j q hjk hq
          · obtain rfl : j = k := by omega
            rw [hrk] at hq
            cases hq
            omega
        case measure => simp [intOf]; omega
    · obtain rfl : k = n := by omega
      go_wp2
      go_ret
      refine ⟨false, rfl, fun _ r hr => ?_, rfl⟩
      obtain ⟨j, hj⟩ := List.getElem?_of_mem hr
      exact hno j r (by have := (List.getElem?_eq_some_iff.1 hj).1; omega) hj
def LargeP (w : World) (a : Am) (e : Ending) (w' : World) : Prop := ∃ b : Bool, e = .returned (.bool b) ∧ (b = false → a.small) ∧ Below w.heap.size w w'
set_option maxHeartbeats 1000000 in
theorem large_ (w : World) (a : Am) (ha : a.ok w) : Calls Try.prog 8 #[a.val] w (LargeP w a) := by
  have hb0 := below_new w (.cells #[.int .u16 a.rc, .bool a.aa, .slice a.an.a a.an.n a.an.c, .slice a.au.a a.au.n a.au.c, .slice a.ex.a a.ex.n a.ex.c] 28)
  have ha0 := ha.below hb0
  unfold Am.val
  go_enter Try.func8, Try.ntmps8
  by_cases h1 : 30 < a.an.n
  · have d1 : (30 : Int) < (a.an.n : Int) := by omega
    go_wp2
    go_ret
    exact ⟨true, rfl, (fun h => by cases h), hb0⟩
  have d1 : ¬ (30 : Int) < (a.an.n : Int) := by omega
  by_cases h2 : 30 < a.au.n
  · have d2 : (30 : Int) < (a.au.n : Int) := by omega
    go_wp2
    go_ret
    exact ⟨true, rfl, (fun h => by cases h), hb0⟩
  have d2 : ¬ (30 : Int) < (a.au.n : Int) := by omega
  by_cases h3 : 30 < a.ex.n
  · have d3 : (30 : Int) < (a.ex.n : Int) := by omega
    go_wp2
    go_ret
    exact ⟨true, rfl, (fun h => by cases h), hb0⟩
  have d3 : ¬ (30 : Int) < (a.ex.n : Int) := by omega
  have w1 := wide_ _ _ _ _ _ ha0.an.r (by omega)
  have w2 := wide_ _ _ _ _ _ ha0.au.r (by omega)
  have w3 := wide_ _ _ _ _ _ ha0.ex.r (by omega)
  obtain ⟨W0, hW0⟩ : ∃ x, w.alloc (.cells #[.int .u16 a.rc, .bool a.aa, .slice a.an.a a.an.n a.an.c, .slice a.au.a a.au.n a.au.c, .slice a.ex.a a.ex.n a.ex.c] 28) = x := ⟨_, rfl⟩
  have hB := Blk.new w 28 #[.int .u16 a.rc, .bool a.aa, .slice a.an.a a.an.n a.an.c, .slice a.au.a a.au.n a.au.c, .slice a.ex.a a.ex.n a.ex.c]
  rw [hW0] at w1 w2 w3 hb0 hB
  have c2 := hB.cell 2 _ rfl
  have c3 := hB.cell 3 _ rfl
  have c4 := hB.cell 4 _ rfl
  clear ha0
  go_upto_region 3 with fail
  have w1s : Calls Try.prog 28 #[.slice a.an.a a.an.n a.an.c] W0 fun e w' => e = .returned (.bool true) ∧ w' = W0 ∨ (e = .returned (.bool false) ∧ (∀ r ∈ a.an.l, r.nm.size ≤ 2000) ∧ w' = W0) := w1.mono (by rintro e w' ⟨b, h, h', rfl⟩; cases b; exact .inr ⟨h, h' rfl, rfl⟩; exact .inl ⟨h, rfl⟩)
  have w2s : Calls Try.prog 28 #[.slice a.au.a a.au.n a.au.c] W0 fun e w' => e = .returned (.bool true) ∧ w' = W0 ∨ (e = .returned (.bool false) ∧ (∀ r ∈ a.au.l, r.nm.size ≤ 2000) ∧ w' = W0) := w2.mono (by rintro e w' ⟨b, h, h', rfl⟩; cases b; exact .inr ⟨h, h' rfl, rfl⟩; exact .inl ⟨h, rfl⟩)
  have w3s : Calls Try.prog 28 #[.slice a.ex.a a.ex.n a.ex.c] W0 fun e w' => e = .returned (.bool true) ∧ w' = W0 ∨ (e = .returned (.bool false) ∧ (∀ r ∈ a.ex.l, r.nm.size ≤ 2000) ∧ w' = W0) := w3.mono (by rintro e w' ⟨b, h, h', rfl⟩; cases b; exact .inr ⟨h, h' rfl, rfl⟩; exact .inl ⟨h, rfl⟩)
  clear w1 w2 w3
  go_wp2_with (first | (go_at_call 28; refine w1s.mono ?_; clear w1s; rintro e w' (⟨rfl, rfl⟩ | ⟨rfl, hw1, rfl⟩)) | (go_at_call 28; refine w2s.mono ?_; clear w2s; rintro e w' (⟨rfl, rfl⟩ | ⟨rfl, hw2, rfl⟩)) | (go_at_call 28; refine w3s.mono ?_; clear w3s; rintro e w' (⟨rfl, rfl⟩ | ⟨rfl, hw3, rfl⟩)))
  all_goals go_ret
  all_goals first
    | exact ⟨true, rfl, (fun h => by cases h), hb0⟩
    | exact ⟨false, rfl, fun _ => ⟨by omega, by omega, by omega, hw1, hw2, hw3⟩, hb0⟩
end Go.Proofs.Ytioehogncgloiaa
