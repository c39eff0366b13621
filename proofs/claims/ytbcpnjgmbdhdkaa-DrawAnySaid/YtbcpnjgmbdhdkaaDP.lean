/- Shuffled rows are rows of the same numbers: plain lists. And rows of bools in memory. -/
import Derived.Test.YtbcpnjgmbdhdkaaDS
namespace Go.HL
open Go.RowKit
set_option linter.unusedVariables false
set_option linter.unusedSimpArgs false

theorem getD_set (r : List Int) (i k : Nat) (x : Int) (hi : i < r.length) : (r.set i x).getD k 0 = if i = k then x else r.getD k 0 := by
  simp only [List.getD_eq_getElem?_getD, List.getElem?_set]
  by_cases h : i = k
  · subst h; simp [hi]
  · simp [h]
theorem getD_swap (r : List Int) (i j k : Nat) (hi : i < r.length) (hj : j < r.length) : (swap r i j).getD k 0 = if j = k then r.getD i 0 else if i = k then r.getD j 0 else r.getD k 0 := by
  unfold swap
  rw [getD_set _ _ _ _ (by simpa using hj), getD_set _ _ _ _ hi]

/-- Each of the numbers from 0 to N - 1 just once. -/
structure Perm (N : Nat) (r : List Int) : Prop where
  len : r.length = N
  lo : ∀ i, i < N → 0 ≤ r.getD i 0
  hi : ∀ i, i < N → r.getD i 0 < N
  inj : ∀ i j, i < N → j < N → r.getD i 0 = r.getD j 0 → i = j
theorem perm_upto (N : Nat) : Perm N (upto N) := by
  have h : ∀ i, i < N → (upto N).getD i 0 = (i : Int) := fun i hi => by simp [upto, List.getD_eq_getElem?_getD, hi]
  refine ⟨upto_length N, fun i hi => ?_, fun i hi => ?_, fun i j hi hj e => ?_⟩
  · rw [h i hi]; omega
  · rw [h i hi]; omega
  · rw [h i hi, h j hj] at e; omega
theorem Perm.swap {N : Nat} {r : List Int} (h : Perm N r) (i j : Nat) (hi : i < N) (hj : j < N) : Perm N (swap r i j) := by
  have e : ∀ k, (Go.HL.swap r i j).getD k 0 = if j = k then r.getD i 0 else if i = k then r.getD j 0 else r.getD k 0 := fun k => getD_swap r i j k (by rw [h.len]; exact hi) (by rw [h.len]; exact hj)
  refine ⟨by rw [swap_length]; exact h.len, fun k hk => ?_, fun k hk => ?_, fun k m hk hm he => ?_⟩
  · rw [e]; split
    · exact h.lo i hi
    · split
      · exact h.lo j hj
      · exact h.lo k hk
  · rw [e]; split
    · exact h.hi i hi
    · split
      · exact h.hi j hj
      · exact h.hi k hk
  · rw [e, e] at he
    split at he <;> split at he <;> (try split at he) <;> (try split at he)
    all_goals first
      | omega
      | (have := h.inj _ _ (by omega) (by omega) he; omega)
theorem perm_sh {N : Nat} : ∀ (i : Nat) (r l : List Int) (last : Int), Perm N r → (i < N ∨ i = 0) → Perm N (sh i r l last).1
  | 0, r, l, last, h, _ => h
  | i + 1, r, l, last, h, hi => by
    have h0 := Int.emod_nonneg (nextV l last) (show (i : Int) + 2 ≠ 0 by omega)
    have h1 := Int.emod_lt_of_pos (nextV l last) (show (0 : Int) < (i : Int) + 2 by omega)
    exact perm_sh i _ _ _ (h.swap _ _ (by omega) (by omega)) (by omega)
theorem left_sh : ∀ (i : Nat) (r l : List Int) (last : Int), (sh i r l last).2.1.length = l.length - i
  | 0, r, l, last => rfl
  | i + 1, r, l, last => by
    simp only [sh]
    rw [left_sh i, List.length_tail]
    omega

/-- Bools as cells. -/
def bls (l : List Bool) : List Value := l.map Value.bool
def BArr (T : TypeId) (w : World) (b : Nat) (l : List Bool) : Prop := w.heap[b]? = some (.cells (bls l).toArray T (0, 0))
theorem BArr.cell {T : TypeId} {w : World} {b : Nat} {l : List Bool} (h : BArr T w b l) (j : Nat) (hj : j < l.length) : w.cell? ⟨b, j, none⟩ = some (.bool (l.getD j false)) := by
  rw [cell_of_row w b j _ _ _ h]
  simp [bls, List.getElem?_eq_getElem hj, List.getD_eq_getElem?_getD]
theorem BArr.free {T : TypeId} {w : World} {b : Nat} {l : List Bool} (h : BArr T w b l) (j : Nat) : w.frozen? ⟨b, j, none⟩ = false := free_row h j
theorem BArr.set {T : TypeId} {w : World} {b : Nat} {l : List Bool} (h : BArr T w b l) (j : Nat) (x : Bool) : BArr T (w.setCell ⟨b, j, none⟩ (.bool x)) b (l.set j x) := by
  unfold BArr at *
  simp only [World.setCell, Array.getElem?_modify, h, if_pos, Option.map_some]
  congr 2
  apply Array.ext'
  simp [bls, List.map_set]
theorem BArr.made (T : TypeId) (w : World) (n : Nat) : BArr T (w.alloc (.cells (madeCells #[.bool false] n) T)) w.heap.size (List.replicate n false) := by
  unfold BArr
  rw [heap_alloc_new]
  congr 2
  apply Array.ext'
  rw [toList_madeCells_one]
  simp [bls]
theorem BArr.below {T : TypeId} {w w1 : World} {b : Nat} {l : List Bool} (h : BArr T w b l) (hb : Below w.heap.size w w1) : BArr T w1 b l := by
  unfold BArr at *
  rw [hb.block b (Array.getElem?_eq_some_iff.1 h).1]
  exact h
theorem getB_set (r : List Bool) (i k : Nat) (x : Bool) (hi : i < r.length) : (r.set i x).getD k false = if i = k then x else r.getD k false := by
  simp only [List.getD_eq_getElem?_getD, List.getElem?_set]
  by_cases h : i = k
  · subst h; simp [hi]
  · simp [h]
/-- What has been seen of the first k numbers of a row. -/
structure Seen (N k : Nat) (r : List Int) (s : List Bool) : Prop where
  len : s.length = N
  yes : ∀ i, i < k → s.getD (r.getD i 0).toNat false = true
  no : ∀ v, v < N → (∀ i, i < k → r.getD i 0 ≠ (v : Int)) → s.getD v false = false
theorem seen_none (N : Nat) (r : List Int) : Seen N 0 r (List.replicate N false) :=
  ⟨by simp, fun i hi => absurd hi (by omega), fun v hv _ => by simp [List.getD_eq_getElem?_getD, hv]⟩
theorem Seen.fresh {N k : Nat} {r : List Int} {s : List Bool} (h : Seen N k r s) (hp : Perm N r) (hk : k < N) : s.getD (r.getD k 0).toNat false = false := by
  have h0 := hp.lo k hk
  have h1 := hp.hi k hk
  refine h.no _ (by omega) (fun i hi he => ?_)
  have := hp.inj i k (by omega) hk (by omega)
  omega
theorem Seen.step {N k : Nat} {r : List Int} {s : List Bool} (h : Seen N k r s) (hp : Perm N r) (hk : k < N) : Seen N (k + 1) r (s.set (r.getD k 0).toNat true) := by
  have h0 := hp.lo k hk
  have h1 := hp.hi k hk
  have hl : (r.getD k 0).toNat < s.length := by rw [h.len]; omega
  refine ⟨by rw [List.length_set]; exact h.len, fun i hi => ?_, fun v hv hn => ?_⟩
  · rw [getB_set _ _ _ _ hl]
    split
    · rfl
    · rename_i hne
      have : i ≠ k := fun e => hne (by rw [e])
      exact h.yes i (by omega)
  · rw [getB_set _ _ _ _ hl, if_neg]
    · exact h.no v hv (fun i hi => hn i (by omega))
    · intro e
      exact hn k (by omega) (by omega)
end Go.HL
