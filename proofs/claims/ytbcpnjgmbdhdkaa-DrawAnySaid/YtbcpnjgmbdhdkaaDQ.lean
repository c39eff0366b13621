/- Each row can come: plain lists. -/
import Derived.Test.YtbcpnjgmbdhdkaaDP
namespace Go.HL
open Go.RowKit
set_option linter.unusedVariables false
set_option linter.unusedSimpArgs false

/-- More numbers than places: two are the same. -/
theorem php : ∀ (N : Nat) (f : Nat → Nat), (∀ i, i ≤ N → f i < N) → ∃ i j, i < j ∧ j ≤ N ∧ f i = f j
  | 0, f, h => absurd (h 0 (Nat.le_refl _)) (by omega)
  | N + 1, f, h => by
    by_cases hv : ∃ i, i ≤ N ∧ f i = f (N + 1)
    · obtain ⟨i, hi, he⟩ := hv
      exact ⟨i, N + 1, by omega, Nat.le_refl _, he⟩
    · have hne : ∀ i, i ≤ N → f i ≠ f (N + 1) := fun i hi he => hv ⟨i, hi, he⟩
      have hN := h (N + 1) (Nat.le_refl _)
      have hg : ∀ i, i ≤ N → (if f i < f (N + 1) then f i else f i - 1) < N := fun i hi => by
        have h1 := h i (by omega)
        have h2 := hne i hi
        split <;> omega
      obtain ⟨i, j, hij, hj, he⟩ := php N _ hg
      have h1 := hne i (by omega)
      have h2 := hne j hj
      refine ⟨i, j, hij, by omega, ?_⟩
      split at he <;> split at he <;> omega
theorem Perm.onto {N : Nat} {r : List Int} (h : Perm N r) (x : Int) (h0 : 0 ≤ x) (h1 : x < N) : ∃ j, j < N ∧ r.getD j 0 = x := by
  apply Classical.byContradiction
  intro hn
  have hne : ∀ j, j < N → r.getD j 0 ≠ x := fun j hj he => hn ⟨j, hj, he⟩
  have hg : ∀ i, i ≤ N → (if i < N then (r.getD i 0).toNat else x.toNat) < N := fun i _ => by
    split
    · rename_i hi; have := h.lo i hi; have := h.hi i hi; omega
    · omega
  obtain ⟨i, j, hij, hj, he⟩ := php N _ hg
  rw [if_pos (show i < N by omega)] at he
  have a0 := h.lo i (by omega)
  by_cases hjN : j < N
  · rw [if_pos hjN] at he
    have b0 := h.lo j hjN
    have := h.inj i j (by omega) hjN (by omega)
    omega
  · rw [if_neg hjN] at he
    exact hne i (by omega) (by omega)
/-- A number put in at its place. -/
theorem Perm.ins {k : Nat} {r : List Int} (h : Perm k r) (a : Nat) (ha : a ≤ k) : Perm (k + 1) (r.take a ++ [(k : Int)] ++ r.drop a) := by
  have hl := h.len
  have e : ∀ j, j < k + 1 → (r.take a ++ [(k : Int)] ++ r.drop a).getD j 0 = if j < a then r.getD j 0 else if j = a then (k : Int) else r.getD (j - 1) 0 := by
    intro j hj
    simp only [List.getD_eq_getElem?_getD, List.append_assoc]
    by_cases h1 : j < a
    · rw [if_pos h1, List.getElem?_append_left (by simp; omega), List.getElem?_take, if_pos h1]
    · rw [if_neg h1, List.getElem?_append_right (by simp; omega)]
      have : (r.take a).length = a := by simp; omega
      rw [this]
      by_cases h2 : j = a
      · subst h2; simp
      · rw [if_neg h2]
        obtain ⟨q, hq⟩ : ∃ q, j - a = q + 1 := ⟨j - a - 1, by omega⟩
        rw [hq, List.singleton_append, List.getElem?_cons_succ, List.getElem?_drop]
        congr 2
        omega
  refine ⟨by simp; omega, fun i hi => ?_, fun i hi => ?_, fun i j hi hj he => ?_⟩
  · rw [e i hi]
    split
    · exact h.lo i (by omega)
    · split
      · omega
      · exact h.lo (i - 1) (by omega)
  · rw [e i hi]
    split
    · have := h.hi i (by omega); omega
    · split
      · omega
      · have := h.hi (i - 1) (by omega); omega
  · rw [e i hi, e j hj] at he
    split at he <;> split at he <;> (try split at he) <;> (try split at he)
    all_goals first
      | omega
      | (have := h.inj _ _ (by omega) (by omega) he; omega)
      | (have := h.hi i (by omega); omega)
      | (have := h.hi j (by omega); omega)
      | (have := h.hi (i - 1) (by omega); omega)
      | (have := h.hi (j - 1) (by omega); omega)
/-- The draws that are made so far, and the row that there still is: what is left is to be put back. -/
structure Put (n q : Nat) (row now l : List Int) : Prop where
  perm : Perm n now
  done : ∀ k, q ≤ k → k < n → now.getD k 0 = row.getD k 0
  draws : ∃ lst, ∀ m, (sh (n - 1) (upto n) (l ++ m) 0).1 = (sh (q - 1) now m lst).1
  small : U32 l
  len : l.length = n - (if q = 0 then 1 else q)
theorem Put.start (n : Nat) (row : List Int) : Put n n row (upto n) [] :=
  ⟨perm_upto n, fun k h1 h2 => absurd h1 (by omega), ⟨0, fun m => rfl⟩, fun x hx => by simp at hx, by by_cases h : n = 0 <;> simp [h]⟩
theorem Put.find {n q : Nat} {row now l : List Int} (h : Put n (q + 2) row now l) (hr : Perm n row) (hq : q + 2 ≤ n) : ∃ j, j ≤ q + 1 ∧ now.getD j 0 = row.getD (q + 1) 0 := by
  obtain ⟨j, hj, he⟩ := h.perm.onto _ (hr.lo (q + 1) (by omega)) (hr.hi (q + 1) (by omega))
  refine ⟨j, ?_, he⟩
  by_cases hlt : j ≤ q + 1
  · exact hlt
  · rw [h.done j (by omega) hj] at he
    have := hr.inj j (q + 1) hj (by omega) he
    omega
theorem Put.step {n q j : Nat} {row now l : List Int} (h : Put n (q + 2) row now l) (hq : q + 2 ≤ n) (hn : n ≤ 4294967296) (hj : j ≤ q + 1) (he : now.getD j 0 = row.getD (q + 1) 0) : Put n (q + 1) row (swap now (q + 1) j) (l ++ [(j : Int)]) := by
  refine ⟨h.perm.swap _ _ (by omega) (by omega), fun k h1 h2 => ?_, ?_, fun x hx => ?_, ?_⟩
  · rw [getD_swap _ _ _ _ (by rw [h.perm.len]; omega) (by rw [h.perm.len]; omega)]
    by_cases hk : k = q + 1
    · subst hk
      by_cases hjk : j = q + 1
      · subst hjk; rw [if_pos rfl]; exact he
      · rw [if_neg hjk, if_pos rfl]; exact he
    · rw [if_neg (by omega), if_neg (by omega)]
      exact h.done k (by omega) h2
  · obtain ⟨lst, hm⟩ := h.draws
    refine ⟨(j : Int), fun m => ?_⟩
    rw [List.append_assoc, hm]
    show (sh (q + 1) now ((j : Int) :: m) lst).1 = _
    simp only [sh, nextV, List.tail_cons, Nat.add_sub_cancel]
    rw [Int.emod_eq_of_lt (by omega) (by omega)]
    simp
  · rcases List.mem_append.1 hx with hx | hx
    · exact h.small x hx
    · simp at hx; omega
  · rw [List.length_append, h.len]
    simp
    omega
theorem list_ext {n : Nat} {r s : List Int} (h1 : r.length = n) (h2 : s.length = n) (h : ∀ k, k < n → r.getD k 0 = s.getD k 0) : r = s := by
  apply List.ext_getElem (by omega)
  intro i hi hj
  have := h i (by omega)
  rw [List.getD_eq_getElem?_getD, List.getD_eq_getElem?_getD, List.getElem?_eq_getElem hi, List.getElem?_eq_getElem hj] at this
  exact this
theorem Put.end {n q : Nat} {row now l : List Int} (h : Put n q row now l) (hr : Perm n row) (hq : q < 2) : (sh (n - 1) (upto n) l 0).1 = row := by
  obtain ⟨lst, hm⟩ := h.draws
  have h1 := hm []
  rw [List.append_nil, show q - 1 = 0 by omega] at h1
  rw [h1]
  show now = row
  refine list_ext h.perm.len hr.len (fun k hk => ?_)
  by_cases hk0 : q ≤ k
  · exact h.done k hk0 hk
  · obtain rfl : k = 0 := by omega
    obtain ⟨j, hj, he⟩ := h.perm.onto _ (hr.lo 0 hk) (hr.hi 0 hk)
    by_cases hj0 : j = 0
    · subst hj0; exact he
    · rw [h.done j (by omega) hj] at he
      exact absurd (hr.inj j 0 hj hk he) hj0
/-- A cut as the model writes it, whatever its address. -/
theorem Rd.sliced {w : World} {A : Option Addr} {n c : Nat} {cs : List Value} (h : Rd w 1 A n c cs) (lo hi : Nat) (h1 : lo ≤ hi) (h2 : hi ≤ n) :
    Rd w 1 (if c = lo then A else A.map (·.add lo)) (hi - lo) (c - lo) ((cs.drop lo).take (hi - lo)) := by
  have hc := h.le
  have hl := h.len
  by_cases e : c = lo
  · rw [if_pos e, show hi - lo = 0 by omega, show c - lo = 0 by omega]
    refine ⟨by simp, fun _ => ⟨rfl, rfl⟩, Nat.le_refl _, fun a _ => by simpa using Cells.nil w a⟩
  · rw [if_neg e]
    cases A with
    | none => have := h.nil_ rfl; omega
    | some ad =>
      have := h.cut lo hi h1 h2
      simpa using this
/-- s[:k] of a row of the call's own. -/
theorem own_pre {w : World} {base : Nat} {e : TypeId} {g n c : Nat} {cs : List Value} (h : w.ownsRow base e 1 (.slice (some ⟨g, 0, none⟩) n c) n cs) (k : Nat) (hk : k ≤ n) : w.ownsRow base e 1 (.slice (some ⟨g, 0, none⟩) k c) k (cs.take k) := by
  obtain ⟨hl, h⟩ := h
  refine ⟨by rw [List.length_take]; omega, .inr ?_⟩
  rcases h with ⟨h, _⟩ | ⟨g', cap, cur, he, hb, hh, h1, h2, h3, h4⟩
  · cases h
  · cases he
    refine ⟨g, c, cur, rfl, hb, hh, by omega, h2, h3, ?_⟩
    rw [← h4, List.take_take, Nat.mul_one, Nat.mul_one, Nat.min_eq_left hk]
theorem own_block {w : World} {base : Nat} {e : TypeId} {g n m c : Nat} {cs : List Value} (h : w.ownsRow base e 1 (.slice (some ⟨g, 0, none⟩) n c) m cs) : n = m := by
  rcases h.2 with ⟨h, _⟩ | ⟨g', cap, cur, he, _⟩
  · cases h
  · cases he; rfl
end Go.HL
