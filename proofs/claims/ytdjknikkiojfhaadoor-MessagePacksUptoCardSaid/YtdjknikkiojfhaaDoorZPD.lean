import Derived.Test.YtdjknikkiojfhaaDoorZPB
import Derived.Maps.OwnSet
import Derived.Maps.Views
/- What is remembered, and what is written: plain words. -/
namespace Go.HL
open Go.RowKit Go.Maps
set_option linter.unusedVariables false
set_option linter.unusedSimpArgs false
/-- Names, and where they begin. -/
abbrev Tb := List (List UInt8 × Nat)
def look (tab : Tb) (n : List UInt8) : Option Nat := (tab.find? (fun p => p.1 == n)).map (·.2)
theorem look_nil (n : List UInt8) : look [] n = none := rfl
theorem look_snoc {tab : Tb} {m : List UInt8} {p : Nat} (h : look tab m = none) (n : List UInt8) : look (tab ++ [(m, p)]) n = if m = n then some p else look tab n := by
  unfold look at *
  rw [List.find?_append]
  by_cases e : m = n
  · subst e
    rw [Option.map_eq_none_iff.1 h]
    simp
  · rw [if_neg e]
    cases hf : tab.find? (fun p => p.1 == n) with
    | some x => rfl
    | none => simp [e]
theorem look_lt {tab : Tb} {M : Nat} (h : ∀ p ∈ tab, p.2 ≤ M) {n : List UInt8} {p : Nat} (hl : look tab n = some p) : p ≤ M := by
  unfold look at hl
  obtain ⟨x, h1, rfl⟩ := Option.map_eq_some_iff.1 hl
  exact h x (List.mem_of_find?_eq_some h1)
/-- What a name comes to at a place, and what is remembered then. -/
def en (plain : Bool) : Tb → List (List UInt8) → Nat → List UInt8 × Tb
  | tab, [], _ => ([0], tab)
  | tab, x :: r, off =>
    if (look tab (gl (x :: r))).isSome && !plain then (be 2 (49152 + ((look tab (gl (x :: r))).getD 0 : Nat)), tab)
    else (UInt8.ofNat x.length :: (x ++ (en plain (if (look tab (gl (x :: r))).isSome || decide (16383 < off) then tab else tab ++ [(gl (x :: r), off)]) r (off + (1 + x.length))).1),
      (en plain (if (look tab (gl (x :: r))).isSome || decide (16383 < off) then tab else tab ++ [(gl (x :: r), off)]) r (off + (1 + x.length))).2)
/-- A map that holds just what is remembered. -/
def TabOk (D : DataW Unit) (tab : Tb) : Prop := IsMap D ∧ ∀ n, Maps.has D (.string n) = (look tab n).isSome ∧ ∀ p, look tab n = some p → D.atKey (.string n) (.lit (.int .i64 0)) = .lit (.int .i64 (p : Int))
theorem TabOk.nil : TabOk (.map []) [] := ⟨isMap_empty, fun n => ⟨rfl, fun p h => by cases h⟩⟩
theorem TabOk.put {D : DataW Unit} {tab : Tb} (h : TabOk D tab) (m : List UInt8) (p : Nat) (hm : look tab m = none) (hk : WideAt.IsKeyLit (.string m)) : TabOk (D.put (.string m) (.lit (.int .i64 (p : Int)))) (tab ++ [(m, p)]) := by
  refine ⟨h.1.put _ _, fun n => ?_⟩
  rw [look_snoc hm]
  by_cases e : m = n
  · subst e
    rw [if_pos rfl]
    refine ⟨has_put_same h.1 hk _, fun q hq => ?_⟩
    cases hq
    exact atKey_put_same h.1 hk _ _
  · rw [if_neg e]
    have hne : Lit.string n ≠ Lit.string m := fun h => e (by injection h with h; exact h.symm)
    rw [has_put_other hne]
    exact ⟨(h.2 n).1, fun q hq => by rw [atKey_put_other hne]; exact (h.2 n).2 q hq⟩
theorem frs_next {ls ls1 : List (List UInt8)} {pre : List ByteArray} {s : ByteArray} (h : frs ls = pre ++ frs ls1) (hp : pre ++ [s] <+: frs ls) : ∃ x r, ls1 = x :: r ∧ s = str (gl (x :: r)) := by
  obtain ⟨q, hq⟩ := hp
  rw [h, List.append_assoc] at hq
  have := List.append_cancel_left hq
  cases ls1 with
  | nil => simp [frs] at this
  | cons x r =>
    simp only [frs, List.cons_append, List.nil_append, List.cons.injEq] at this
    exact ⟨x, r, rfl, this.1⟩
end Go.HL
