/- The rows that all draws make, each once: plain numbers. -/
import Derived.Test.YtbcpnjgmbdhdkaaDP
namespace Go.HL
open Go.RowKit
set_option linter.unusedVariables false
set_option linter.unusedSimpArgs false

/-- The draws of number x: for i from n down to 2 what is left modulo i. -/
def digs : Nat → Nat → List Int
  | 0, _ => []
  | 1, _ => []
  | i + 2, x => ((x % (i + 2) : Nat) : Int) :: digs (i + 1) (x / (i + 2))
/-- The row that they make. -/
def rowOf (n x : Nat) : List Int := (sh (n - 1) (upto n) (digs n x) 0).1
/-- Where a number stands. -/
def idx (l : List Int) (v : Int) : Nat := l.findIdx (· == v)
/-- The number of a row, place by place from the last one down. -/
def rank : Nat → List Int → List Int → Nat
  | 0, _, _ => 0
  | i + 1, now, row => idx now (row.getD (i + 1) 0) + (i + 2) * rank i (swap now (i + 1) (idx now (row.getD (i + 1) 0))) row
def fac : Nat → Nat
  | 0 => 1
  | n + 1 => (n + 1) * fac n
theorem rank_all : ∀ n, n < 7 → ∀ x, x < fac n → rank (n - 1) (upto n) (rowOf n x) = x := by decide +kernel
theorem row_inj (n x y : Nat) (hn : n < 7) (hx : x < fac n) (hy : y < fac n) (h : rowOf n x = rowOf n y) : x = y := by
  rw [← rank_all n hn x hx, h, rank_all n hn y hy]
theorem digs_len : ∀ n x, (digs n x).length = n - 1
  | 0, _ => rfl
  | 1, _ => rfl
  | i + 2, x => by simp only [digs, List.length_cons, digs_len (i + 1)]; omega
theorem digs_u32 : ∀ n x, n < 4294967296 → U32 (digs n x)
  | 0, _, _ => fun _ h => by simp [digs] at h
  | 1, _, _ => fun _ h => by simp [digs] at h
  | i + 2, x, hn => by
    intro y hy
    simp only [digs, List.mem_cons] at hy
    rcases hy with rfl | hy
    · have := Nat.mod_lt x (show 0 < i + 2 by omega)
      omega
    · exact digs_u32 (i + 1) _ (by omega) y hy
end Go.HL
