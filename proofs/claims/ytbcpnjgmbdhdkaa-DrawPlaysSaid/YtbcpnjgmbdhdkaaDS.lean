/- Shuffled rows: words, plain numbers. -/
import Derived.Test.YtbcpnjgmbdhdkaaDW
import Derived.Deep.OwnRows
namespace Go.HL
open Go.RowKit
set_option linter.unusedVariables false
set_option linter.unusedSimpArgs false

/-- Whole numbers as cells. -/
def is (l : List Int) : List Value := l.map (Value.int .i64)
theorem is_length (l : List Int) : (is l).length = l.length := by simp [is]
theorem is_one (l : List Int) : ∀ u ∈ is l, u.oneCell' = true := by
  intro u hu
  simp only [is, List.mem_map] at hu
  obtain ⟨b, _, rfl⟩ := hu
  rfl
/-- A block that is just this row of whole numbers. -/
def Arr (T : TypeId) (w : World) (b : Nat) (l : List Int) : Prop := w.heap[b]? = some (.cells (is l).toArray T (0, 0))
theorem Arr.cell {T : TypeId} {w : World} {b : Nat} {l : List Int} (h : Arr T w b l) (j : Nat) (hj : j < l.length) : w.cell? ⟨b, j, none⟩ = some (.int .i64 (l.getD j 0)) := by
  rw [cell_of_row w b j _ _ _ h]
  simp [is, List.getElem?_eq_getElem hj, List.getD_eq_getElem?_getD]
theorem Arr.free {T : TypeId} {w : World} {b : Nat} {l : List Int} (h : Arr T w b l) (j : Nat) : w.frozen? ⟨b, j, none⟩ = false := free_row h j
theorem Arr.set {T : TypeId} {w : World} {b : Nat} {l : List Int} (h : Arr T w b l) (j : Nat) (x : Int) : Arr T (w.setCell ⟨b, j, none⟩ (.int .i64 x)) b (l.set j x) := by
  unfold Arr at *
  simp only [World.setCell, Array.getElem?_modify, h, if_pos, Option.map_some]
  congr 2
  apply Array.ext'
  simp [is, List.map_set]
theorem Arr.rd {T : TypeId} {w : World} {b : Nat} {l : List Int} (h : Arr T w b l) : Rd w 1 (some ⟨b, 0, none⟩) l.length l.length (is l) := by
  refine ⟨by simp [is], fun ha => (by cases ha), Nat.le_refl _, fun a ha => ?_⟩
  cases ha
  have := World.news_of_block h
  exact fun j u hu => this j u (by simpa using hu)
theorem Arr.made (T : TypeId) (w : World) (n : Nat) : Arr T (w.alloc (.cells (madeCells #[.int .i64 0] n) T)) w.heap.size (List.replicate n 0) := by
  unfold Arr
  rw [heap_alloc_new]
  congr 2
  apply Array.ext'
  rw [toList_madeCells_one]
  simp [is]
theorem Arr.grown {T : TypeId} {w w1 : World} {b : Nat} {l : List Int} {row : Option Nat} (h : Arr T w b l) (hg : w.grownBy w1 row) (hne : some b ≠ row) : Arr T w1 b l := by
  unfold Arr at *
  rw [hg.block b (Array.getElem?_eq_some_iff.1 h).1 hne]
  exact h
/-- Two places change their numbers. -/
def swap (r : List Int) (i j : Nat) : List Int := (r.set i (r.getD j 0)).set j (r.getD i 0)
theorem swap_length (r : List Int) (i j : Nat) : (swap r i j).length = r.length := by simp [swap]
/-- The row, what is left and the last draw, behind the places i down to 1. -/
def sh : Nat → List Int → List Int → Int → List Int × List Int × Int
  | 0, row, l, last => (row, l, last)
  | i + 1, row, l, last => sh i (swap row (i + 1) (nextV l last % ((i : Int) + 2)).toNat) l.tail (nextV l last)
/-- Numbers of 32 bits. -/
def U32 (l : List Int) : Prop := ∀ x ∈ l, 0 ≤ x ∧ x < 4294967296
theorem U32.tail {l : List Int} (h : U32 l) : U32 l.tail := fun x hx => h x (List.mem_of_mem_tail hx)
theorem U32.next {l : List Int} {last : Int} (h : U32 l) : 0 ≤ nextV l last ∧ nextV l last < 4294967296 := by
  cases l with
  | nil => simp only [nextV]; omega
  | cons x l => exact h x (List.mem_cons_self)
/-- The numbers from 0 on. -/
def upto (n : Nat) : List Int := (List.range n).map fun i : Nat => (i : Int)
theorem upto_length (n : Nat) : (upto n).length = n := by simp [upto]
theorem grownBy_new {w w1 : World} {row : Option Nat} (h : w.grownBy w1 row) (b j : Nat) (hb : w.heap.size ≤ b) (u : Value) : w.grownBy (w1.setCell ⟨b, j, none⟩ u) row :=
  ⟨h.os, h.tape, h.output, by have := h.size; simpa [World.setCell] using this, fun k hk hne => by
    rw [Below.heap_setCell _ _ _ _ (by show k ≠ b; omega)]
    exact h.block k hk hne⟩
theorem grownBy_drew {w w1 : World} {row : Option Nat} (h : w.grownBy w1 row) : w.grownBy w1.drew row := ⟨h.os, h.tape, h.output, h.size, h.block⟩
theorem grownBy_then {w w1 w2 : World} {row : Option Nat} (h : w.grownBy w1 row) (k : w1.grownBy w2 row) : w.grownBy w2 row :=
  ⟨k.os.trans h.os, k.tape.trans h.tape, k.output.trans h.output, Nat.le_trans h.size k.size, fun i hi hne => (k.block i (Nat.lt_of_lt_of_le hi h.size) hne).trans (h.block i hi hne)⟩
theorem size_set (w : World) (a : Addr) (u : Value) : (w.setCell a u).heap.size = w.heap.size := by simp [World.setCell]
theorem Rd.isAt {w : World} {ad : Addr} {n c : Nat} {l : List Int} (h : Rd w 1 (some ad) n c (is l)) (j : Nat) (hj : j < n) : w.cell? (ad.add j) = some (.int .i64 (l.getD j 0)) := by
  have hl := h.len
  rw [is_length] at hl
  refine h.cells ad rfl j _ ?_
  simp [is, List.getElem?_eq_getElem (show j < l.length by omega), List.getD_eq_getElem?_getD]
theorem Rd.isLen {w : World} {A : Option Addr} {n c : Nat} {l : List Int} (h : Rd w 1 A n c (is l)) : l.length = n := by
  have hl := h.len
  rw [is_length] at hl
  omega
end Go.HL
