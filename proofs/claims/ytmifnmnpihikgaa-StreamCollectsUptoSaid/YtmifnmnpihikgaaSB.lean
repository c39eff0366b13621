/- stream: what is whole in a row of bytes, in plain words. -/
import Derived.Test.YtmifnmnpihikgaaSA
import Derived.Test.YtmifnmnpihikgaaRM
namespace Go.Proofs.Ytmifnmnpihikgaa
open Go.RowKit Go.HL
set_option linter.unusedVariables false
set_option linter.unusedSimpArgs false

/-- Bytes in memory. -/
structure Ms where
  a : Option Addr
  n : Nat
  c : Nat
  l : List UInt8
def Ms.val (m : Ms) : Value := .slice m.a m.n m.c
def MsOk (W : World) (m : Ms) : Prop := Rd W 1 m.a m.n m.c (bs m.l)
/-- How great the first message is. -/
def nW (l : List UInt8) : Nat := (val (l.take 2)).toNat
def Ms.hd (m : Ms) : Ms := ⟨cutS m.a 2 (2 + nW m.l) 1, nW m.l, nW m.l, (m.l.drop 2).take (nW m.l)⟩
def Ms.tl (m : Ms) : Ms := ⟨cutS m.a (2 + nW m.l) m.c 1, m.n - (2 + nW m.l), m.c - (2 + nW m.l), m.l.drop (2 + nW m.l)⟩
def cutM : Nat → Ms → List Ms × Ms
  | 0, m => ([], m)
  | k + 1, m => if m.l.length < 2 ∨ m.l.length < 2 + nW m.l then ([], m) else (m.hd :: (cutM k m.tl).1, (cutM k m.tl).2)
theorem cutM_fuel : ∀ (k j : Nat) (m : Ms), m.l.length ≤ k → m.l.length ≤ j → cutM k m = cutM j m
  | 0, 0, m, _, _ => rfl
  | 0, j + 1, m, h, _ => by rw [cutM, cutM, if_pos (by omega)]
  | k + 1, 0, m, _, h => by rw [cutM, cutM, if_pos (by omega)]
  | k + 1, j + 1, m, h1, h2 => by
    rw [cutM, cutM]
    by_cases hs : m.l.length < 2 ∨ m.l.length < 2 + nW m.l
    · rw [if_pos hs, if_pos hs]
    · rw [if_neg hs, if_neg hs, cutM_fuel k j m.tl (by simp [Ms.tl]; omega) (by simp [Ms.tl]; omega)]
def cutA (m : Ms) : List Ms × Ms := cutM m.l.length m
theorem cutA_small {m : Ms} (h : m.l.length < 2 ∨ m.l.length < 2 + nW m.l) : cutA m = ([], m) := by
  unfold cutA
  cases hl : m.l.length with
  | zero => rfl
  | succ k => rw [cutM, if_pos h]
theorem cutA_step {m : Ms} (h : ¬ (m.l.length < 2 ∨ m.l.length < 2 + nW m.l)) : cutA m = (m.hd :: (cutA m.tl).1, (cutA m.tl).2) := by
  unfold cutA
  obtain ⟨k, hk⟩ : ∃ k, m.l.length = k + 1 := ⟨m.l.length - 1, by omega⟩
  rw [hk, cutM, if_neg h, cutM_fuel k m.tl.l.length m.tl (by simp [Ms.tl]; omega) (Nat.le_refl _)]
theorem MsOk.len {W : World} {m : Ms} (h : MsOk W m) : m.l.length = m.n := Rd.blen h
theorem MsOk.hd {W : World} {m : Ms} (h : MsOk W m) (hs : ¬ (m.l.length < 2 ∨ m.l.length < 2 + nW m.l)) : MsOk W m.hd := by
  have hl := h.len
  have hle := Rd.le h
  have := Rd.bcutO h 2 (nW m.l) (2 + nW m.l) (by omega) (Nat.le_refl _) (by omega)
  rwa [show 2 + nW m.l - 2 = nW m.l by omega] at this
theorem MsOk.tl {W : World} {m : Ms} (h : MsOk W m) (hs : ¬ (m.l.length < 2 ∨ m.l.length < 2 + nW m.l)) : MsOk W m.tl := by
  have hl := h.len
  have hle := Rd.le h
  have := Rd.bcutO h (2 + nW m.l) (m.n - (2 + nW m.l)) m.c (by omega) (by omega) (Nat.le_refl _)
  rwa [List.take_of_length_le (by rw [List.length_drop]; omega)] at this
theorem nW_lt (l : List UInt8) : nW l < 65536 := by
  have h := val_lt (l.take 2)
  have h2 : (l.take 2).length ≤ 2 := by simp; omega
  have h3 : (256 : Int) ^ (l.take 2).length ≤ 65536 := by
    rcases Nat.lt_or_ge (l.take 2).length 1 with h | h
    · rw [show (l.take 2).length = 0 by omega]; decide
    · rcases Nat.lt_or_ge (l.take 2).length 2 with h | h
      · rw [show (l.take 2).length = 1 by omega]; decide
      · rw [show (l.take 2).length = 2 by omega]; decide
  have h4 := val_nonneg (l.take 2)
  unfold nW
  omega
/-! ### The bytes alone -/
/-- The messages in bytes, and what is behind. -/
def cutL : Nat → List UInt8 → List (List UInt8) × List UInt8
  | 0, l => ([], l)
  | k + 1, l => if l.length < 2 ∨ l.length < 2 + nW l then ([], l) else ((l.drop 2).take (nW l) :: (cutL k (l.drop (2 + nW l))).1, (cutL k (l.drop (2 + nW l))).2)
def cut (l : List UInt8) : List (List UInt8) × List UInt8 := cutL l.length l
theorem cutM_l : ∀ (k : Nat) (m : Ms), ((cutM k m).1.map Ms.l, (cutM k m).2.l) = cutL k m.l
  | 0, m => rfl
  | k + 1, m => by
    rw [cutM, cutL]
    by_cases hs : m.l.length < 2 ∨ m.l.length < 2 + nW m.l
    · rw [if_pos hs, if_pos hs]; rfl
    · rw [if_neg hs, if_neg hs]
      have ih := cutM_l k m.tl
      have e : m.tl.l = m.l.drop (2 + nW m.l) := rfl
      rw [e] at ih
      rw [← ih]
      rfl
theorem cutA_l (m : Ms) : (cutA m).1.map Ms.l = (cut m.l).1 ∧ (cutA m).2.l = (cut m.l).2 := by
  exact ⟨congrArg Prod.fst (cutM_l m.l.length m), congrArg Prod.snd (cutM_l m.l.length m)⟩
end Go.Proofs.Ytmifnmnpihikgaa
