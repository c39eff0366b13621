/- What one key's entry is, whatever is done with other keys: plain. -/
import Derived.Test.YtioehogncgloiaaCV
namespace Go.Proofs.Ytioehogncgloiaa
open Go.RowKit Go.HL Go.Maps
set_option linter.unusedVariables false
set_option linter.unusedSimpArgs false
/-- The entry of a key that is alive at a time. -/
def atV (k : Qn) (T : Int) (l : List Ae) : Option Ae := l.find? fun e => aliveB T e && e.key.eqB k
theorem atV_eq (k : Qn) (T : Int) (l : List Ae) : findV k (sweepV T l) = atV k T l := by
  unfold findV sweepV atV
  rw [List.find?_filter]
  congr 1
  funext e
  simp
theorem alive_le {t T : Int} (h : t ≤ T) {e : Ae} (ha : aliveB T e = true) : aliveB t e = true := by
  unfold aliveB at *
  simp at *
  omega
theorem atV_sweep {k : Qn} {t T : Int} (h : t ≤ T) (l : List Ae) : atV k T (sweepV t l) = atV k T l := by
  unfold atV sweepV
  rw [List.find?_filter]
  congr 1
  funext e
  cases h1 : aliveB T e with
  | false => simp [h1]
  | true => simp [h1, alive_le h h1]
theorem atV_rm {k k' : Qn} (hk : k' ≠ k) (T : Int) (l : List Ae) : atV k T (rmV k' l) = atV k T l := by
  unfold atV rmV
  induction l with
  | nil => rfl
  | cons e l ih =>
    by_cases he : e.key = k'
    · have h1 : (e.key.eqB k') = true := (Qn.eqB_iff _ _).2 he
      have h2 : (e.key.eqB k) = false := Qn.eqB_false (by rw [he]; exact hk)
      rw [List.eraseP_cons, h1, List.find?_cons, h2]
      simp
    · have h1 : (e.key.eqB k') = false := Qn.eqB_false he
      rw [List.eraseP_cons, h1]
      simp only [Bool.cond_false, List.find?_cons, ih]
theorem atV_snoc {k : Qn} (T : Int) (l : List Ae) {e : Ae} (he : e.key ≠ k) : atV k T (l ++ [e]) = atV k T l := by
  unfold atV
  rw [List.find?_append]
  have : List.find? (fun e => aliveB T e && e.key.eqB k) [e] = none := by
    rw [List.find?_cons_of_neg]
    · rfl
    · rw [Qn.eqB_false he]; simp
  rw [this, Option.or_none]
theorem putV_at {k : Qn} {room : Int} {l : List Ae} {q : Qn} {rc : Int} {an au ex : List Rc} {t T : Int} (h0 : 0 ≤ t) (h1 : t ≤ 4611686018427387904) (hk : foldQ q ≠ k) (hT : t ≤ T) (hl : (l.length : Int) + 1 ≤ room) :
    atV k T (putV room l q rc an au ex t).1 = atV k T l ∧ (putV room l q rc an au ex t).1.length ≤ l.length + 1 := by
  have h2 := sweepV_len t l
  have h3 := rmV_len (foldQ q) (sweepV t l)
  unfold putV
  rw [clockV_id h0 h1]
  split
  · exact ⟨atV_sweep hT l, by simp only; omega⟩
  · rw [if_neg (by omega)]
    refine ⟨?_, by simp only [List.length_append, List.length_cons, List.length_nil]; omega⟩
    simp only
    rw [atV_snoc T _ (e := newAe q rc an au ex t) hk, atV_rm hk, atV_sweep hT]
theorem getV_at {k : Qn} {l : List Ae} {q : Qn} {t T : Int} (h0 : 0 ≤ t) (h1 : t ≤ 4611686018427387904) (hk : foldQ q ≠ k) (hT : t ≤ T) :
    atV k T (getV l q t).1 = atV k T l := by
  unfold getV
  rw [clockV_id h0 h1]
  cases hf : findV (foldQ q) (sweepV t l) with
  | none => exact atV_sweep hT l
  | some e =>
    simp only
    rw [atV_snoc T _ (e := e) (by rw [(findV_some hf).1]; exact hk), atV_rm hk, atV_sweep hT]
theorem getV_two (l : List Ae) (q : Qn) {t : Int} (h0 : 0 ≤ t) (h1 : t ≤ 4611686018427387904) : (getV l q t).2 = atV (foldQ q) t l := by
  rw [← atV_eq]
  unfold getV
  rw [clockV_id h0 h1]
  cases hf : findV (foldQ q) (sweepV t l) with
  | none => rfl
  | some e => rfl
end Go.Proofs.Ytioehogncgloiaa
