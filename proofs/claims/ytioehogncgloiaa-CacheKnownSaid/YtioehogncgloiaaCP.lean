/- What is left in a row, plainly; questions held against each other. -/
import Derived.Test.YtioehogncgloiaaCO
namespace Go.Proofs.Ytioehogncgloiaa
open Go.RowKit Go.HL Go.Maps
set_option linter.unusedVariables false
set_option linter.unusedSimpArgs false
theorem sweepV_len (now : Int) (l : List Ae) : (sweepV now l).length ≤ l.length := List.length_filter_le _ _
theorem rmV_len (k : Qn) (l : List Ae) : (rmV k l).length ≤ l.length := List.length_eraseP_le
theorem putV_len {room : Int} {l : List Ae} {q : Qn} {rc : Int} {an au ex : List Rc} {now : Int} (h1 : 1 ≤ room) (h : (l.length : Int) ≤ room) : ((putV room l q rc an au ex now).1.length : Int) ≤ room := by
  have h2 := sweepV_len (clockV now) l
  have h3 := rmV_len (foldQ q) (sweepV (clockV now) l)
  unfold putV
  split
  · simp only; omega
  · split
    · simp only [List.length_drop, List.length_append, List.length_cons, List.length_nil]
      omega
    · simp only [List.length_append, List.length_cons, List.length_nil]
      omega
theorem putV_last {room : Int} {l : List Ae} {q : Qn} {rc : Int} {an au ex : List Rc} {now : Int} (h1 : 1 ≤ room) (h : (putV room l q rc an au ex now).2 = true) : ∃ r e, (putV room l q rc an au ex now).1 = r ++ [e] ∧ e.key = foldQ q := by
  unfold putV at *
  split at h
  · cases h
  · rename_i hc
    rw [if_neg hc]
    split
    · rename_i hr
      refine ⟨(rmV (foldQ q) (sweepV (clockV now) l)).drop 1, newAe q rc an au ex (clockV now), ?_, rfl⟩
      simp only
      rw [List.drop_append_of_le_length (by omega)]
    · exact ⟨_, newAe q rc an au ex (clockV now), rfl, rfl⟩
theorem findV_some {k : Qn} {l : List Ae} {e : Ae} (h : findV k l = some e) : e.key = k ∧ e ∈ l := ⟨(Qn.eqB_iff _ _).1 (List.find?_some (p := fun e : Ae => e.key.eqB k) h), List.mem_of_find?_eq_some h⟩
theorem getV_some {l : List Ae} {q : Qn} {now : Int} {e : Ae} (h : (getV l q now).2 = some e) : (getV l q now).1 = rmV (foldQ q) (sweepV (clockV now) l) ++ [e] ∧ e.key = foldQ q ∧ e ∈ sweepV (clockV now) l := by
  unfold getV at *
  cases hf : findV (foldQ q) (sweepV (clockV now) l) with
  | none => rw [hf] at h; cases h
  | some x =>
    rw [hf] at h
    cases h
    exact ⟨rfl, (findV_some hf).1, (findV_some hf).2⟩
theorem rmV_lt {k : Qn} {l : List Ae} {e : Ae} (he : e ∈ l) (hk : e.key = k) : (rmV k l).length + 1 = l.length := by
  have := List.length_eraseP_of_mem (p := fun e : Ae => e.key.eqB k) he ((Qn.eqB_iff _ _).2 hk)
  unfold rmV
  have hp : 0 < l.length := List.length_pos_of_mem he
  omega
theorem getV_len {l : List Ae} {q : Qn} {now : Int} : (getV l q now).1.length ≤ l.length := by
  have h2 := sweepV_len (clockV now) l
  unfold getV
  cases hf : findV (foldQ q) (sweepV (clockV now) l) with
  | none => exact h2
  | some x =>
    have := rmV_lt (findV_some hf).2 (findV_some hf).1
    simp only [List.length_append, List.length_cons, List.length_nil]
    omega
theorem eqInQ (a b : Qn) (w : World) : (Op.equalIn 10000 25 a.val b.val).run Try.prog w = .ok (a.eqB b) w := by
  have hS : Try.prog.underlying 25 = some (.struct (Try.prog.fieldsOf 25)) := by kernel_rfl
  have hp : Try.prog.stoodInHeld 25 = false := by kernel_rfl
  obtain ⟨an, at', ac⟩ := a
  obtain ⟨bn, bt', bc⟩ := b
  unfold Qn.val Qn.eqB
  rw [show (10000 : Nat) = 9999 + 1 from rfl, run_equalIn_agg w 9999 25 _ _ hS hp]
  clear hS hp
  simp only [Program.fieldsOf, Try.underlying25]
  go_simp
  by_cases h1 : an.toList = bn.toList <;> by_cases h2 : at' = bt' <;> by_cases h3 : ac = bc <;> simp [h1, h2, h3]
theorem eqQ (a b : Qn) (w : World) : (binOp .eql 25 a.val b.val).run Try.prog w = .ok (.bool (a.eqB b)) w := by
  have h := eqInQ a b w
  unfold Qn.val at *
  rw [run_eql_struct, h]
  rfl
theorem neqQ (a b : Qn) (w : World) : (binOp .neq 25 a.val b.val).run Try.prog w = .ok (.bool (!a.eqB b)) w := by
  have h := eqInQ a b w
  unfold Qn.val at *
  rw [run_neq_struct, h]
  rfl
theorem kl_ne {row : List Ce} (hnk : (row.map fun c => kl c.e.key).Nodup) {i j : Nat} {p q : Qn} (hi : (row.map fun c => c.e.key)[i]? = some p) (hj : (row.map fun c => c.e.key)[j]? = some q) (hij : j < i) : p.eqB q = false := by
  refine Qn.eqB_false (fun e => ?_)
  subst e
  rw [List.getElem?_map] at hi hj
  obtain ⟨c, hc, h1⟩ := Option.map_eq_some_iff.1 hi
  obtain ⟨d, hd, h2⟩ := Option.map_eq_some_iff.1 hj
  have h3 : (row.map fun c => kl c.e.key)[i]? = some (kl p) := by rw [List.getElem?_map, hc]; simp [h1]
  have h4 : (row.map fun c => kl c.e.key)[j]? = some (kl p) := by rw [List.getElem?_map, hd]; simp [h2]
  obtain ⟨l1, e1⟩ := List.getElem?_eq_some_iff.1 h3
  obtain ⟨l2, e2⟩ := List.getElem?_eq_some_iff.1 h4
  exact (List.pairwise_iff_getElem.1 hnk) j i l2 l1 hij (e2.trans e1.symm)
end Go.Proofs.Ytioehogncgloiaa
