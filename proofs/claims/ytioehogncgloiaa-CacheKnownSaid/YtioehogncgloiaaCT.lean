/- An example put once, and got as time goes on: plain. -/
import Derived.Test.YtioehogncgloiaaCS
namespace Go.Proofs.Ytioehogncgloiaa
open Go.RowKit Go.HL Go.Maps
set_option linter.unusedVariables false
set_option linter.unusedSimpArgs false
theorem mask_bd (x : Int) (m : Nat) (hm : m < 9223372036854775808) : 0 ≤ bits .and .i64 x (m : Int) ∧ bits .and .i64 x (m : Int) ≤ m := by
  unfold bits
  have h1 : (BitVec.ofInt 64 x &&& BitVec.ofInt 64 (m : Int)).toNat ≤ m := by
    rw [BitVec.toNat_and]
    refine Nat.le_trans Nat.and_le_right ?_
    rw [BitVec.ofInt_natCast, BitVec.toNat_ofNat]
    exact Nat.mod_le _ _
  simp only [IntKind.wrap_i64]
  show 0 ≤ (((BitVec.ofInt 64 x &&& BitVec.ofInt 64 (m : Int)).toNat : Int) + 9223372036854775808) % 18446744073709551616 - 9223372036854775808 ∧ _ ≤ (m : Int)
  have h2 : (((BitVec.ofInt 64 x &&& BitVec.ofInt 64 (m : Int)).toNat : Int) + 9223372036854775808) % 18446744073709551616 - 9223372036854775808 = ((BitVec.ofInt 64 x &&& BitVec.ofInt 64 (m : Int)).toNat : Int) := by omega
  exact ⟨by omega, by
    show (((BitVec.ofInt 64 x &&& BitVec.ofInt 64 (m : Int)).toNat : Int) + 9223372036854775808) % 18446744073709551616 - 9223372036854775808 ≤ (m : Int)
    omega⟩
theorem mi_le (a b : Int) : mi a b ≤ a ∧ mi a b ≤ b := by unfold mi; split <;> omega
theorem mn_le1 (l : List Rc) : ∀ m : Int, mn m l ≤ m := by
  induction l with
  | nil => intro m; exact Int.le_refl _
  | cons r l ih =>
    intro m
    have h1 := ih (mi m (cnt r.ttl))
    have h2 := mi_le m (cnt r.ttl)
    simp only [mn, List.foldl_cons] at h1 ⊢
    omega
theorem mn_le (l : List Rc) : ∀ m : Int, ∀ r ∈ l, mn m l ≤ cnt r.ttl := by
  induction l with
  | nil => intro m r h; cases h
  | cons x l ih =>
    intro m r hr
    have h1 := mi_le m (cnt x.ttl)
    rcases List.mem_cons.1 hr with rfl | hr
    · have h2 := mn_le1 l (mi m (cnt r.ttl))
      simp only [mn, List.foldl_cons] at h2 ⊢
      omega
    · have h2 := ih (mi m (cnt x.ttl)) r hr
      simp only [mn, List.foldl_cons] at h2 ⊢
      omega
theorem cnt_le {n : Int} (h : 0 ≤ n) : cnt n ≤ n := by unfold cnt; split <;> omega
theorem life_rc {rc : Int} {an au ex : List Rc} (h : lifeV rc an au ex ≠ 0) : rc = 0 ∨ rc = 3 := by
  unfold lifeV at h
  split at h
  · exact absurd rfl h
  · omega
theorem life_le {rc : Int} {an au ex : List Rc} (h : lifeV rc an au ex ≠ 0) {r : Rc} (hr : r ∈ an ++ au ++ ex) : lifeV rc an au ex ≤ cnt r.ttl := by
  have hm := mn_le (an ++ au ++ ex) 2147483647 r hr
  unfold lifeV at h ⊢
  split
  · rename_i hc; rw [if_pos hc] at h; exact absurd rfl h
  · rename_i hc
    rw [if_neg hc] at h
    split
    · exact hm
    · rename_i hc2
      rw [if_neg hc2] at h
      cases hs : soaOf au with
      | none => rw [hs] at h; exact absurd rfl h
      | some x => have := mi_le (mn 2147483647 (an ++ au ++ ex)) (cnt x.n4); simp only; omega
theorem life_soa {rc : Int} {an au ex : List Rc} (h : lifeV rc an au ex ≠ 0) (hn : rc = 3 ∨ an = []) : ∃ r, r ∈ au ∧ r.ty = 6 ∧ lifeV rc an au ex ≤ cnt r.n4 := by
  unfold lifeV at h ⊢
  split at h
  · exact absurd rfl h
  · rename_i hc
    rw [if_neg hc]
    have hc2 : ¬ (rc = 0 ∧ an ≠ []) := by rintro ⟨a, b⟩; rcases hn with c | c; (omega); exact b c
    rw [if_neg hc2] at h ⊢
    cases hs : soaOf au with
    | none => rw [hs] at h; exact absurd rfl h
    | some x =>
      have := mi_le (mn 2147483647 (an ++ au ++ ex)) (cnt x.n4)
      exact ⟨x, List.mem_of_find?_eq_some hs, by have := List.find?_some hs; simpa using this, by simp only; omega⟩
theorem clockV_id {n : Int} (h0 : 0 ≤ n) (h1 : n ≤ 4611686018427387904) : clockV n = n := by unfold clockV; rw [if_neg (by omega), if_neg (by omega)]
theorem put_one (q : Qn) (rc : Int) (an au ex : List Rc) (at' : Int) (h0 : 0 ≤ at') (h1 : at' ≤ 4611686018427387904) (room : Int) (hr : 1 ≤ room) :
    (putV room [] q rc an au ex at' = ([], false)) ∨ (putV room [] q rc an au ex at' = ([newAe q rc an au ex at'], true) ∧ lifeV rc an au ex ≠ 0) := by
  unfold putV
  rw [clockV_id h0 h1]
  split
  · exact .inl rfl
  · rename_i hc
    refine .inr ⟨?_, fun h => hc (.inl h)⟩
    have e : rmV (foldQ q) (sweepV at' []) = [] := rfl
    rw [e, if_neg (by simp; omega)]
    rfl
theorem get_nil (q : Qn) (now : Int) : getV [] q now = ([], none) := rfl
theorem sweep_one (e : Ae) (now : Int) : sweepV now [e] = if now < e.put + e.life * 10 then [e] else [] := by
  unfold sweepV
  rw [List.filter_cons]
  unfold aliveB
  split <;> split <;> simp_all
theorem get_one {q : Qn} {e : Ae} (he : e.key = foldQ q) (now : Int) (h0 : 0 ≤ now) (h1 : now ≤ 4611686018427387904) : getV [e] q now = if now < e.put + e.life * 10 then ([e], some e) else ([], none) := by
  unfold getV
  rw [clockV_id h0 h1, sweep_one]
  by_cases hc : now < e.put + e.life * 10
  · rw [if_pos hc, if_pos hc]
    have hf : findV (foldQ q) [e] = some e := by
      unfold findV
      rw [List.find?_cons_of_pos]
      rw [he]
      exact (Qn.eqB_iff _ _).2 rfl
    have hr : rmV (foldQ q) [e] = [] := by
      unfold rmV
      rw [List.eraseP_cons_of_pos]
      rw [he]
      exact (Qn.eqB_iff _ _).2 rfl
    rw [hf]
    simp only
    rw [hr]
    rfl
  · rw [if_neg hc, if_neg hc]
    rfl
end Go.Proofs.Ytioehogncgloiaa
