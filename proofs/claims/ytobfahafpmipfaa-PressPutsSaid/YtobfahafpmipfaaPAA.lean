/- append(a, make([]byte, k)...) to a row of the call's own. -/
import Derived.Test.YtobfahafpmipfaaPZ
import Derived.Lib.AppendZerosOnto
namespace Go.Proofs.Ytobfahafpmipfaa
open Go.RowKit Go.HL
set_option linter.unusedVariables false
set_option linter.unusedSimpArgs false
theorem zc (k : Nat) : (Builtin.zeroCells #[Value.int .u8 0] k).toList = List.replicate k (.int .u8 0) := by
  apply List.ext_getElem
  · simp [Builtin.zeroCells]
  · intro i h1 h2
    simp [Builtin.zeroCells, Nat.mod_one]
theorem zcs (k : Nat) : (Builtin.zeroCells #[Value.int .u8 0] k).size = k := by simp [Builtin.zeroCells]
theorem grown_row2 (w : World) (g : Nat) (cells : Array Value) : w.grownBy (w.setRow g cells) (some g) := by
  refine ⟨rfl, rfl, rfl, ?_, fun k hk hne => ?_⟩
  · simp [World.setRow]
  · simp only [World.setRow, Array.getElem?_modify]
    rw [if_neg (fun h => hne (by rw [h]))]
theorem own_zeros (w : World) (base : Nat) (ty : TypeId) (v : Value) (n : Nat) (xs : List Value) (hown : w.ownsRow base 5 1 v n xs) (k : Nat) (h0 : 0 < k) (hb : n + k ≤ 1000000) (hbase : base ≤ w.heap.size) :
    ∃ v' w', (Builtin.append_ #[22, 3] ty #[v, .int .i64 (k : Int)]).run Try.prog w = .ok v' w' ∧ w'.ownsRow base 5 1 v' (n + k) (xs ++ List.replicate k (.int .u8 0)) ∧ w.grownBy w' v.ownBlock ∧ (v'.ownBlock = v.ownBlock ∨ ∀ q, v'.ownBlock = some q → w.heap.size ≤ q) := by
  obtain ⟨i0, hi, hzz⟩ := Option.map_eq_some_iff.1 info_u8
  simp only [Prod.mk.injEq] at hzz
  obtain ⟨hz0, hz1, hz2⟩ := hzz
  have hlen := hown.1
  rw [Nat.mul_one] at hlen
  have fresh : ∀ (olds : List Value) (cap : Nat), olds.length = n → olds = xs → n + k ≤ cap → cap ≤ maxLen →
      (w.drew.alloc (.cells (olds.toArray ++ Builtin.zeroCells #[Value.int .u8 0] k ++ Builtin.zeroCells #[Value.int .u8 0] (cap - (n + k))) 5)).ownsRow base 5 1 (.slice (some ⟨w.heap.size, 0, none⟩) (n + k) cap) (n + k) (xs ++ List.replicate k (.int .u8 0)) := by
    intro olds cap h1 h2 h3 h4
    subst h2
    refine ⟨by simp; omega, .inr ⟨w.heap.size, cap, _, rfl, hbase, heap_alloc_new w.drew _, h3, h4, ?_, ?_⟩⟩
    · simp only [Array.size_append, zcs, List.size_toArray]; omega
    · simp only [Array.toList_append, zc]
      rw [Nat.mul_one]
      exact List.take_left' (by simp; omega)
  have hgr : ∀ (o : Obj) (row : Option Nat), w.grownBy (w.drew.alloc o) row := fun o row => ⟨rfl, rfl, rfl, by simp, fun q hq _ => heap_alloc_old w.drew _ hq⟩
  rcases hown.2 with ⟨rfl, rfl⟩ | ⟨g, cap, cur, rfl, hbg, hg, hnc, hcm, hcs, htake⟩
  · have hrun := Lib.run_append_nil_zeros (P := Try.prog) w 22 3 ty 5 i0 (.int .u8 0) .i64 .i64 Try.underlying22 Try.underlying3 hi hz0 k h0 (by rw [hz1]; omega) (by omega) (by rw [hz2]; omega)
    obtain rfl : xs = [] := List.eq_nil_of_length_eq_zero hlen
    have hf := fresh [] (grownCap w k 0 5) rfl rfl (by rw [Nat.zero_add]; exact grownCap_ge w k 0 _) (grownCap_le_maxLen w k 0 _ (by simp only [maxLen]; omega))
    refine ⟨_, _, hrun, ?_, hgr _ _, .inr fun q hq => by cases hq; exact Nat.le_refl _⟩
    simpa [Value.cells] using hf
  · by_cases hroom : n + k ≤ cap
    · have hst := run_storeCells_at Try.prog g n 5 (List.replicate k (.int .u8 0)) 0 cur w hg (by simp; omega) (by intro u hu; rw [List.eq_of_mem_replicate hu]; rfl)
      have hw : IntKind.i64.wrap (k : Int) = k := by rw [IntKind.wrap_i64]; omega
      have hneg : ¬ ((k : Int) < 0) := by omega
      have h48 : ¬ (281474976710656 < (k : Int)) := by omega
      have hk0 : k ≠ 0 := by omega
      have hzl : (Builtin.zeroCells (Value.int .u8 0).cells k).toList = List.replicate k (.int .u8 0) := zc k
      simp only [Nat.add_zero] at hst
      refine ⟨.slice (some ⟨g, 0, none⟩) (n + k) cap, w.setRow g (cur.toList.take n ++ List.replicate k (Value.int .u8 0) ++ cur.toList.drop (n + (List.replicate k (Value.int .u8 0)).length)).toArray, ?_, ?_, grown_row2 w g _, .inl rfl⟩
      · simp [Builtin.append_, run_underlying Try.underlying22, run_underlying Try.underlying3, sizeOf, typeInfo, hi, zeroValue, hz0, hz1, hz2, asInt, asIntOf, hw, hneg, h48, hroom, hk0, Addr.add_lit, hzl, hst]
      · refine ⟨by simp; omega, .inr ⟨g, cap, _, rfl, hbg, setRow_heap w g cur _ 5 _ hg, hroom, hcm, ?_, ?_⟩⟩
        · simp only [List.size_toArray, List.length_append, List.length_take, List.length_drop, Array.length_toList, List.length_replicate]; omega
        · rw [Nat.mul_one] at htake ⊢
          rw [htake]
          exact List.take_left' (by simp; omega)
    · have hold := run_firstCells_some (P := Try.prog) w.drew i0.size n ⟨g, 0, none⟩ n cap xs (by rw [hz1]; omega) (fun j u hu => hown.cells rfl j u hu)
      have hrun := Lib.run_append_grow_zeros (P := Try.prog) w 22 3 ty 5 i0 (.int .u8 0) .i64 .i64 Try.underlying22 Try.underlying3 hi hz0 (some ⟨g, 0, none⟩) n cap xs hold k h0 (by rw [hz1]; omega) (by omega) (by omega) (by rw [hz2]; omega) (by
        have := nextslicecap_le (need := n + k) (old := cap) (by omega)
        rw [hz2]; omega)
      have hf := fresh xs (grownCap w (n + k) cap 5) hlen rfl (grownCap_ge w _ _ _) (grownCap_le_maxLen w _ _ _ (by simp only [maxLen]; omega))
      exact ⟨_, _, hrun, hf, hgr _ _, .inr fun q hq => by cases hq; exact Nat.le_refl _⟩
end Go.Proofs.Ytobfahafpmipfaa
