/- The second form's row of the law StreamCollects, out of its walk: where what it reads is small, the call tells true, and each argument reads as it did. -/
import Derived.Test.YtmifnmnpihikgaaSP3
import Derived.Test.YtmifnmnpihikgaaHT
import Derived.Test.YtmifnmnpihikgaaKM
import Derived.Test.YtmifnmnpihikgaaRows
import Derived.JoinedCond
import Derived.ProofKit
import Derived.OpenShut
namespace Go.Proofs.Ytmifnmnpihikgaa.streamCollectsUpto
open Go.ChangeShapes Go.WideShapes Go.ChangeAt Go.RowKit Go.HL
open Go.ChangeMaps (open_string shut_string)
set_option linter.unusedVariables false
set_option linter.unusedSimpArgs false
theorem own : ownKnob Try.prog.godebug = none := by kernel_rfl
theorem laidOut : laidOutB Try.prog = true := by kernel_rfl
set_option maxRecDepth 100000 in
theorem lifted (os : Os) (started : os.Started) (H : Type) (enc : TypeId × Value → H) (F : Stop.Interp) :
    ReturnsInHanded {} Try.checked os 7 .any ((Rows.OpenSpec.upto Rows.streamCollectsSpec).pre6 enc Try.prog Try.f7 Rows.streamCollectsUptoRow.domain false) (((Rows.OpenSpec.upto Rows.streamCollectsSpec).at F).post enc Try.prog Try.f7 false true false false) := by
  refine returnsInHanded_of_cond (C := Try.checked) (s := Rows.OpenSpec.upto Rows.streamCollectsSpec) (k := Rows.uptoSmall) rfl own started (by kernel_rfl) Try.func7
    (OpenSpec.witness (enc := enc) (C := Try.checked) (s := Rows.OpenSpec.upto Rows.streamCollectsSpec) (k := Rows.uptoSmall) rfl false ⟨#[], #[.slice none 0 0], []⟩ 8 (by kernel_rfl) (by kernel_rfl) (by kernel_rfl)
      (x := ([.nil], [], [])) (by kernel_rfl) rfl (by kernel_rfl)) ?_
  intro W base args ds gs before hval0 hW _ hk _
  have hval : ∀ (j : Nat) t v, Try.f7.params[j]? = some t → args[j]? = some v → Value.okWide Try.prog W .any base t v := hval0
  have hW' := hW
  obtain ⟨p, q, hA0, hV, rfl, hfz, hnd⟩ := hW
  have hA : DataW.TrodAll enc Try.prog W 0 (fun _ => true) true Try.f7.params.toList args.toList ds p := hA0
  rw [Try.params7] at hA hval
  obtain ⟨v0, vs0, d0, ds0, p0, q0, hargs, rfl, rfl, h0, r0⟩ := trodAll_cons hA
  obtain ⟨rfl, rfl, rfl⟩ := trodAll_nil r0
  obtain rfl : args = #[v0] := by cases args; simp_all
  obtain ⟨rfl, rfl⟩ := trodVars_none hV
  obtain ⟨a0, len0, cap0, rfl⟩ := okWide_slice Try.underlying41 (hval 0 41 v0 rfl rfl)
  have k0 := h0
  have lt0 : ∀ x ∈ p0, x.block < W.heap.size := by obtain ⟨m, hm⟩ := k0; exact DataW.trod_lt m _ _ _ hm
  have hk0 : Rows.uptoBulk d0 ≤ 1048576 := by
    have h := of_decide_eq_true hk
    simp only [List.append_nil, List.map_cons, List.map_nil, Rows.uptoBulkAll] at h
    omega
  obtain ⟨X0, hX0, y0⟩ := open_msgsU h0 hk0
  clear hA0 hval0
  have hc := streamCollects_walk W a0 len0 cap0 X0 hX0 (fun m hm => by have := y0 m hm; omega)
  refine hc.mono fun e W' ⟨he, bel⟩ => ?_
  subst he
  exact ⟨_, rfl, _, _, _, [], _, [], hW', trodAll_mk1 (shut_bool Try.underlying4 _), (trodAll_cons_mk (Below.trod laidOut (by kernel_rfl) (of_decide_eq_true (by kernel_rfl)) k0 bel lt0) trodAll_mk0), rfl, bel.frame _, fun h => by cases h⟩
theorem over : Rows.streamCollectsUptoRow.holds Try.pinned (Rows.OpenSpec.upto Rows.streamCollectsSpec) :=
  OpenClaim.holds_of_cond 7 Try.f7 rfl rfl rfl rfl rfl rfl rfl ⟨rfl, rfl, rfl, rfl, rfl⟩ rfl rfl rfl rfl rfl (by kernel_rfl) Try.func7 (by kernel_rfl)
    (of_decide_eq_true (by kernel_rfl)) (by unfold Func.isWrapper; first | (rw [if_pos (by decide +kernel)]; kernel_rfl) | (rw [if_neg (by decide +kernel)]; exact ⟨rfl, rfl⟩))
    (fun os started H enc _ F => lifted os started H enc F)
end Go.Proofs.Ytmifnmnpihikgaa.streamCollectsUpto
namespace Go.Proofs.Ytmifnmnpihikgaa
/-- The row, under a short name, for the claim. -/
theorem streamCollectsUpto_holds : Rows.StreamCollectsUptoSaid := streamCollectsUpto.over
#print axioms streamCollectsUpto_holds
end Go.Proofs.Ytmifnmnpihikgaa
