/- The second form's row of the law EdnsRecords, out of its walk: where what it reads is small, the call tells true, and each argument reads as it did. -/
import Derived.Test.YtdgdgioenfglnaaLA
import Derived.Test.YtdgdgioenfglnaaHT
import Derived.Test.YtdgdgioenfglnaaRows
import Derived.JoinedCond
import Derived.ProofKit
import Derived.OpenShut
namespace Go.Proofs.Ytdgdgioenfglnaa.ednsRecordsUpto
open Go.ChangeShapes Go.WideShapes Go.ChangeAt Go.RowKit Go.HL
open Go.ChangeMaps (open_string shut_string)
set_option linter.unusedVariables false
set_option linter.unusedSimpArgs false
theorem own : ownKnob Try.prog.godebug = none := by kernel_rfl
theorem laidOut : laidOutB Try.prog = true := by kernel_rfl
set_option maxRecDepth 100000 in
theorem lifted (os : Os) (started : os.Started) (H : Type) (enc : TypeId × Value → H) (F : Stop.Interp) :
    ReturnsInHanded {} Try.checked os 3 .any ((Rows.OpenSpec.upto Rows.ednsRecordsSpec).pre6 enc Try.prog Try.f3 Rows.ednsRecordsUptoRow.domain false) (((Rows.OpenSpec.upto Rows.ednsRecordsSpec).at F).post enc Try.prog Try.f3 false true false false) := by
  refine returnsInHanded_of_cond (C := Try.checked) (s := Rows.OpenSpec.upto Rows.ednsRecordsSpec) (k := Rows.uptoSmall) rfl own started (by kernel_rfl) Try.func3
    (OpenSpec.witness (enc := enc) (C := Try.checked) (s := Rows.OpenSpec.upto Rows.ednsRecordsSpec) (k := Rows.uptoSmall) rfl false ⟨#[], #[.agg #[.int .u16 0, .int .u8 0, .int .u8 0, .int .u16 0, .string ByteArray.empty], .bool false, .int .i64 0], []⟩ 8 (by kernel_rfl) (by kernel_rfl) (by kernel_rfl)
      (x := ([.agg [.lit (.int .u16 0), .lit (.int .u8 0), .lit (.int .u8 0), .lit (.int .u16 0), .lit (.string [])], .lit (.bool false), .lit (.int .i64 0)], [], [])) (by kernel_rfl) rfl (by kernel_rfl)) ?_
  intro W base args ds gs before hval0 hW _ hk _
  have hval : ∀ (j : Nat) t v, Try.f3.params[j]? = some t → args[j]? = some v → Value.okWide Try.prog W .any base t v := hval0
  have hW' := hW
  obtain ⟨p, q, hA0, hV, rfl, hfz, hnd⟩ := hW
  have hA : DataW.TrodAll enc Try.prog W 0 (fun _ => true) true Try.f3.params.toList args.toList ds p := hA0
  rw [Try.params3] at hA hval
  obtain ⟨v0, vs0, d0, ds0, p0, q0, hargs, rfl, rfl, h0, r0⟩ := trodAll_cons hA
  obtain ⟨v1, vs1, d1, ds1, p1, q1, rfl, rfl, rfl, h1, r1⟩ := trodAll_cons r0
  obtain ⟨v2, vs2, d2, ds2, p2, q2, rfl, rfl, rfl, h2, r2⟩ := trodAll_cons r1
  obtain ⟨rfl, rfl, rfl⟩ := trodAll_nil r2
  obtain rfl : args = #[v0, v1, v2] := by cases args; simp_all
  obtain ⟨rfl, rfl⟩ := trodVars_none hV
  have k0 := h0
  have lt0 : ∀ x ∈ p0, x.block < W.heap.size := by obtain ⟨m, hm⟩ := k0; exact DataW.trod_lt m _ _ _ hm
  obtain ⟨cs0, rfl, hs0⟩ := okWide_struct Try.underlying24 (hval 0 24 v0 rfl rfl)
  obtain ⟨fu0, hf0⟩ := h0
  obtain ⟨mm0, xs0, rfl, hl0, hx0, hd0⟩ := trod_struct Try.underlying24 hf0
  obtain ⟨c0, c1, c2, c3, c4, rfl⟩ := arr5 cs0 (by rw [hs0]; kernel_rfl)
  obtain ⟨y0_0, xr0_0, e0_0, hx0_0, rfl⟩ := mapM_cons_some hx0
  obtain ⟨y0_1, xr0_1, e0_1, hx0_1, rfl⟩ := mapM_cons_some hx0_0
  obtain ⟨y0_2, xr0_2, e0_2, hx0_2, rfl⟩ := mapM_cons_some hx0_1
  obtain ⟨y0_3, xr0_3, e0_3, hx0_3, rfl⟩ := mapM_cons_some hx0_2
  obtain ⟨y0_4, xr0_4, e0_4, hx0_4, rfl⟩ := mapM_cons_some hx0_3
  obtain rfl := mapM_nil_some hx0_4
  clear hx0 hx0_0 hx0_1 hx0_2 hx0_3 hx0_4
  simp only [show Try.prog.cellsOf 22 = 1 from by kernel_rfl, List.drop_zero, List.drop_succ_cons, List.take_succ_cons, List.take_zero] at e0_0
  obtain ⟨a0_0, ea, wa0_0, rfl⟩ := trod_int Try.underlying22 e0_0
  obtain rfl : c0 = .int .u16 a0_0 := by simpa [Value.cells] using ea
  clear ea e0_0
  simp only [show Try.prog.cellsOf 5 = 1 from by kernel_rfl, List.drop_zero, List.drop_succ_cons, List.take_succ_cons, List.take_zero] at e0_1
  obtain ⟨a0_1, ea, wa0_1, rfl⟩ := trod_int Try.underlying5 e0_1
  obtain rfl : c1 = .int .u8 a0_1 := by simpa [Value.cells] using ea
  clear ea e0_1
  simp only [show Try.prog.cellsOf 5 = 1 from by kernel_rfl, List.drop_zero, List.drop_succ_cons, List.take_succ_cons, List.take_zero] at e0_2
  obtain ⟨a0_2, ea, wa0_2, rfl⟩ := trod_int Try.underlying5 e0_2
  obtain rfl : c2 = .int .u8 a0_2 := by simpa [Value.cells] using ea
  clear ea e0_2
  simp only [show Try.prog.cellsOf 22 = 1 from by kernel_rfl, List.drop_zero, List.drop_succ_cons, List.take_succ_cons, List.take_zero] at e0_3
  obtain ⟨a0_3, ea, wa0_3, rfl⟩ := trod_int Try.underlying22 e0_3
  obtain rfl : c3 = .int .u16 a0_3 := by simpa [Value.cells] using ea
  clear ea e0_3
  simp only [show Try.prog.cellsOf 9 = 1 from by kernel_rfl, List.drop_zero, List.drop_succ_cons, List.take_succ_cons, List.take_zero] at e0_4
  obtain ⟨a0_4, ea, wa0_4, rfl⟩ := trod_str Try.underlying9 e0_4
  obtain rfl : c4 = .string a0_4 := by simpa [Value.cells] using ea
  clear ea e0_4
  obtain ⟨rfl, rfl⟩ : d0 = _ ∧ p0 = _ := Prod.mk.inj hd0
  obtain ⟨a1, rfl, rfl, rfl⟩ := open_bool Try.underlying4 (hval 1 4 v1 rfl rfl) h1
  obtain ⟨a2, rfl, rfl, rfl, w2⟩ := open_int Try.underlying3 (hval 2 3 v2 rfl rfl) h2
  have by0 : a0_4.size ≤ 1048576 := by
    have h := of_decide_eq_true hk
    simp only [List.append_nil, List.map_cons, List.map_nil, Rows.uptoBulkAll, Rows.uptoBulk, Array.length_toList] at h
    have e : ∀ b : ByteArray, b.data.size = b.size := fun _ => rfl
    simp only [e] at h
    omega
  clear hA0 hval0
  refine (ednsRecords_walk W a0_0 a0_1 a0_2 a0_3 a0_4 a1 a2 (bd_u16 wa0_0).1 (bd_u16 wa0_0).2 (bd_u8 wa0_1).1 (bd_u8 wa0_1).2 (bd_u8 wa0_2).1 (bd_u8 wa0_2).2 (bd_u16 wa0_3).1 (bd_u16 wa0_3).2 by0 (bd_i64 w2).1 (bd_i64 w2).2).mono fun e W' ⟨he, bel⟩ => ?_
  subst he
  exact ⟨_, rfl, _, _, _, [], _, [], hW', trodAll_mk1 (shut_bool Try.underlying4 _), (trodAll_cons_mk (Below.trod laidOut (by kernel_rfl) (of_decide_eq_true (by kernel_rfl)) k0 bel lt0) (trodAll_cons_mk (shut_bool Try.underlying4 _) (trodAll_cons_mk (shut_int Try.underlying3 w2) trodAll_mk0))), rfl, bel.frame _, fun h => by cases h⟩
theorem over : Rows.ednsRecordsUptoRow.holds Try.pinned (Rows.OpenSpec.upto Rows.ednsRecordsSpec) :=
  OpenClaim.holds_of_cond 3 Try.f3 rfl rfl rfl rfl rfl rfl rfl ⟨rfl, rfl, rfl, rfl, rfl⟩ rfl rfl rfl rfl rfl (by kernel_rfl) Try.func3 (by kernel_rfl)
    (of_decide_eq_true (by kernel_rfl)) (by unfold Func.isWrapper; first | (rw [if_pos (by decide +kernel)]; kernel_rfl) | (rw [if_neg (by decide +kernel)]; exact ⟨rfl, rfl⟩))
    (fun os started H enc _ F => lifted os started H enc F)
end Go.Proofs.Ytdgdgioenfglnaa.ednsRecordsUpto
namespace Go.Proofs.Ytdgdgioenfglnaa
/-- The row, under a short name, for the claim. -/
theorem ednsRecordsUpto_holds : Rows.EdnsRecordsUptoSaid := ednsRecordsUpto.over
#print axioms ednsRecordsUpto_holds
end Go.Proofs.Ytdgdgioenfglnaa
