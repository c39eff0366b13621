/- The second form's row of the law EdnsBack, out of its walk: where what it reads is small, the call tells true, and each argument reads as it did. -/
import Derived.Test.YtdgdgioenfglnaaLW
import Derived.Test.YtdgdgioenfglnaaHT
import Derived.Test.YtdgdgioenfglnaaRows
import Derived.JoinedCond
import Derived.ProofKit
import Derived.OpenShut
namespace Go.Proofs.Ytdgdgioenfglnaa.ednsBackUpto
open Go.ChangeShapes Go.WideShapes Go.ChangeAt Go.RowKit Go.HL
open Go.ChangeMaps (open_string shut_string)
set_option linter.unusedVariables false
set_option linter.unusedSimpArgs false
theorem own : ownKnob Try.prog.godebug = none := by kernel_rfl
theorem laidOut : laidOutB Try.prog = true := by kernel_rfl
set_option maxRecDepth 100000 in
theorem lifted (os : Os) (started : os.Started) (H : Type) (enc : TypeId × Value → H) (F : Stop.Interp) :
    ReturnsInHanded {} Try.checked os 6 .any ((Rows.OpenSpec.upto Rows.ednsBackSpec).pre6 enc Try.prog Try.f6 Rows.ednsBackUptoRow.domain false) (((Rows.OpenSpec.upto Rows.ednsBackSpec).at F).post enc Try.prog Try.f6 false true false false) := by
  refine returnsInHanded_of_cond (C := Try.checked) (s := Rows.OpenSpec.upto Rows.ednsBackSpec) (k := Rows.uptoSmall) rfl own started (by kernel_rfl) Try.func6
    (OpenSpec.witness (enc := enc) (C := Try.checked) (s := Rows.OpenSpec.upto Rows.ednsBackSpec) (k := Rows.uptoSmall) rfl false ⟨#[], #[.agg #[.int .u16 0, .bool false, .int .u8 0, .bool false, .bool false, .bool false, .bool false, .int .u8 0, .int .u8 0, .slice none 0 0, .slice none 0 0, .slice none 0 0, .slice none 0 0], .int .u16 0, .agg #[.int .u16 0, .int .u8 0, .int .u8 0, .int .u16 0, .string ByteArray.empty], .int .i64 0], []⟩ 8 (by kernel_rfl) (by kernel_rfl) (by kernel_rfl)
      (x := ([.agg [.lit (.int .u16 0), .lit (.bool false), .lit (.int .u8 0), .lit (.bool false), .lit (.bool false), .lit (.bool false), .lit (.bool false), .lit (.int .u8 0), .lit (.int .u8 0), .nil, .nil, .nil, .nil], .lit (.int .u16 0), .agg [.lit (.int .u16 0), .lit (.int .u8 0), .lit (.int .u8 0), .lit (.int .u16 0), .lit (.string [])], .lit (.int .i64 0)], [], [])) (by kernel_rfl) rfl (by kernel_rfl)) ?_
  intro W base args ds gs before hval0 hW _ hk _
  have hval : ∀ (j : Nat) t v, Try.f6.params[j]? = some t → args[j]? = some v → Value.okWide Try.prog W .any base t v := hval0
  have hW' := hW
  obtain ⟨p, q, hA0, hV, rfl, hfz, hnd⟩ := hW
  have hA : DataW.TrodAll enc Try.prog W 0 (fun _ => true) true Try.f6.params.toList args.toList ds p := hA0
  rw [Try.params6] at hA hval
  obtain ⟨v0, vs0, d0, ds0, p0, q0, hargs, rfl, rfl, h0, r0⟩ := trodAll_cons hA
  obtain ⟨v1, vs1, d1, ds1, p1, q1, rfl, rfl, rfl, h1, r1⟩ := trodAll_cons r0
  obtain ⟨v2, vs2, d2, ds2, p2, q2, rfl, rfl, rfl, h2, r2⟩ := trodAll_cons r1
  obtain ⟨v3, vs3, d3, ds3, p3, q3, rfl, rfl, rfl, h3, r3⟩ := trodAll_cons r2
  obtain ⟨rfl, rfl, rfl⟩ := trodAll_nil r3
  obtain rfl : args = #[v0, v1, v2, v3] := by cases args; simp_all
  obtain ⟨rfl, rfl⟩ := trodVars_none hV
  have k0 := h0
  have lt0 : ∀ x ∈ p0, x.block < W.heap.size := by obtain ⟨m, hm⟩ := k0; exact DataW.trod_lt m _ _ _ hm
  obtain ⟨cs0, rfl, hs0⟩ := okWide_struct Try.underlying46 (hval 0 46 v0 rfl rfl)
  have hk0 : Rows.uptoBulk d0 ≤ 1048576 := by
    have h := of_decide_eq_true hk
    simp only [List.append_nil, List.map_cons, List.map_nil, Rows.uptoBulkAll] at h
    omega
  obtain ⟨m0, A0, n0, c0, l0, hm0, hr0, hn0, hok0, ra0, rb0⟩ := open_msg hs0 h0 hk0
  obtain ⟨a1, rfl, rfl, rfl, w1⟩ := open_int Try.underlying22 (hval 1 22 v1 rfl rfl) h1
  have k2 := h2
  have lt2 : ∀ x ∈ p2, x.block < W.heap.size := by obtain ⟨m, hm⟩ := k2; exact DataW.trod_lt m _ _ _ hm
  obtain ⟨cs2, rfl, hs2⟩ := okWide_struct Try.underlying24 (hval 2 24 v2 rfl rfl)
  obtain ⟨fu2, hf2⟩ := h2
  obtain ⟨mm2, xs2, rfl, hl2, hx2, hd2⟩ := trod_struct Try.underlying24 hf2
  obtain ⟨c0, c1, c2, c3, c4, rfl⟩ := arr5 cs2 (by rw [hs2]; kernel_rfl)
  obtain ⟨y2_0, xr2_0, e2_0, hx2_0, rfl⟩ := mapM_cons_some hx2
  obtain ⟨y2_1, xr2_1, e2_1, hx2_1, rfl⟩ := mapM_cons_some hx2_0
  obtain ⟨y2_2, xr2_2, e2_2, hx2_2, rfl⟩ := mapM_cons_some hx2_1
  obtain ⟨y2_3, xr2_3, e2_3, hx2_3, rfl⟩ := mapM_cons_some hx2_2
  obtain ⟨y2_4, xr2_4, e2_4, hx2_4, rfl⟩ := mapM_cons_some hx2_3
  obtain rfl := mapM_nil_some hx2_4
  clear hx2 hx2_0 hx2_1 hx2_2 hx2_3 hx2_4
  simp only [show Try.prog.cellsOf 22 = 1 from by kernel_rfl, List.drop_zero, List.drop_succ_cons, List.take_succ_cons, List.take_zero] at e2_0
  obtain ⟨a2_0, ea, wa2_0, rfl⟩ := trod_int Try.underlying22 e2_0
  obtain rfl : c0 = .int .u16 a2_0 := by simpa [Value.cells] using ea
  clear ea e2_0
  simp only [show Try.prog.cellsOf 5 = 1 from by kernel_rfl, List.drop_zero, List.drop_succ_cons, List.take_succ_cons, List.take_zero] at e2_1
  obtain ⟨a2_1, ea, wa2_1, rfl⟩ := trod_int Try.underlying5 e2_1
  obtain rfl : c1 = .int .u8 a2_1 := by simpa [Value.cells] using ea
  clear ea e2_1
  simp only [show Try.prog.cellsOf 5 = 1 from by kernel_rfl, List.drop_zero, List.drop_succ_cons, List.take_succ_cons, List.take_zero] at e2_2
  obtain ⟨a2_2, ea, wa2_2, rfl⟩ := trod_int Try.underlying5 e2_2
  obtain rfl : c2 = .int .u8 a2_2 := by simpa [Value.cells] using ea
  clear ea e2_2
  simp only [show Try.prog.cellsOf 22 = 1 from by kernel_rfl, List.drop_zero, List.drop_succ_cons, List.take_succ_cons, List.take_zero] at e2_3
  obtain ⟨a2_3, ea, wa2_3, rfl⟩ := trod_int Try.underlying22 e2_3
  obtain rfl : c3 = .int .u16 a2_3 := by simpa [Value.cells] using ea
  clear ea e2_3
  simp only [show Try.prog.cellsOf 9 = 1 from by kernel_rfl, List.drop_zero, List.drop_succ_cons, List.take_succ_cons, List.take_zero] at e2_4
  obtain ⟨a2_4, ea, wa2_4, rfl⟩ := trod_str Try.underlying9 e2_4
  obtain rfl : c4 = .string a2_4 := by simpa [Value.cells] using ea
  clear ea e2_4
  obtain ⟨rfl, rfl⟩ : d2 = _ ∧ p2 = _ := Prod.mk.inj hd2
  obtain ⟨a3, rfl, rfl, rfl, w3⟩ := open_int Try.underlying3 (hval 3 3 v3 rfl rfl) h3
  have by2 : a2_4.size ≤ 1048576 := by
    have h := of_decide_eq_true hk
    simp only [List.append_nil, List.map_cons, List.map_nil, Rows.uptoBulkAll, Rows.uptoBulk, Array.length_toList] at h
    have e : ∀ b : ByteArray, b.data.size = b.size := fun _ => rfl
    simp only [e] at h
    omega
  clear hA0 hval0
  have hc := ednsBack_walk W m0 A0 n0 c0 l0 a1 a2_0 a2_1 a2_2 a2_3 a2_4 a3 hr0 hn0 hok0 ra0 rb0 (bd_u16 w1).1 (bd_u16 w1).2 (bd_u16 wa2_0).1 (bd_u16 wa2_0).2 (bd_u8 wa2_1).1 (bd_u8 wa2_1).2 (bd_u8 wa2_2).1 (bd_u8 wa2_2).2 (bd_u16 wa2_3).1 (bd_u16 wa2_3).2 by2 (bd_i64 w3).1 (bd_i64 w3).2
  rw [← hm0] at hc
  refine hc.mono fun e W' ⟨he, bel⟩ => ?_
  subst he
  exact ⟨_, rfl, _, _, _, [], _, [], hW', trodAll_mk1 (shut_bool Try.underlying4 _), (trodAll_cons_mk (Below.trod laidOut (by kernel_rfl) (of_decide_eq_true (by kernel_rfl)) k0 bel lt0) (trodAll_cons_mk (shut_int Try.underlying22 w1) (trodAll_cons_mk (Below.trod laidOut (by kernel_rfl) (of_decide_eq_true (by kernel_rfl)) k2 bel lt2) (trodAll_cons_mk (shut_int Try.underlying3 w3) trodAll_mk0)))), rfl, bel.frame _, fun h => by cases h⟩
theorem over : Rows.ednsBackUptoRow.holds Try.pinned (Rows.OpenSpec.upto Rows.ednsBackSpec) :=
  OpenClaim.holds_of_cond 6 Try.f6 rfl rfl rfl rfl rfl rfl rfl ⟨rfl, rfl, rfl, rfl, rfl⟩ rfl rfl rfl rfl rfl (by kernel_rfl) Try.func6 (by kernel_rfl)
    (of_decide_eq_true (by kernel_rfl)) (by unfold Func.isWrapper; first | (rw [if_pos (by decide +kernel)]; kernel_rfl) | (rw [if_neg (by decide +kernel)]; exact ⟨rfl, rfl⟩))
    (fun os started H enc _ F => lifted os started H enc F)
end Go.Proofs.Ytdgdgioenfglnaa.ednsBackUpto
namespace Go.Proofs.Ytdgdgioenfglnaa
/-- The row, under a short name, for the claim. -/
theorem ednsBackUpto_holds : Rows.EdnsBackUptoSaid := ednsBackUpto.over
#print axioms ednsBackUpto_holds
end Go.Proofs.Ytdgdgioenfglnaa
