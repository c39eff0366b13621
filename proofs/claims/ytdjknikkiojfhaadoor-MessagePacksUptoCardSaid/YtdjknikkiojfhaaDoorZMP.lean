import Derived.Test.YtdjknikkiojfhaaDoorZMN
import Derived.Test.YtdjknikkiojfhaaDoorZMI
import Derived.Test.YtdjknikkiojfhaaDoorZMJ
/- MessagePacks: the walk. -/
namespace Go.Proofs.YtdjknikkiojfhaaDoor
open Go.RowKit Go.HL Go.Maps
set_option linter.unusedVariables false
set_option linter.unusedSimpArgs false
set_option maxRecDepth 8000 in
set_option maxHeartbeats 2000000 in
theorem messagePacks_walk (w : World) (m : Mg) (ho : m.ok w) (hf : m.fit 1048576) (hK : Kd w) : Calls Tryd.prog 3 #[m.val] w fun e w' => e = .returned (.bool true) ∧ Below w.heap.size w w' := by
  have hb := below_new w (.cells m.cells.toArray 26)
  have hm := Blk.new w 26 m.cells.toArray
  have how := own_ (w.alloc (.cells m.cells.toArray 26)) m (ho.below hb) (by have := hf.q; omega) (fun p hp => by have := hf.p p hp; omega)
  have hrp := fun (W : World) (hW : Below (w.alloc (.cells m.cells.toArray 26)).heap.size (w.alloc (.cells m.cells.toArray 26)) W) => rpack_ W m ((ho.below hb).below hW) (hf.mono (by omega))
  have hpk := fun (W : World) (m' : Mg) (h1 : m.like m') (h2 : m'.ok W) (hW : Below (w.alloc (.cells m.cells.toArray 26)).heap.size (w.alloc (.cells m.cells.toArray 26)) W) => pack_ W m' h2 (h1.fit (hf.mono (by omega))) ((hK.below hb).below hW)
  have hcl := fun (W : World) (hW : Below (w.alloc (.cells m.cells.toArray 26)).heap.size (w.alloc (.cells m.cells.toArray 26)) W) => hm.below hW
  have hwk := fun (W : World) (hW : Below (w.alloc (.cells m.cells.toArray 26)).heap.size (w.alloc (.cells m.cells.toArray 26)) W) => wakes_ W ((hK.below hb).below hW)
  have hlk : ∀ m' : Mg, m.like m' → packV m' = packV m := fun m' h => h.pack
  have HB := Lib.hid hb
  have HCL := Lib.hid hcl
  have HRP := Lib.hid hrp
  have HPK := Lib.hid hpk
  have HWK := Lib.hid hwk
  have c0 := hm.cell 0 _ rfl
  have c1 := hm.cell 1 _ rfl
  have c2 := hm.cell 2 _ rfl
  have c3 := hm.cell 3 _ rfl
  have c4 := hm.cell 4 _ rfl
  have c5 := hm.cell 5 _ rfl
  have c6 := hm.cell 6 _ rfl
  have c7 := hm.cell 7 _ rfl
  have c8 := hm.cell 8 _ rfl
  have c9 := hm.cell 9 _ rfl
  have c10 := hm.cell 10 _ rfl
  have c11 := hm.cell 11 _ rfl
  have c12 := hm.cell 12 _ rfl
  obtain ⟨W1, hW1⟩ : ∃ x, w.alloc (.cells m.cells.toArray 26) = x := ⟨_, rfl⟩
  rw [hW1] at how HB HCL HRP HPK HWK c0 c1 c2 c3 c4 c5 c6 c7 c8 c9 c10 c11 c12
  obtain ⟨R, hR⟩ : ∃ R, packV m = R := ⟨_, rfl⟩
  rw [hR] at hlk HRP
  have HLK := Lib.hid hlk
  unfold Mg.cells at hW1
  clear hb hm hcl hrp hpk hwk hlk hR
  unfold Mg.val at how HRP ⊢
  go_enter Tryd.func3, Tryd.ntmps3
  go_wp2_with (first
    | ((try rw [hW1]); go_at_call 8; refine how.mono ?_; clear how; rintro e W2 ⟨m', rfl, hl1, ho1, hb1⟩; have HLO := Lib.hid (And.intro hl1 ho1); have HB1 := Lib.hid hb1; clear hl1 ho1 hb1 hW1 c0 c1 c2 c3 c4 c5 c6 c7 c8 c9 c10 c11 c12)
    | (go_at_call 7; refine (HPK.out W2 m' HLO.out.1 HLO.out.2 HB1.out).mono ?_; rw [HLK.out m' HLO.out.1]; clear HPK; rintro e W3 ⟨A1, n1, k1, rfl, hr1, -, hb2⟩; have HR1 := Lib.hid hr1; have HB2 := Lib.hid (below_trans HB1.out hb2); have hX := HCL.out W3 HB2.out; have c0 := hX.cell 0 _ rfl; have c1 := hX.cell 1 _ rfl; have c2 := hX.cell 2 _ rfl; have c3 := hX.cell 3 _ rfl; have c4 := hX.cell 4 _ rfl; have c5 := hX.cell 5 _ rfl; have c6 := hX.cell 6 _ rfl; have c7 := hX.cell 7 _ rfl; have c8 := hX.cell 8 _ rfl; have c9 := hX.cell 9 _ rfl; have c10 := hX.cell 10 _ rfl; have c11 := hX.cell 11 _ rfl; have c12 := hX.cell 12 _ rfl; clear hX hr1 hb2)
    | (go_at_call 9; refine (HRP.out W3 HB2.out).mono ?_; clear HRP; rintro e W4 ⟨A2, n2, k2, rfl, hr2, -, hb3⟩; have HB3 := Lib.hid (below_trans HB2.out hb3); have hv1 := run_conv_str (P := Tryd.prog) W4 (src := 27) (dst := 9) Tryd.underlying27 Tryd.underlying5 Tryd.underlying9 (HR1.out.below hb3); have hv2 := run_conv_str (P := Tryd.prog) W4 (src := 27) (dst := 9) Tryd.underlying27 Tryd.underlying5 Tryd.underlying9 hr2; have HWK4 := Lib.hid (HWK.out W4 HB3.out); clear hr2 hb3 c0 c1 c2 c3 c4 c5 c6 c7 c8 c9 c10 c11 c12)
    | (go_at_call 10; refine HWK4.out.mono ?_; rintro e W5 ⟨rfl, hb4⟩; have HB4 := Lib.hid (below_trans HB3.out hb4); clear hb4))
  go_ret
  exact ⟨rfl, below_trans HB.out HB4.out⟩
end Go.Proofs.YtdjknikkiojfhaaDoor
