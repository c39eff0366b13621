import Derived.Test.YtdjknikkiojfhaaDoorZMH
/- hearsayref06.Pack: the contract. -/
namespace Go.Proofs.YtdjknikkiojfhaaDoor
open Go.RowKit Go.HL Go.Maps
set_option linter.unusedVariables false
set_option linter.unusedSimpArgs false
set_option maxRecDepth 8000 in
theorem rpack_ (w : World) (m : Mg) (ho : m.ok w) (hf : m.fit 100000000) : Calls Tryd.prog 9 #[m.val] w (PackR w (packV m)) := by
  have hb := below_new w (.cells m.cells.toArray 26)
  have hm := Blk.new w 26 m.cells.toArray
  have hwr := rwrong_ (w.alloc (.cells m.cells.toArray 26)) m (ho.below hb) hf
  have hby := fun (h : wrongV m = 0) (W : World) (hW : Below (w.alloc (.cells m.cells.toArray 26)).heap.size (w.alloc (.cells m.cells.toArray 26)) W) => rbytes_ W m ((ho.below hb).below hW) hf (good_of ho (hf.mono (by omega)) h)
  have hcl := fun (W : World) (hW : Below (w.alloc (.cells m.cells.toArray 26)).heap.size (w.alloc (.cells m.cells.toArray 26)) W) => hm.below hW
  have HB := Lib.hid hb
  have HCL := Lib.hid hcl
  have c0 := hm.cell 0 _ rfl
  have c1 := hm.cell 1 _ rfl
  have c2 := hm.cell 2 _ rfl
  have c3 := hm.cell 3 _ rfl
  have c4 := hm.cell 4 _ rfl
  have c5 := hm.cell 5 _ rfl
  have c6 := hm.cell 6 _ rfl
  have c7 := hm.cell 7 _ rfl
  have c8 := hm.cell 8 _ rfl
  have c9 := hm.cell 9 _ rfl
  have c10 := hm.cell 10 _ rfl
  have c11 := hm.cell 11 _ rfl
  have c12 := hm.cell 12 _ rfl
  obtain ⟨W1, hW1⟩ : ∃ x, w.alloc (.cells m.cells.toArray 26) = x := ⟨_, rfl⟩
  rw [hW1] at hwr hby HB HCL c0 c1 c2 c3 c4 c5 c6 c7 c8 c9 c10 c11 c12
  unfold Mg.cells at hW1
  clear hb hm hcl
  unfold Mg.val at hwr hby ⊢
  by_cases h0 : wrongV m = 0
  · have HBY := Lib.hid (hby h0)
    rw [h0] at hwr
    have hp : packV m = if 65535 < (msgB m).length then ([], 2) else (msgB m, 0) := by unfold packV; rw [if_pos h0]
    obtain ⟨L, hL⟩ : ∃ L, msgB m = L := ⟨_, rfl⟩
    rw [hL] at hp HBY
    obtain ⟨R, hR⟩ : ∃ R, packV m = R := ⟨_, rfl⟩
    rw [hR] at hp ⊢
    clear hR hby h0 hL
    by_cases hl : 65535 < L.length
    · rw [if_pos hl] at hp
      have HP := Lib.hid hp
      have HL := Lib.hid hl
      clear hp hl
      go_enter Tryd.func9, Tryd.ntmps9
      go_wp2_with (first | ((try rw [hW1]); go_at_call 18; refine hwr.mono ?_; clear hwr; rintro e W2 ⟨rfl, hb1⟩; have HB1 := Lib.hid hb1; clear hb1 hW1 c0 c1 c2 c3 c4 c5 c6 c7 c8 c9 c10 c11 c12; have hX := HCL.out W2 HB1.out; have c0 := hX.cell 0 _ rfl; have c1 := hX.cell 1 _ rfl; have c2 := hX.cell 2 _ rfl; have c3 := hX.cell 3 _ rfl; have c4 := hX.cell 4 _ rfl; have c5 := hX.cell 5 _ rfl; have c6 := hX.cell 6 _ rfl; have c7 := hX.cell 7 _ rfl; have c8 := hX.cell 8 _ rfl; have c9 := hX.cell 9 _ rfl; have c10 := hX.cell 10 _ rfl; have c11 := hX.cell 11 _ rfl; have c12 := hX.cell 12 _ rfl; clear hX) | (go_at_call 19; refine (HBY.out W2 HB1.out).mono ?_; clear HBY; rintro e W3 ⟨A2, n2, c2', rfl, hr2, hb2⟩; have hln := hr2.blen; have HR2 := Lib.hid (And.intro hr2 hb2); have hgt : (65535 : Int) < (n2 : Int) := (by have := HL.out; omega); clear hr2 hb2 hln))
      go_ret2
      refine ⟨none, 0, 0, ?_, ?_, fun _ => rfl, below_trans HB.out (below_trans HB1.out HR2.out.2)⟩
      · rw [HP.out]; rfl
      · rw [HP.out]; exact Rd.nil _ _
    · rw [if_neg hl] at hp
      have HP := Lib.hid hp
      have HL := Lib.hid hl
      clear hp hl
      go_enter Tryd.func9, Tryd.ntmps9
      go_wp2_with (first | ((try rw [hW1]); go_at_call 18; refine hwr.mono ?_; clear hwr; rintro e W2 ⟨rfl, hb1⟩; have HB1 := Lib.hid hb1; clear hb1 hW1 c0 c1 c2 c3 c4 c5 c6 c7 c8 c9 c10 c11 c12; have hX := HCL.out W2 HB1.out; have c0 := hX.cell 0 _ rfl; have c1 := hX.cell 1 _ rfl; have c2 := hX.cell 2 _ rfl; have c3 := hX.cell 3 _ rfl; have c4 := hX.cell 4 _ rfl; have c5 := hX.cell 5 _ rfl; have c6 := hX.cell 6 _ rfl; have c7 := hX.cell 7 _ rfl; have c8 := hX.cell 8 _ rfl; have c9 := hX.cell 9 _ rfl; have c10 := hX.cell 10 _ rfl; have c11 := hX.cell 11 _ rfl; have c12 := hX.cell 12 _ rfl; clear hX) | (go_at_call 19; refine (HBY.out W2 HB1.out).mono ?_; clear HBY; rintro e W3 ⟨A2, n2, c2', rfl, hr2, hb2⟩; have hln := hr2.blen; have HR2 := Lib.hid (And.intro hr2 hb2); have hgt : ¬ (65535 : Int) < (n2 : Int) := (by have := HL.out; omega); clear hr2 hb2 hln))
      go_ret2
      refine ⟨A2, n2, c2', ?_, ?_, fun h => ?_, below_trans HB.out (below_trans HB1.out HR2.out.2)⟩
      · rw [HP.out]; rfl
      · rw [HP.out]; exact HR2.out.1
      · rw [HP.out] at h; exact absurd rfl h
  · have hp : packV m = ([], wrongV m) := by unfold packV; rw [if_neg h0]
    rw [hp]
    obtain ⟨e0, he0⟩ : ∃ x, wrongV m = x := ⟨_, rfl⟩
    rw [he0] at hwr h0 ⊢
    have hne : (e0 != 0) = true := by simpa using h0
    clear hp hby he0 h0
    go_enter Tryd.func9, Tryd.ntmps9
    go_wp2_with (first | ((try rw [hW1]); go_at_call 18; refine hwr.mono ?_; clear hwr; rintro e W2 ⟨rfl, hb1⟩; have HB1 := Lib.hid hb1; clear hb1))
    go_ret2
    exact ⟨none, 0, 0, rfl, Rd.nil _ _, fun _ => rfl, below_trans HB.out HB1.out⟩
end Go.Proofs.YtdjknikkiojfhaaDoor
