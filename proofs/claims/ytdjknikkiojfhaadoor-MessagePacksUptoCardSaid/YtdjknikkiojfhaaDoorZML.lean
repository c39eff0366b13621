import Derived.Test.YtdjknikkiojfhaaDoorZMK
import Derived.Laws.EntriesVeiled
/- message.Head. -/
namespace Go.Proofs.YtdjknikkiojfhaaDoor
open Go.RowKit Go.HL Go.Maps
set_option linter.unusedVariables false
set_option linter.unusedSimpArgs false
set_option maxRecDepth 100000 in
theorem and_tab : ∀ n : Nat, n < 256 → (bits .and .u8 (n : Int) 1 = (n : Int) % 2 ∧ bits .and .u8 (n : Int) 7 = (n : Int) % 8 ∧ bits .and .u8 (n : Int) 15 = (n : Int) % 16) := by decide
theorem and_mask (x : Int) (h0 : 0 ≤ x) (h1 : x < 256) : bits .and .u8 x 1 = x % 2 ∧ bits .and .u8 x 7 = x % 8 ∧ bits .and .u8 x 15 = x % 16 := by
  obtain ⟨n, rfl⟩ := Int.eq_ofNat_of_zero_le h0
  exact and_tab n (by omega)
/-- What holds while a head is read. -/
structure Hp (W : World) (Z F L M : Nat) (f left : Int) (cs : List Value) (wr : World) : Prop where
  bF : Blk wr F 22 [.int .u16 f]
  bL : Blk wr L 3 [.int .i64 left]
  bM : Blk wr M 26 cs
  bZ : Blk wr Z 26 [.int .u16 0, .bool false, .int .u8 0, .bool false, .bool false, .bool false, .bool false, .int .u8 0, .int .u8 0, .slice none 0 0, .slice none 0 0, .slice none 0 0, .slice none 0 0]
  B : Below Z W wr
  o1 : Z < F
  o2 : F < L
  o3 : L < M
section
variable {W : World} {Z F L M : Nat} {f left : Int} {cs : List Value} {wr : World}
theorem Hp.setM (k : Hp W Z F L M f left cs wr) (j : Nat) (v : Value) : Hp W Z F L M f left (cs.set j v) (wr.setCell ⟨M, j, none⟩ v) := by
  have h1 := k.o1
  have h2 := k.o2
  have h3 := k.o3
  exact ⟨k.bF.set_other _ _ (by omega), k.bL.set_other _ _ (by omega), k.bM.set _ _, k.bZ.set_other _ _ (by omega), Below.grown k.B (grown_set _ _ _) (Nat.le_of_lt k.bZ.lt) (fun i hi => by cases hi; show Z ≤ M; omega), h1, h2, h3⟩
theorem Hp.setL (k : Hp W Z F L M f left cs wr) (v : Int) : Hp W Z F L M f v cs (wr.setCell ⟨L, 0, none⟩ (.int .i64 v)) := by
  have h1 := k.o1
  have h2 := k.o2
  have h3 := k.o3
  exact ⟨k.bF.set_other _ _ (by omega), k.bL.set _ _, k.bM.set_other _ _ (by omega), k.bZ.set_other _ _ (by omega), Below.grown k.B (grown_set _ _ _) (Nat.le_of_lt k.bZ.lt) (fun i hi => by cases hi; show Z ≤ L; omega), h1, h2, h3⟩
theorem Hp.drewN (k : Hp W Z F L M f left cs wr) (q : Nat) : Hp W Z F L M f left cs (wr.drewN q) :=
  ⟨k.bF.below (below_drewN (Below.refl _ _) q), k.bL.below (below_drewN (Below.refl _ _) q), k.bM.below (below_drewN (Below.refl _ _) q), k.bZ.below (below_drewN (Below.refl _ _) q), below_drewN k.B q, k.o1, k.o2, k.o3⟩
/-- pull: the next bits. -/
theorem Hp.pull (k : Hp W Z F L M f left cs wr) (hf : 0 ≤ f ∧ f < 65536) (n : Nat) (p : Int) (hp : (left, n, p) ∈ ([(16, 1, 32768), (15, 4, 2048), (11, 1, 1024), (10, 1, 512), (9, 1, 256), (8, 1, 128), (7, 3, 16), (4, 4, 1)] : List (Int × Nat × Int))) :
    Calls Tryd.prog 51 #[.int .i64 (n : Int), .pointer (some ⟨L, 0, none⟩), .pointer (some ⟨F, 0, none⟩)] wr fun e w' => e = .returned (.int .u8 (f / p % 2 ^ n)) ∧ Hp W Z F L M f (left - n) cs w' := by
  have HK := Lib.hid k
  have c1 := k.bF.cell 0 _ rfl
  have c2 := k.bL.cell 0 _ rfl
  have f2 := k.bL.free 0
  simp only [List.mem_cons, List.not_mem_nil, or_false, Prod.mk.injEq] at hp
  clear k
  rcases hp with ⟨rfl, rfl, rfl⟩ | ⟨rfl, rfl, rfl⟩ | ⟨rfl, rfl, rfl⟩ | ⟨rfl, rfl, rfl⟩ | ⟨rfl, rfl, rfl⟩ | ⟨rfl, rfl, rfl⟩ | ⟨rfl, rfl, rfl⟩ | ⟨rfl, rfl, rfl⟩
  · have hS := HK.out.setL 15
    have d1 := hS.bF.cell 0 _ rfl
    have d2 := hS.bL.cell 0 _ rfl
    have HS := Lib.hid hS
    clear hS
    go_enter Tryd.func51, Tryd.ntmps51
    go_wp2
    go_quiet (fail)
    go_wp2
    go_ret
    refine ⟨congrArg (fun x => Ending.returned (Value.int .u8 x)) (a₂ := f / 32768 % 2 ^ 1) ?_, HS.out.drewN _⟩
    first | omega | (rw [(and_mask _ (by omega) (by omega)).1]; omega)
  · have hS := HK.out.setL 11
    have d1 := hS.bF.cell 0 _ rfl
    have d2 := hS.bL.cell 0 _ rfl
    have HS := Lib.hid hS
    clear hS
    go_enter Tryd.func51, Tryd.ntmps51
    go_wp2
    go_quiet (fail)
    go_wp2
    go_ret
    refine ⟨congrArg (fun x => Ending.returned (Value.int .u8 x)) (a₂ := f / 2048 % 2 ^ 4) ?_, HS.out.drewN _⟩
    first | omega | (rw [(and_mask _ (by omega) (by omega)).2.2]; omega)
  · have hS := HK.out.setL 10
    have d1 := hS.bF.cell 0 _ rfl
    have d2 := hS.bL.cell 0 _ rfl
    have HS := Lib.hid hS
    clear hS
    go_enter Tryd.func51, Tryd.ntmps51
    go_wp2
    go_quiet (fail)
    go_wp2
    go_ret
    refine ⟨congrArg (fun x => Ending.returned (Value.int .u8 x)) (a₂ := f / 1024 % 2 ^ 1) ?_, HS.out.drewN _⟩
    first | omega | (rw [(and_mask _ (by omega) (by omega)).1]; omega)
  · have hS := HK.out.setL 9
    have d1 := hS.bF.cell 0 _ rfl
    have d2 := hS.bL.cell 0 _ rfl
    have HS := Lib.hid hS
    clear hS
    go_enter Tryd.func51, Tryd.ntmps51
    go_wp2
    go_quiet (fail)
    go_wp2
    go_ret
    refine ⟨congrArg (fun x => Ending.returned (Value.int .u8 x)) (a₂ := f / 512 % 2 ^ 1) ?_, HS.out.drewN _⟩
    first | omega | (rw [(and_mask _ (by omega) (by omega)).1]; omega)
  · have hS := HK.out.setL 8
    have d1 := hS.bF.cell 0 _ rfl
    have d2 := hS.bL.cell 0 _ rfl
    have HS := Lib.hid hS
    clear hS
    go_enter Tryd.func51, Tryd.ntmps51
    go_wp2
    go_quiet (fail)
    go_wp2
    go_ret
    refine ⟨congrArg (fun x => Ending.returned (Value.int .u8 x)) (a₂ := f / 256 % 2 ^ 1) ?_, HS.out.drewN _⟩
    first | omega | (rw [(and_mask _ (by omega) (by omega)).1]; omega)
  · have hS := HK.out.setL 7
    have d1 := hS.bF.cell 0 _ rfl
    have d2 := hS.bL.cell 0 _ rfl
    have HS := Lib.hid hS
    clear hS
    go_enter Tryd.func51, Tryd.ntmps51
    go_wp2
    go_quiet (fail)
    go_wp2
    go_ret
    refine ⟨congrArg (fun x => Ending.returned (Value.int .u8 x)) (a₂ := f / 128 % 2 ^ 1) ?_, HS.out.drewN _⟩
    first | omega | (rw [(and_mask _ (by omega) (by omega)).1]; omega)
  · have hS := HK.out.setL 4
    have d1 := hS.bF.cell 0 _ rfl
    have d2 := hS.bL.cell 0 _ rfl
    have HS := Lib.hid hS
    clear hS
    go_enter Tryd.func51, Tryd.ntmps51
    go_wp2
    go_quiet (fail)
    go_wp2
    go_ret
    refine ⟨congrArg (fun x => Ending.returned (Value.int .u8 x)) (a₂ := f / 16 % 2 ^ 3) ?_, HS.out.drewN _⟩
    first | omega | (rw [(and_mask _ (by omega) (by omega)).2.1]; omega)
  · have hS := HK.out.setL 0
    have d1 := hS.bF.cell 0 _ rfl
    have d2 := hS.bL.cell 0 _ rfl
    have HS := Lib.hid hS
    clear hS
    go_enter Tryd.func51, Tryd.ntmps51
    go_wp2
    go_quiet (fail)
    go_wp2
    go_ret
    refine ⟨congrArg (fun x => Ending.returned (Value.int .u8 x)) (a₂ := f / 1 % 2 ^ 4) ?_, HS.out.drewN _⟩
    first | omega | (rw [(and_mask _ (by omega) (by omega)).2.2]; omega)
end
/-- The message that the first bytes tell. -/
def headM (l : List UInt8) : Mg := ⟨vat 2 l 0, vat 2 l 2 / 32768 % 2 ^ 1 == 1, vat 2 l 2 / 2048 % 2 ^ 4, vat 2 l 2 / 1024 % 2 ^ 1 == 1, vat 2 l 2 / 512 % 2 ^ 1 == 1, vat 2 l 2 / 256 % 2 ^ 1 == 1, vat 2 l 2 / 128 % 2 ^ 1 == 1, vat 2 l 2 / 16 % 2 ^ 3, vat 2 l 2 / 1 % 2 ^ 4, ⟨none, 0, 0, []⟩, ⟨none, 0, 0, []⟩, ⟨none, 0, 0, []⟩, ⟨none, 0, 0, []⟩⟩
def zeroM : Mg := ⟨0, false, 0, false, false, false, false, 0, 0, ⟨none, 0, 0, []⟩, ⟨none, 0, 0, []⟩, ⟨none, 0, 0, []⟩, ⟨none, 0, 0, []⟩⟩
theorem vat_lt2 (l : List UInt8) (i : Nat) : 0 ≤ vat 2 l i ∧ vat 2 l i < 65536 := by
  refine ⟨val_nonneg _, ?_⟩
  have h := val_lt ((l.drop i).take 2)
  have h2 : ((l.drop i).take 2).length ≤ 2 := by rw [List.length_take]; omega
  have h3 : (256 : Int) ^ ((l.drop i).take 2).length ≤ 65536 := by
    rcases Nat.lt_or_ge ((l.drop i).take 2).length 1 with h | h
    · rw [show ((l.drop i).take 2).length = 0 by omega]; decide
    · rcases Nat.lt_or_ge ((l.drop i).take 2).length 2 with h | h
      · rw [show ((l.drop i).take 2).length = 1 by omega]; decide
      · rw [show ((l.drop i).take 2).length = 2 by omega]; decide
  unfold vat
  omega
/-- Two results, the first of which lies in a block. -/
def HeadR (w : World) (m : Mg) (er : Int) (e : Ending) (w' : World) : Prop := e = .returned (.tuple #[m.val, .int .i64 er]) ∧ Below w.heap.size w w'
set_option maxRecDepth 8000 in
theorem head_no (w : World) (A : Option Addr) (n c : Nat) (hn : n < 12) : Calls Tryd.prog 21 #[.slice A n c] w (HeadR w zeroM 6) := by
  have hni : (n : Int) < 12 := by omega
  have hZ := Blk.new w 26 zeroM.cells.toArray
  have hb := below_new w (.cells zeroM.cells.toArray 26)
  obtain ⟨W1, hW1⟩ : ∃ x, w.alloc (.cells zeroM.cells.toArray 26) = x := ⟨_, rfl⟩
  rw [hW1] at hZ hb
  unfold zeroM Mg.cells at hW1
  go_enter Tryd.func21, Tryd.ntmps21
  go_wp2_with (refine wpList_put rfl 26 _ _ rfl w.heap.size zeroM.cells.toArray rfl rfl 26 _ hZ sizeMsg rfl rfl ?_)
  have hF := hZ.row zeroM.cells.toArray
  have hg := grown_row W1 w.heap.size zeroM.cells.toArray
  exact bodyPost_ret (results_rec rfl _ w.heap.size 26 _ _ rfl hF Tryd.underlying26 rfl sizeMsg) rfl ⟨rfl, Below.grown hb hg hb.size (fun j hj => by cases hj; exact Nat.le_refl _)⟩
def hcells (l : List UInt8) (k : Nat) : List Value := (headM l).cells.take (k + 1) ++ zeroM.cells.drop (k + 1)
set_option maxRecDepth 8000 in
set_option maxHeartbeats 2000000 in
theorem head_ok (w : World) (A : Option Addr) (n c : Nat) (l : List UInt8) (hr : Rd w 1 A n c (bs l)) (hn : n ≤ 281474976710656) (h12 : 12 ≤ n) : Calls Tryd.prog 21 #[.slice A n c] w (HeadR w (headM l) 0) := by
  have hni : ¬ (n : Int) < 12 := by omega
  have hZ := Blk.new w 26 zeroM.cells.toArray
  have hb := below_new w (.cells zeroM.cells.toArray 26)
  have hv2 := vat_lt2 l 2
  have hv0 := vat_lt2 l 0
  obtain ⟨W1, hW1⟩ : ∃ x, w.alloc (.cells zeroM.cells.toArray 26) = x := ⟨_, rfl⟩
  rw [hW1] at hZ hb
  have ht0 := take16w_ok A n c 0 hn (by omega) (by omega) W1 l (hr.below hb)
  have ht2 := take16w_ok A n c 2 hn (by omega) (by omega) W1 l (hr.below hb)
  rw [show (0 : Int).toNat = 0 from rfl, show val ((l.drop 0).take 2) = vat 2 l 0 from rfl] at ht0
  rw [show (2 : Int).toNat = 2 from rfl, show val ((l.drop 2).take 2) = vat 2 l 2 from rfl] at ht2
  obtain ⟨R, hR⟩ : ∃ R, HeadR w (headM l) 0 = R := ⟨_, rfl⟩
  rw [hR]
  have HR := Lib.hid hR
  have HC := Lib.hid (fun k => (rfl : hcells l k = _))
  obtain ⟨v0, hv0e⟩ : ∃ x, vat 2 l 0 = x := ⟨_, rfl⟩
  obtain ⟨f, hfe⟩ : ∃ x, vat 2 l 2 = x := ⟨_, rfl⟩
  rw [hv0e] at ht0 hv0
  rw [hfe] at ht2 hv2
  have HV := Lib.hid (And.intro hv0e hfe)
  have HZ := Lib.hid hZ
  have HB := Lib.hid hb
  unfold zeroM Mg.cells at hW1
  clear hR hZ hb hr hv0e hfe
  go_enter Tryd.func21, Tryd.ntmps21
  go_upto_region 8 with (first | (go_at_call 50; (with_reducible refine ht0.mono ?_); clear ht0; rintro e W2 ⟨rfl, rfl⟩) | (go_at_call 50; (with_reducible refine ht2.mono ?_); clear ht2; rintro e W2 ⟨rfl, rfl⟩))
  have hP : Hp w w.heap.size W1.heap.size (W1.heap.size + 1) (W1.heap.size + 1 + 1) f 16 [.int .u16 v0, .bool false, .int .u8 0, .bool false, .bool false, .bool false, .bool false, .int .u8 0, .int .u8 0, .slice none 0 0, .slice none 0 0, .slice none 0 0, .slice none 0 0] (((W1.alloc (.cells #[.int .u16 f] 22)).alloc (.cells #[.int .i64 16] 3)).alloc (.cells #[.int .u16 v0, .bool false, .int .u8 0, .bool false, .bool false, .bool false, .bool false, .int .u8 0, .int .u8 0, .slice none 0 0, .slice none 0 0, .slice none 0 0, .slice none 0 0] 26)) := by
    have h1 := Blk.new W1 22 #[.int .u16 f]
    have h2 := Blk.new (W1.alloc (.cells #[.int .u16 f] 22)) 3 #[.int .i64 16]
    have h3 := Blk.new ((W1.alloc (.cells #[.int .u16 f] 22)).alloc (.cells #[.int .i64 16] 3)) 26 #[.int .u16 v0, .bool false, .int .u8 0, .bool false, .bool false, .bool false, .bool false, .int .u8 0, .int .u8 0, .slice none 0 0, .slice none 0 0, .slice none 0 0, .slice none 0 0]
    rw [World.size_alloc] at h2
    rw [World.size_alloc, World.size_alloc] at h3
    have hz : Blk W1 w.heap.size 26 [.int .u16 0, .bool false, .int .u8 0, .bool false, .bool false, .bool false, .bool false, .int .u8 0, .int .u8 0, .slice none 0 0, .slice none 0 0, .slice none 0 0, .slice none 0 0] := HZ.out
    exact ⟨(h1.alloc _).alloc _, h2.alloc _, h3, ((hz.alloc _).alloc _).alloc _, below_alloc (below_alloc (below_alloc HB.out _) _) _, HZ.out.lt, Nat.lt_succ_self _, Nat.lt_succ_self _⟩
  obtain ⟨X, hX⟩ : ∃ x, (((W1.alloc (.cells #[.int .u16 f] 22)).alloc (.cells #[.int .i64 16] 3)).alloc (.cells #[.int .u16 v0, .bool false, .int .u8 0, .bool false, .bool false, .bool false, .bool false, .int .u8 0, .int .u8 0, .slice none 0 0, .slice none 0 0, .slice none 0 0, .slice none 0 0] 26)) = x := ⟨_, rfl⟩
  rw [hX] at hP ⊢
  obtain ⟨F, hF⟩ : ∃ x, W1.heap.size = x := ⟨_, rfl⟩
  rw [hF] at hP ⊢
  obtain ⟨L, hL⟩ : ∃ x, F + 1 = x := ⟨_, rfl⟩
  rw [hL] at hP ⊢
  obtain ⟨M, hM⟩ : ∃ x, L + 1 = x := ⟨_, rfl⟩
  rw [hM] at hP ⊢
  obtain ⟨Z, hZz⟩ : ∃ x, w.heap.size = x := ⟨_, rfl⟩
  rw [hZz] at hP ⊢
  have HZZ := Lib.hid hZz
  have HP := Lib.hid hP
  clear hX hF hL hM hZz HZ HB hP
  obtain ⟨y1, hy1⟩ : ∃ x, f / 32768 % 2 ^ 1 = x := ⟨_, rfl⟩
  have hpl := HP.out.pull hv2 1 32768 (by decide)
  rw [hy1] at hpl
  have HY1 := Lib.hid hy1
  clear hy1
  go_upto_region 9 with (go_at_call 51; refine hpl.mono ?_; clear hpl; rintro e X1 ⟨rfl, hP⟩; have s1 := hP.bM.cell 1 _ rfl; have f1 := hP.bM.free 1; have HP1 := Lib.hid hP; clear hP HP)
  have HP := Lib.hid (HP1.out.setM 1 (.bool (y1 == 1)))
  obtain ⟨Y1, hY1⟩ : ∃ x, X1.setCell ⟨M, 1, none⟩ (.bool (y1 == 1)) = x := ⟨_, rfl⟩
  rw [hY1] at HP ⊢
  clear hY1 HP1 s1 f1
  obtain ⟨y2, hy2⟩ : ∃ x, f / 2048 % 2 ^ 4 = x := ⟨_, rfl⟩
  have hpl := HP.out.pull hv2 4 2048 (by decide)
  rw [hy2] at hpl
  have HY2 := Lib.hid hy2
  clear hy2
  go_upto_region 10 with (go_at_call 51; refine hpl.mono ?_; clear hpl; rintro e X2 ⟨rfl, hP⟩; have s1 := hP.bM.cell 2 _ rfl; have f1 := hP.bM.free 2; have HP1 := Lib.hid hP; clear hP HP)
  have HP := Lib.hid (HP1.out.setM 2 (.int .u8 y2))
  obtain ⟨Y2, hY2⟩ : ∃ x, X2.setCell ⟨M, 2, none⟩ (.int .u8 y2) = x := ⟨_, rfl⟩
  rw [hY2] at HP ⊢
  clear hY2 HP1 s1 f1
  obtain ⟨y3, hy3⟩ : ∃ x, f / 1024 % 2 ^ 1 = x := ⟨_, rfl⟩
  have hpl := HP.out.pull hv2 1 1024 (by decide)
  rw [hy3] at hpl
  have HY3 := Lib.hid hy3
  clear hy3
  go_upto_region 11 with (go_at_call 51; refine hpl.mono ?_; clear hpl; rintro e X3 ⟨rfl, hP⟩; have s1 := hP.bM.cell 3 _ rfl; have f1 := hP.bM.free 3; have HP1 := Lib.hid hP; clear hP HP)
  have HP := Lib.hid (HP1.out.setM 3 (.bool (y3 == 1)))
  obtain ⟨Y3, hY3⟩ : ∃ x, X3.setCell ⟨M, 3, none⟩ (.bool (y3 == 1)) = x := ⟨_, rfl⟩
  rw [hY3] at HP ⊢
  clear hY3 HP1 s1 f1
  obtain ⟨y4, hy4⟩ : ∃ x, f / 512 % 2 ^ 1 = x := ⟨_, rfl⟩
  have hpl := HP.out.pull hv2 1 512 (by decide)
  rw [hy4] at hpl
  have HY4 := Lib.hid hy4
  clear hy4
  go_upto_region 12 with (go_at_call 51; refine hpl.mono ?_; clear hpl; rintro e X4 ⟨rfl, hP⟩; have s1 := hP.bM.cell 4 _ rfl; have f1 := hP.bM.free 4; have HP1 := Lib.hid hP; clear hP HP)
  have HP := Lib.hid (HP1.out.setM 4 (.bool (y4 == 1)))
  obtain ⟨Y4, hY4⟩ : ∃ x, X4.setCell ⟨M, 4, none⟩ (.bool (y4 == 1)) = x := ⟨_, rfl⟩
  rw [hY4] at HP ⊢
  clear hY4 HP1 s1 f1
  obtain ⟨y5, hy5⟩ : ∃ x, f / 256 % 2 ^ 1 = x := ⟨_, rfl⟩
  have hpl := HP.out.pull hv2 1 256 (by decide)
  rw [hy5] at hpl
  have HY5 := Lib.hid hy5
  clear hy5
  go_upto_region 13 with (go_at_call 51; refine hpl.mono ?_; clear hpl; rintro e X5 ⟨rfl, hP⟩; have s1 := hP.bM.cell 5 _ rfl; have f1 := hP.bM.free 5; have HP1 := Lib.hid hP; clear hP HP)
  have HP := Lib.hid (HP1.out.setM 5 (.bool (y5 == 1)))
  obtain ⟨Y5, hY5⟩ : ∃ x, X5.setCell ⟨M, 5, none⟩ (.bool (y5 == 1)) = x := ⟨_, rfl⟩
  rw [hY5] at HP ⊢
  clear hY5 HP1 s1 f1
  obtain ⟨y6, hy6⟩ : ∃ x, f / 128 % 2 ^ 1 = x := ⟨_, rfl⟩
  have hpl := HP.out.pull hv2 1 128 (by decide)
  rw [hy6] at hpl
  have HY6 := Lib.hid hy6
  clear hy6
  go_upto_region 14 with (go_at_call 51; refine hpl.mono ?_; clear hpl; rintro e X6 ⟨rfl, hP⟩; have s1 := hP.bM.cell 6 _ rfl; have f1 := hP.bM.free 6; have HP1 := Lib.hid hP; clear hP HP)
  have HP := Lib.hid (HP1.out.setM 6 (.bool (y6 == 1)))
  obtain ⟨Y6, hY6⟩ : ∃ x, X6.setCell ⟨M, 6, none⟩ (.bool (y6 == 1)) = x := ⟨_, rfl⟩
  rw [hY6] at HP ⊢
  clear hY6 HP1 s1 f1
  obtain ⟨y7, hy7⟩ : ∃ x, f / 16 % 2 ^ 3 = x := ⟨_, rfl⟩
  have hpl := HP.out.pull hv2 3 16 (by decide)
  rw [hy7] at hpl
  have HY7 := Lib.hid hy7
  clear hy7
  go_upto_region 15 with (go_at_call 51; refine hpl.mono ?_; clear hpl; rintro e X7 ⟨rfl, hP⟩; have s1 := hP.bM.cell 7 _ rfl; have f1 := hP.bM.free 7; have HP1 := Lib.hid hP; clear hP HP)
  have HP := Lib.hid (HP1.out.setM 7 (.int .u8 y7))
  obtain ⟨Y7, hY7⟩ : ∃ x, X7.setCell ⟨M, 7, none⟩ (.int .u8 y7) = x := ⟨_, rfl⟩
  rw [hY7] at HP ⊢
  clear hY7 HP1 s1 f1
  obtain ⟨y8, hy8⟩ : ∃ x, f / 1 % 2 ^ 4 = x := ⟨_, rfl⟩
  have hpl := HP.out.pull hv2 4 1 (by decide)
  rw [hy8] at hpl
  have HY8 := Lib.hid hy8
  clear hy8
  go_upto_region 16 with (go_at_call 51; refine hpl.mono ?_; clear hpl; rintro e X8 ⟨rfl, hP⟩; have s1 := hP.bM.cell 8 _ rfl; have f1 := hP.bM.free 8; have HP1 := Lib.hid hP; clear hP HP)
  have HP := Lib.hid (HP1.out.setM 8 (.int .u8 y8))
  obtain ⟨Y8, hY8⟩ : ∃ x, X8.setCell ⟨M, 8, none⟩ (.int .u8 y8) = x := ⟨_, rfl⟩
  rw [hY8] at HP ⊢
  clear hY8 HP1 s1 f1
  have hM8 : Blk Y8 M 26 [.int .u16 v0, .bool (y1 == 1), .int .u8 y2, .bool (y3 == 1), .bool (y4 == 1), .bool (y5 == 1), .bool (y6 == 1), .int .u8 y7, .int .u8 y8, .slice none 0 0, .slice none 0 0, .slice none 0 0, .slice none 0 0] := HP.out.bM
  have hF := HP.out.bZ.row #[.int .u16 v0, .bool (y1 == 1), .int .u8 y2, .bool (y3 == 1), .bool (y4 == 1), .bool (y5 == 1), .bool (y6 == 1), .int .u8 y7, .int .u8 y8, .slice none 0 0, .slice none 0 0, .slice none 0 0, .slice none 0 0]
  have hg := grown_row Y8 Z #[.int .u16 v0, .bool (y1 == 1), .int .u8 y2, .bool (y3 == 1), .bool (y4 == 1), .bool (y5 == 1), .bool (y6 == 1), .int .u8 y7, .int .u8 y8, .slice none 0 0, .slice none 0 0, .slice none 0 0, .slice none 0 0]
  have HF := Lib.hid hF
  have HGG := Lib.hid hg
  clear hF hg
  go_wp2_with (first | (refine wpList_get rfl 26 _ rfl M rfl 26 _ _ hM8 Tryd.underlying26 rfl sizeMsg ?_) | (refine wpList_put rfl 26 _ _ rfl Z #[.int .u16 v0, .bool (y1 == 1), .int .u8 y2, .bool (y3 == 1), .bool (y4 == 1), .bool (y5 == 1), .bool (y6 == 1), .int .u8 y7, .int .u8 y8, .slice none 0 0, .slice none 0 0, .slice none 0 0, .slice none 0 0] rfl rfl 26 _ HP.out.bZ sizeMsg rfl rfl ?_))
  refine bodyPost_ret (results_rec rfl _ Z 26 [.int .u16 v0, .bool (y1 == 1), .int .u8 y2, .bool (y3 == 1), .bool (y4 == 1), .bool (y5 == 1), .bool (y6 == 1), .int .u8 y7, .int .u8 y8, .slice none 0 0, .slice none 0 0, .slice none 0 0, .slice none 0 0] _ rfl HF.out Tryd.underlying26 rfl sizeMsg) rfl ?_
  rw [← HR.out]
  refine ⟨?_, ?_⟩
  · unfold headM Mg.val
    rw [HV.out.1, HV.out.2, HY1.out, HY2.out, HY3.out, HY4.out, HY5.out, HY6.out, HY7.out, HY8.out]
    rfl
  · rw [HZZ.out]
    exact Below.grown HP.out.B HGG.out (Nat.le_of_lt HP.out.bZ.lt) (fun j hj => by cases hj; exact Nat.le_refl _)
end Go.Proofs.YtdjknikkiojfhaaDoor
