/- The laws of layer 19: GossipUnpacks. -/
import Derived.Test.YtijpfhgcdncmhaaGR
namespace Go.Proofs.Ytijpfhgcdncmhaa
open Go.RowKit Go.HL
set_option linter.unusedVariables false
set_option linter.unusedSimpArgs false

theorem runpack_ (w : World) (A : Option Addr) (n c : Nat) (l : List UInt8) (hr : Rd w 1 A n c (bs l)) : Calls Try.prog 12 #[.slice A n c] w (UnpP w l) := by
  by_cases c0 : 16384 < n
  · exact run_e0 w A n c l hr c0
  by_cases c1 : n < 1
  · exact run_e1 w A n c l hr c1
  cases A with
  | none => have := (hr.nil_ rfl).1; omega
  | some ad =>
  have h0 : 0 < n := by omega
  cases c2 : headB (vat 1 l 0) 0 with
  | false => exact run_e2 w ad n c l hr h0 c0 c2
  | true =>
  by_cases c3 : n < 5
  · exact run_e3 w ad n c l hr h0 c0 c2 c3
  by_cases c4 : n < 9
  · exact run_e4 w ad n c l hr h0 c0 c2 (by omega) c4
  cases c5 : headB (vat 1 l 0) (vat 4 l 5) with
  | false => exact run_e5 w ad n c l hr h0 c0 c2 (by omega) c5
  | true =>
  by_cases c6 : n < 10
  · exact run_e6 w ad n c l hr h0 c0 c2 (by omega) c5 c6
  by_cases c7 : 32 < vat 1 l 9
  · exact run_e7 w ad n c l hr h0 c0 c2 (by omega) c5 c7
  · exact run_main w ad n c l hr h0 c0 c2 (by omega) c5 c7
theorem unp_len (l : List UInt8) : (uL l).length ≤ 32 := by
  by_cases h : unpE l = 0
  · obtain ⟨g1, g2, g3⟩ := (unpE_zero l).1 h
    obtain ⟨k1, k2, k3⟩ := (hdE_zero l).1 g2
    obtain ⟨_, _, _, b4, _⟩ := rums_back l _ _ _ _ (uL_rums h) (by omega)
    have q0 := vat_nonneg 1 l 9
    omega
  · unfold uL
    rw [if_neg h]
    simp
set_option maxHeartbeats 1000000 in
theorem gossipUnpacks_walk (w : World) (A : Option Addr) (n c : Nat) (l : List UInt8) (hr : Rd w 1 A n c (bs l)) (hcap : c * 1 ≤ 140737488351232) :
    Calls Try.prog 4 #[.slice A n c] w (Tells w (.bool true)) := by
  have hle := hr.le
  have hU := fun (W : World) A c hr => unpack_ W A n c l hr
  have hR := fun (W : World) A c hr => runpack_ W A n c l hr
  have hS := fun (W : World) A c A' c' hr hr' => same_ W (uK l) (uS l) (uT l) A (uL l).length c (uL l) (uK l) (uS l) (uT l) A' (uL l).length c' (uL l) hr hr' (by have := unp_len l; omega)
  rw [sameB_self] at hS
  unfold UnpP pkVal at hU hR
  unfold pkVal at hS
  obtain ⟨k, hk⟩ : ∃ k, uK l = k := ⟨_, rfl⟩
  obtain ⟨s, hs⟩ : ∃ k, uS l = k := ⟨_, rfl⟩
  obtain ⟨t, ht⟩ : ∃ k, uT l = k := ⟨_, rfl⟩
  obtain ⟨X, hX⟩ : ∃ k, uL l = k := ⟨_, rfl⟩
  obtain ⟨x, hx⟩ : ∃ k, unpE l = k := ⟨_, rfl⟩
  obtain ⟨m, hm⟩ : ∃ k, X.length = k := ⟨_, rfl⟩
  rw [hk, hs, ht, hX, hx, hm] at hU hR
  rw [hk, hs, ht, hX, hm] at hS
  have HU := Lib.hid hU
  have HR := Lib.hid hR
  have HS := Lib.hid hS
  clear hU hR hS hk hs ht hX hx hm
  go_enter Try.func4, Try.ntmps4
  go_upto_region 2 with (first | (at_builtin; refine wpList_app_nil w _ w.heap.size rfl _ _ 27 27 5 (.int .u8 0) 1 1 rfl Try.underlying27 info_u8 rfl (by omega) (by omega) rfl _ n (bs l) rfl (.slice hr (bs_one l)) (Below.refl _ _) (Nat.le_refl _) (by omega) ?_; intro v1 w1 ho hb1 hg1; obtain ⟨A1, c1, rfl, hr1⟩ := own_rd ho; clear ho hg1) | (go_at_call 11; refine (HU.out _ _ _ hr1).mono ?_; rintro e w2 ⟨A2, c2, rfl, hr2, hb2⟩))
  have HB3 := Blk.new w2 26 #[.int .u8 k, .int .u32 s, .int .u32 t, .slice A2 m c2]
  have hr3 := hr2.alloc (.cells #[.int .u8 k, .int .u32 s, .int .u32 t, .slice A2 m c2] 26)
  have hb3 := below_alloc (below_trans hb1 hb2) (.cells #[.int .u8 k, .int .u32 s, .int .u32 t, .slice A2 m c2] 26)
  obtain ⟨W3, hW⟩ : ∃ x, w2.alloc (.cells #[.int .u8 k, .int .u32 s, .int .u32 t, .slice A2 m c2] 26) = x := ⟨_, rfl⟩
  obtain ⟨g3, hg3⟩ : ∃ x, w2.heap.size = x := ⟨_, rfl⟩
  rw [hW] at HB3 hr3 hb3 ⊢
  rw [hg3] at HB3 ⊢
  have hr0 := hr.below hb3
  clear hW hg3 hr1 hr2 hb1 hb2
  go_upto_region 3 with (go_at_call 12; refine (HR.out _ _ _ hr0).mono ?_; rintro e w4 ⟨A4, c4, rfl, hr4, hb4⟩)
  have HB5 := Blk.new w4 26 #[.int .u8 k, .int .u32 s, .int .u32 t, .slice A4 m c4]
  have HC5 := (HB3.below hb4).alloc (.cells #[.int .u8 k, .int .u32 s, .int .u32 t, .slice A4 m c4] 26)
  have hr5 := (hr3.below hb4).alloc (.cells #[.int .u8 k, .int .u32 s, .int .u32 t, .slice A4 m c4] 26)
  have hr6 := hr4.alloc (.cells #[.int .u8 k, .int .u32 s, .int .u32 t, .slice A4 m c4] 26)
  have hb5 := below_alloc (below_trans hb3 hb4) (.cells #[.int .u8 k, .int .u32 s, .int .u32 t, .slice A4 m c4] 26)
  obtain ⟨W5, hW⟩ : ∃ x, w4.alloc (.cells #[.int .u8 k, .int .u32 s, .int .u32 t, .slice A4 m c4] 26) = x := ⟨_, rfl⟩
  obtain ⟨g5, hg5⟩ : ∃ x, w4.heap.size = x := ⟨_, rfl⟩
  rw [hW] at HB5 HC5 hr5 hr6 hb5 ⊢
  rw [hg5] at HB5 ⊢
  clear hW hg5 HB3 hr3 hr4 hr0 hb3 hb4
  have q0 := HB5.cell 0 _ rfl
  have q1 := HB5.cell 1 _ rfl
  have q2 := HB5.cell 2 _ rfl
  have q3 := HB5.cell 3 _ rfl
  have u0 := HC5.cell 0 _ rfl
  have u1 := HC5.cell 1 _ rfl
  have u2 := HC5.cell 2 _ rfl
  have u3 := HC5.cell 3 _ rfl
  clear HB5 HC5
  go_wp2_with (first | (go_at_call 9; refine (HS.out _ _ _ _ _ hr5 hr6).mono ?_; rintro e w6 ⟨rfl, hb6⟩) | (go_at_call 10; refine (wakes _).mono ?_; rintro e w7 ⟨rfl, hb7⟩))
  go_ret
  exact ⟨rfl, below_trans (below_trans hb5 hb6) hb7⟩
end Go.Proofs.Ytijpfhgcdncmhaa
