/- The laws of layer 19: wakes, GossipOne, GossipPacks. -/
import Derived.Test.YtijpfhgcdncmhaaGG
import Derived.Test.YtijpfhgcdncmhaaGP
namespace Go.Proofs.Ytijpfhgcdncmhaa
open Go.RowKit Go.HL
set_option linter.unusedVariables false
set_option linter.unusedSimpArgs false

theorem wk_b : packB 1 7 0 [] = [1, 0, 0, 0, 7, 0, 0, 0, 0, 0] := by decide +kernel
theorem wk_e : packE 1 0 [] = 0 := by decide +kernel
theorem wk_u : unpE [1, 0, 0, 0, 7, 0, 0, 0, 0, 0] = 0 ∧ uK [1, 0, 0, 0, 7, 0, 0, 0, 0, 0] = 1 ∧ uS [1, 0, 0, 0, 7, 0, 0, 0, 0, 0] = 7 ∧ uT [1, 0, 0, 0, 7, 0, 0, 0, 0, 0] = 0 ∧ (uL [1, 0, 0, 0, 7, 0, 0, 0, 0, 0]).length = 0 := by decide +kernel
set_option maxHeartbeats 1000000 in
theorem wakes (w : World) : Calls Try.prog 10 #[] w (Tells w (.bool true)) := by
  have hP := pack_ w 1 7 0 none 0 0 [] (Rd.nil w 4) (fun m hm => by cases hm) (by omega) (by omega) (by omega) (by omega) (by omega) (by omega)
  unfold PackP pkVal at hP
  rw [wk_b, wk_e] at hP
  obtain ⟨u1, u2, u3, u4, u5⟩ := wk_u
  have hU := fun (W : World) A c hr => unpack_ W A 10 c [1, 0, 0, 0, 7, 0, 0, 0, 0, 0] hr
  unfold UnpP pkVal at hU
  rw [u1, u2, u3, u4, u5] at hU
  clear u1 u2 u3 u4 u5
  have HU := Lib.hid hU
  clear hU
  go_enter Try.func10, Try.ntmps10
  go_wp2_with (go_at_call 7; refine hP.mono ?_; clear hP; rintro e w1 ⟨A1, c1, rfl, hr1, hb1⟩)
  go_wp2_with (go_at_call 11; refine (HU.out _ _ _ hr1).mono ?_; rintro e w2 ⟨A2, c2, rfl, hr2, hb2⟩)
  have hr3 := (show Rd w1 1 A1 10 c1 (bs [1, 0, 0, 0, 7, 0, 0, 0, 0, 0]) from hr1).below hb2
  replace hr3 := hr3.alloc (.cells #[.int .u8 1, .int .u32 7, .int .u32 0, .slice A2 0 c2] 26)
  have hc := run_conv_str (P := Try.prog) _ (dst := 9) Try.underlying27 Try.underlying5 Try.underlying9 hr3
  have HB := Blk.new w2 26 #[.int .u8 1, .int .u32 7, .int .u32 0, .slice A2 0 c2]
  have hb3 := below_alloc (below_trans hb1 hb2) (.cells #[.int .u8 1, .int .u32 7, .int .u32 0, .slice A2 0 c2] 26)
  clear hr1 hr2 hr3 HU
  go_upto_region 3 with (fail)
  obtain ⟨W3, hW⟩ : ∃ x, w2.alloc (.cells #[.int .u8 1, .int .u32 7, .int .u32 0, .slice A2 0 c2] 26) = x := ⟨_, rfl⟩
  rw [hW] at hc HB hb3 ⊢
  clear hW
  have q0 := HB.cell 0 _ rfl
  have q1 := HB.cell 1 _ rfl
  clear HB
  go_wp2
  go_ret
  exact ⟨rfl, hb3⟩
set_option maxHeartbeats 1000000 in
theorem gossipOne_walk (w : World) (A : Option Addr) (n c : Nat) (l : List UInt8) (hr : Rd w 1 A n c (bs l)) (hcap : c * 1 ≤ 140737488351232) :
    Calls Try.prog 6 #[.slice A n c] w (Tells w (.bool true)) := by
  have hle := hr.le
  have hU := fun (W : World) A c hr => unpack_ W A n c l hr
  unfold UnpP pkVal at hU
  by_cases h0 : unpE l = 0
  · obtain ⟨o1, o2, o3, o4, o5, o6⟩ := unp_one l h0
    obtain ⟨k, hk⟩ : ∃ k, uK l = k := ⟨_, rfl⟩
    obtain ⟨s, hs⟩ : ∃ k, uS l = k := ⟨_, rfl⟩
    obtain ⟨t, ht⟩ : ∃ k, uT l = k := ⟨_, rfl⟩
    obtain ⟨X, hX⟩ : ∃ k, uL l = k := ⟨_, rfl⟩
    rw [h0, hk, hs, ht, hX] at hU
    rw [hk, ht, hX] at o1
    rw [hk, hs, ht, hX] at o2
    rw [hX] at o3
    rw [hk] at o4
    rw [hs] at o5
    rw [ht] at o6
    clear hk hs ht hX h0
    have hP := fun (W : World) A c hr => pack_ W k s t A X.length c X hr o3 o4.1 o4.2 o5.1 o5.2 o6.1 o6.2
    unfold PackP pkVal at hP
    rw [o1, o2] at hP
    clear o1 o2 o3 o4 o5 o6
    have HU := Lib.hid hU
    have HP := Lib.hid hP
    obtain ⟨m, hm⟩ : ∃ m, l.length = m := ⟨_, rfl⟩
    have hmn : n = m := by rw [← hm]; exact hr.blen.symm
    subst hmn
    have HM := Lib.hid hm
    rw [hm] at hP
    have HP := Lib.hid hP
    clear hU hP hm
    go_enter Try.func6, Try.ntmps6
    go_wp2_with (at_builtin; refine wpList_app_nil w _ w.heap.size rfl _ _ 27 27 5 (.int .u8 0) 1 1 rfl Try.underlying27 info_u8 rfl (by omega) (by omega) rfl _ n (bs l) rfl (.slice hr (bs_one l)) (Below.refl _ _) (Nat.le_refl _) (by omega) ?_; intro v1 w1 ho hb1 hg1; obtain ⟨A1, c1, rfl, hr1⟩ := own_rd ho; clear ho hg1)
    go_wp2_with (go_at_call 11; refine (HU.out _ _ _ hr1).mono ?_; rintro e w2 ⟨A2, c2, rfl, hr2, hb2⟩)
    have hr3 := hr2.alloc (.cells #[.int .u8 k, .int .u32 s, .int .u32 t, .slice A2 X.length c2] 26)
    have HB := Blk.new w2 26 #[.int .u8 k, .int .u32 s, .int .u32 t, .slice A2 X.length c2]
    have hr0 := (hr.below (below_trans hb1 hb2)).alloc (.cells #[.int .u8 k, .int .u32 s, .int .u32 t, .slice A2 X.length c2] 26)
    have hb3 := below_alloc (below_trans hb1 hb2) (.cells #[.int .u8 k, .int .u32 s, .int .u32 t, .slice A2 X.length c2] 26)
    clear hr1 hr2 hr hb1 hb2 HU
    go_wp2_with (first | (refine wpList_get rfl 26 (.tmp 3) rfl w2.heap.size rfl 26 [.int .u8 k, .int .u32 s, .int .u32 t, .slice A2 X.length c2] _ HB Try.underlying26 rfl sizePk ?_) | (go_at_call 7; refine (HP.out _ _ _ hr3).mono ?_; rintro e w4 ⟨A4, c4, rfl, hr4, hb4⟩; have hr5 := hr0.below hb4; have hb5 := below_trans hb3 hb4; have hc1 := run_conv_str (P := Try.prog) _ (dst := 9) Try.underlying27 Try.underlying5 Try.underlying9 hr4; have hc2 := run_conv_str (P := Try.prog) _ (dst := 9) Try.underlying27 Try.underlying5 Try.underlying9 hr5; clear hr4 hr5 HB) | (go_at_call 10; refine (wakes _).mono ?_; rintro e w6 ⟨rfl, hb6⟩))
    go_ret
    exact ⟨rfl, below_trans hb5 hb6⟩
  · have u1 : uK l = 0 := by unfold uK; rw [if_neg h0]
    have u2 : uS l = 0 := by unfold uS; rw [if_neg h0]
    have u3 : uT l = 0 := by unfold uT; rw [if_neg h0]
    have u4 : uL l = [] := by unfold uL; rw [if_neg h0]
    obtain ⟨x, hx⟩ : ∃ x, unpE l = x := ⟨_, rfl⟩
    rw [u1, u2, u3, u4, hx] at hU
    rw [hx] at h0
    have h0' : (x != 0) = true := by simpa using h0
    clear u1 u2 u3 u4 hx h0
    simp only [List.length_nil] at hU
    have HU := Lib.hid hU
    clear hU
    go_enter Try.func6, Try.ntmps6
    go_wp2_with (at_builtin; refine wpList_app_nil w _ w.heap.size rfl _ _ 27 27 5 (.int .u8 0) 1 1 rfl Try.underlying27 info_u8 rfl (by omega) (by omega) rfl _ n (bs l) rfl (.slice hr (bs_one l)) (Below.refl _ _) (Nat.le_refl _) (by omega) ?_; intro v1 w1 ho hb1 hg1; obtain ⟨A1, c1, rfl, hr1⟩ := own_rd ho; clear ho hg1)
    go_wp2_with (go_at_call 11; refine (HU.out _ _ _ hr1).mono ?_; rintro e w2 ⟨A2, c2, rfl, hr2, hb2⟩)
    have hb3 := below_alloc (below_trans hb1 hb2) (.cells #[.int .u8 0, .int .u32 0, .int .u32 0, .slice A2 0 c2] 26)
    clear hr1 hr2 hr hb1 hb2 HU
    go_wp2_with (go_at_call 10; refine (wakes _).mono ?_; rintro e w6 ⟨rfl, hb6⟩)
    go_ret
    exact ⟨rfl, below_trans hb3 hb6⟩
set_option maxHeartbeats 1000000 in
theorem gossipPacks_walk (w : World) (k s t : Int) (A : Option Addr) (n c : Nat) (l : List Mb) (hr : Rd w 4 A n c (mbs l)) (hok : ∀ m ∈ l, m.ok) (k0 : 0 ≤ k) (k1 : k < 256) (s0 : 0 ≤ s) (s1 : s < 4294967296) (t0 : 0 ≤ t) (t1 : t < 4294967296) (hcap : c * 32 ≤ 140737488351232) :
    Calls Try.prog 3 #[pkVal k s t A n c] w (Tells w (.bool true)) := by
  have hle := hr.le
  have hP := fun (W : World) A c hr => pack_ W k s t A n c l hr hok k0 k1 s0 s1 t0 t1
  have hR := fun (W : World) A c hr => rpack_ W k s t A n c l hr hok k0 k1 s0 s1 t0 t1
  have hS := fun (W : World) A c A' c' hr hr' => same_ W k s t A n c l k s t A' n c' l hr hr' (by omega)
  rw [sameB_self] at hS
  unfold PackP pkVal at hP hR
  unfold pkVal at hS
  obtain ⟨x, hx⟩ : ∃ x, packE k t l = x := ⟨_, rfl⟩
  obtain ⟨L, hL⟩ : ∃ x, packB k s t l = x := ⟨_, rfl⟩
  obtain ⟨m, hm⟩ : ∃ m, L.length = m := ⟨_, rfl⟩
  rw [hx, hL, hm] at hP hR
  have HP := Lib.hid hP
  have HR := Lib.hid hR
  have HS := Lib.hid hS
  clear hP hR hS hx hL hm
  have HB0 := Blk.new w 26 #[.int .u8 k, .int .u32 s, .int .u32 t, .slice A n c]
  have hr0 := hr.alloc (.cells #[.int .u8 k, .int .u32 s, .int .u32 t, .slice A n c] 26)
  have hb0 := below_new w (.cells #[.int .u8 k, .int .u32 s, .int .u32 t, .slice A n c] 26)
  unfold pkVal
  go_enter Try.func3, Try.ntmps3
  go_upto_region 2 with (refine wpList_get rfl 26 (.tmp 1) rfl w.heap.size rfl 26 [.int .u8 k, .int .u32 s, .int .u32 t, .slice A n c] _ HB0 Try.underlying26 rfl sizePk ?_)
  have HB1 := HB0.alloc (.cells #[.int .u8 k, .int .u32 s, .int .u32 t, .slice A n c] 26)
  have HC1 := Blk.new (w.alloc (.cells #[.int .u8 k, .int .u32 s, .int .u32 t, .slice A n c] 26)) 26 #[.int .u8 k, .int .u32 s, .int .u32 t, .slice A n c]
  rw [World.size_alloc] at HC1
  have hr1 := hr0.alloc (.cells #[.int .u8 k, .int .u32 s, .int .u32 t, .slice A n c] 26)
  have hb1 := below_alloc hb0 (.cells #[.int .u8 k, .int .u32 s, .int .u32 t, .slice A n c] 26)
  obtain ⟨W1, hW⟩ : ∃ x, (w.alloc (.cells #[.int .u8 k, .int .u32 s, .int .u32 t, .slice A n c] 26)).alloc (.cells #[.int .u8 k, .int .u32 s, .int .u32 t, .slice A n c] 26) = x := ⟨_, rfl⟩
  have hsz : W1.heap.size = w.heap.size + 1 + 1 := by rw [← hW, World.size_alloc, World.size_alloc]
  rw [hW] at HB1 HC1 hr1 hb1 ⊢
  clear hW HB0 hr0 hb0
  obtain ⟨P, hP⟩ : ∃ P, w.heap.size = P := ⟨_, rfl⟩
  rw [hP] at HB1 HC1 hsz hb1 ⊢
  have cp := HB1.cell 3 _ rfl
  go_upto_region 3 with (at_builtin; refine wpList_app_nil W1 _ W1.heap.size rfl _ _ 24 24 41 (.agg #[.int .u32 0, .int .u32 0, .int .u8 0, .string ⟨#[]⟩]) 4 32 rfl Try.underlying24 info_mb rfl (by omega) (by omega) rfl _ n (mbs l) rfl (.slice hr1 (mbs_one l)) (Below.refl _ _) (Nat.le_refl _) (by omega) ?_; intro v1 w1 ho hb2 hg2; obtain ⟨A1, c1, rfl, hr2⟩ := own_rd ho; have HB2 := HB1.below hb2; have HC2 := HC1.below hb2; have hr3 := hr1.below hb2; have hno : ∀ q, A1 = some q → q.block ≠ P + 1 := fun q hq => (by have h9 := ho.lt q.block (by rw [hq]; rfl); omega); have cc := HC2.cell 3 _ rfl; have cf := HC2.free 3; clear ho HB1 HC1 hr1 cp)
  have hg3 := grown_set w1 ⟨P + 1, 3, none⟩ (.slice A1 n c1)
  have HB3 := HB2.grown hg3 (by simp)
  have HC3 : Blk (w1.setCell ⟨P + 1, 3, none⟩ (.slice A1 n c1)) (P + 1) 26 [.int .u8 k, .int .u32 s, .int .u32 t, .slice A1 n c1] := HC2.set 3 (.slice A1 n c1)
  have hr5 : Rd (w1.setCell ⟨P + 1, 3, none⟩ (.slice A1 n c1)) 4 A1 n c1 (mbs l) := rd_grown hr2 hg3 (fun q hq => by simpa using hno q hq)
  have hb3 : Below P w (w1.setCell ⟨P + 1, 3, none⟩ (.slice A1 n c1)) := by
    have h1 := hb1.trans ⟨hb2.os, hb2.tape, hb2.output, hb2.size, fun k hk => hb2.block k (by omega)⟩
    exact h1.grown hg3 (by have := h1.size; omega) (fun j hj => by cases hj; show P ≤ P + 1; omega)
  have hr4 : Rd (w1.setCell ⟨P + 1, 3, none⟩ (.slice A1 n c1)) 4 A n c (mbs l) := hr.below (by rw [hP]; exact hb3)
  obtain ⟨W3, hW⟩ : ∃ x, w1.setCell ⟨P + 1, 3, none⟩ (.slice A1 n c1) = x := ⟨_, rfl⟩
  rw [hW] at HB3 HC3 hr4 hr5 hb3 ⊢
  clear hW hr hr2 hr3 HB2 HC2 hg3 hno cc cf hb1 hb2 hg2 hsz
  go_wp2_with (first | (refine wpList_get rfl 26 (.tmp 3) rfl (P + 1) rfl 26 [.int .u8 k, .int .u32 s, .int .u32 t, .slice A1 n c1] _ HC3 Try.underlying26 rfl sizePk ?_) | (go_at_call 7; refine (HP.out _ _ _ hr5).mono ?_; rintro e w4 ⟨A4, c4, rfl, hr6, hb4⟩; have HB4 := HB3.below hb4; have HC4 := HC3.below hb4; have hr7 := hr4.below hb4; have hr8 := hr5.below hb4; clear HB3 HC3 hr4 hr5) | (refine wpList_get rfl 26 (.tmp 1) rfl P rfl 26 [.int .u8 k, .int .u32 s, .int .u32 t, .slice A n c] _ HB4 Try.underlying26 rfl sizePk ?_) | (go_at_call 8; refine (HR.out _ _ _ hr7).mono ?_; rintro e w5 ⟨A5, c5, rfl, hr9, hb5⟩; have HB5 := HB4.below hb5; have HC5 := HC4.below hb5; have hrA := hr7.below hb5; have hrB := hr8.below hb5; have hrC := hr6.below hb5; have hc1 := run_conv_str (P := Try.prog) _ (dst := 9) Try.underlying27 Try.underlying5 Try.underlying9 hrC; have hc2 := run_conv_str (P := Try.prog) _ (dst := 9) Try.underlying27 Try.underlying5 Try.underlying9 hr9; have q0 := HB5.cell 0 _ rfl; have q1 := HB5.cell 1 _ rfl; have q2 := HB5.cell 2 _ rfl; have q3 := HB5.cell 3 _ rfl; have u0 := HC5.cell 0 _ rfl; have u1 := HC5.cell 1 _ rfl; have u2 := HC5.cell 2 _ rfl; have u3 := HC5.cell 3 _ rfl; clear HB4 HC4 hr6 hr7 hr8 hr9 hrC HB5 HC5) | (go_at_call 9; refine (HS.out _ _ _ _ _ hrB hrA).mono ?_; rintro e w6 ⟨rfl, hb6⟩) | (go_at_call 10; refine (wakes _).mono ?_; rintro e w7 ⟨rfl, hb7⟩))
  go_ret
  rw [← hP] at hb3
  exact ⟨rfl, below_trans (below_trans (below_trans (below_trans hb3 hb4) hb5) hb6) hb7⟩
end Go.Proofs.Ytijpfhgcdncmhaa
