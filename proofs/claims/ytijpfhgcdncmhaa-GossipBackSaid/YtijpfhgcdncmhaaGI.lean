/- The laws of layer 19: GossipBack. -/
import Derived.Test.YtijpfhgcdncmhaaGH
namespace Go.Proofs.Ytijpfhgcdncmhaa
open Go.RowKit Go.HL
set_option linter.unusedVariables false
set_option linter.unusedSimpArgs false

theorem pre_bad (L : List UInt8) (h : unpE L = 0) (j : Nat) (hj : j < L.length) : unpE (L.take j) ≠ 0 := fun h1 => by
  have := unp_prefix (L.take j) (L.drop j) h1 (by rw [List.take_append_drop]; exact h)
  have h2 := congrArg List.length this
  simp at h2
  omega
theorem more_bad (L : List UInt8) (h : unpE L = 0) (q : List UInt8) (hq : q ≠ []) : unpE (L ++ q) ≠ 0 := fun h1 => hq (unp_prefix L q h h1)
def BadP (w : World) (e : Ending) (w' : World) : Prop := ∃ (x : Int) (A1 : Option Addr) (c1 : Nat), ((x == 0) = false ∧ (x != 0) = true) ∧ e = .returned (.tuple #[.agg #[.int .u8 0, .int .u32 0, .int .u32 0, .slice A1 0 c1], .int .i64 x]) ∧ Below w.heap.size w w'
theorem unpack_bad (w : World) (A : Option Addr) (n c : Nat) (l : List UInt8) (hr : Rd w 1 A n c (bs l)) (h0 : unpE l ≠ 0) : Calls Try.prog 11 #[.slice A n c] w (BadP w) := by
  have hU := unpack_ w A n c l hr
  have u1 : uK l = 0 := by unfold uK; rw [if_neg h0]
  have u2 : uS l = 0 := by unfold uS; rw [if_neg h0]
  have u3 : uT l = 0 := by unfold uT; rw [if_neg h0]
  have u4 : uL l = [] := by unfold uL; rw [if_neg h0]
  unfold UnpP pkVal at hU
  rw [u1, u2, u3, u4] at hU
  refine hU.mono ?_
  rintro e w' ⟨A1, c1, rfl, _, hb⟩
  exact ⟨unpE l, A1, c1, ⟨by simpa using h0, by simpa using h0⟩, rfl, hb⟩
set_option maxHeartbeats 2000000 in
set_option maxRecDepth 100000 in
theorem gossipBack_walk (w : World) (k s t : Int) (A : Option Addr) (n c : Nat) (l : List Mb) (hr : Rd w 4 A n c (mbs l)) (hok : ∀ m ∈ l, m.ok) (k0 : 0 ≤ k) (k1 : k < 256) (s0 : 0 ≤ s) (s1 : s < 4294967296) (t0 : 0 ≤ t) (t1 : t < 4294967296) (hcap : c * 32 ≤ 140737488351232) :
    Calls Try.prog 5 #[pkVal k s t A n c] w (Tells w (.bool true)) := by
  have hle := hr.le
  have hP := fun (W : World) A c hr => pack_ W k s t A n c l hr hok k0 k1 s0 s1 t0 t1
  unfold PackP pkVal at hP
  have HB0 := Blk.new w 26 #[.int .u8 k, .int .u32 s, .int .u32 t, .slice A n c]
  have hr0 := hr.alloc (.cells #[.int .u8 k, .int .u32 s, .int .u32 t, .slice A n c] 26)
  have hb0 := below_new w (.cells #[.int .u8 k, .int .u32 s, .int .u32 t, .slice A n c] 26)
  by_cases h0 : packE k t l = 0
  · obtain ⟨b1, b2, b3, b4, b5, b6⟩ := unp_back k s t l h0 hok k0 k1 s0 s1 t0 t1
    obtain ⟨L, hL⟩ : ∃ x, packB k s t l = x := ⟨_, rfl⟩
    rw [hL] at b1 b2 b3 b4 b5 b6
    obtain ⟨m, hm⟩ : ∃ m, L.length = m := ⟨_, rfl⟩
    rw [hm] at b6
    rw [h0, hL, hm] at hP
    have hU := fun (W : World) A c hr => unpack_ W A m c L hr
    unfold UnpP pkVal at hU
    have hln : l.length = n := Rd.mbs hr
    rw [b1, b2, b3, b4, b5, hln] at hU
    have hpre := fun (W : World) A q c (hq : q < m) hr => unpack_bad W A q c (L.take q) hr (pre_bad L b1 q (by omega))
    have hmore := fun (W : World) A c hr => unpack_bad W A (m + 1) c (L ++ [0]) hr (more_bad L b1 [0] (by simp))
    have hS := fun (W : World) A c A' c' hr hr' => same_ W k s t A n c l k s t A' n c' l hr hr' (by omega)
    rw [sameB_self] at hS
    unfold pkVal at hS
    have HP := Lib.hid hP
    have HU := Lib.hid hU
    have HS := Lib.hid hS
    have HPRE := Lib.hid hpre
    have HMORE := Lib.hid hmore
    clear hP hU hS hpre hmore h0 b1 b2 b3 b4 b5 hL hln
    have HM := Lib.hid hm
    clear hm
    unfold pkVal
    go_enter Try.func5, Try.ntmps5
    go_upto_region 5 with (first | (refine wpList_get rfl 26 (.tmp 1) rfl w.heap.size rfl 26 [.int .u8 k, .int .u32 s, .int .u32 t, .slice A n c] _ HB0 Try.underlying26 rfl sizePk ?_) | (go_at_call 7; refine (HP.out _ _ _ hr0).mono ?_; rintro e w2 ⟨A2, c2, rfl, hr2, hb2⟩; have HB2 := HB0.below hb2; have hr3 := hr0.below hb2; have hb3 := below_trans hb0 hb2; clear HB0 hr0 hb0 hb2) | (go_at_call 11; refine (HU.out _ _ _ hr2).mono ?_; rintro e w4 ⟨A4, c4, rfl, hr4, hb4⟩; have HB4 := HB2.below hb4; have hr5 := hr3.below hb4; have hr6 := hr2.below hb4; have hb5 := below_trans hb3 hb4; clear HB2 hr3 hr2 hb3 hb4))
    have HC5 := Blk.new w4 26 #[.int .u8 k, .int .u32 s, .int .u32 t, .slice A4 n c4]
    have HB5 := HB4.alloc (.cells #[.int .u8 k, .int .u32 s, .int .u32 t, .slice A4 n c4] 26)
    have hr7 := hr4.alloc (.cells #[.int .u8 k, .int .u32 s, .int .u32 t, .slice A4 n c4] 26)
    have hr8 := hr5.alloc (.cells #[.int .u8 k, .int .u32 s, .int .u32 t, .slice A4 n c4] 26)
    have hr9 := hr6.alloc (.cells #[.int .u8 k, .int .u32 s, .int .u32 t, .slice A4 n c4] 26)
    have hb6 := below_alloc hb5 (.cells #[.int .u8 k, .int .u32 s, .int .u32 t, .slice A4 n c4] 26)
    obtain ⟨W5, hW⟩ : ∃ x, w4.alloc (.cells #[.int .u8 k, .int .u32 s, .int .u32 t, .slice A4 n c4] 26) = x := ⟨_, rfl⟩
    rw [hW] at HC5 HB5 hr7 hr8 hr9 hb6 ⊢
    clear hW HB4 hr4 hr5 hr6 hb5
    have q0 := HB5.cell 0 _ rfl
    have q1 := HB5.cell 1 _ rfl
    have q2 := HB5.cell 2 _ rfl
    have q3 := HB5.cell 3 _ rfl
    have u0 := HC5.cell 0 _ rfl
    have u1 := HC5.cell 1 _ rfl
    have u2 := HC5.cell 2 _ rfl
    have u3 := HC5.cell 3 _ rfl
    have hm16 : ¬ (16384 : Int) < (m : Int) := by omega
    clear HB5 HC5
    go_wp2_with (go_at_call 9; refine (HS.out _ _ _ _ _ hr7 hr8).mono ?_; rintro e w6 ⟨rfl, hb7⟩)
    have hr10 := hr9.below hb7
    have hb8 := below_trans hb6 hb7
    clear q0 q1 q2 q3 u0 u1 u2 u3 hr7 hr8 hr9 hb6 hb7 hr
    go_loopw [7] (fun u7 wr => ∃ j : Nat, j ≤ m ∧ u7 = .int .i64 j ∧ Below w6.heap.size w6 wr) (fun u7 _ => m - (intOf u7).toNat)
    case atStart => exact ⟨0, Nat.zero_le _, rfl, Below.refl _ _⟩
    case round =>
      obtain ⟨j, hj, rfl, hbr⟩ := hrel
      have hrr := hr10.below hbr
      have hb9 := below_trans hb8 hbr
      by_cases hc : j < m ∧ j < 200
      · obtain ⟨hc1, hc2⟩ := hc
        have hc1' : (j : Int) < (m : Int) := by omega
        have hc2' : (j : Int) < 200 := by omega
        obtain ⟨q, hq⟩ : ∃ q : Nat, m = q + 1 + j := ⟨m - 1 - j, by omega⟩
        have hq1 : (m : Int) - 1 - (j : Int) = (q : Int) := by omega
        have hqm : q < m := by omega
        have hqc : (q : Int) ≤ (c2 : Int) := by have := hrr.le; omega
        have HQ := Lib.hid hq
        clear hq
        have hrp := hrr.bpre q (by omega)
        have hq2 : IntKind.i64.wrap ((m : Int) - 1 - (j : Int)) = (q : Int) := by rw [hq1]; exact IntWalk.i64_in _ (by omega)
        go_wp2_with (go_at_call 11; refine (HPRE.out _ _ _ _ hqm hrp).mono ?_; rintro e w7 ⟨x, A7, c7, ⟨x0, x1⟩, rfl, hb10⟩)
        go_roundw
        case rel => exact ⟨j + 1, by omega, by go_num, below_alloc (below_trans hbr hb10) _⟩
        case measure => simp [intOf]; omega
      · by_cases hc1 : j < m
        · have hc1' : (j : Int) < (m : Int) := by omega
          have hc2' : ¬ (j : Int) < 200 := by omega
          clear hc
          have hz : w6.heap.size ≤ wr.heap.size := hbr.size
          have hbL : bs L ++ [.int .u8 0] = bs (L ++ [0]) := by rw [bs_append]; rfl
          have HBL := Lib.hid hbL
          clear hbL
          go_wp2_with (first | (at_builtin; refine wpList_app_nil wr _ wr.heap.size rfl (.const (.slice none 0 0)) (.tmp 67) 27 27 5 (.int .u8 0) 1 1 rfl Try.underlying27 info_u8 rfl (by omega) (by omega) rfl _ m (bs L) rfl (.slice hrr (bs_one L)) (Below.refl _ _) (Nat.le_refl _) (by omega) ?_; intro v1 w1 ho hb11 hg1; obtain ⟨A8, c8, rfl, _⟩ := own_rd ho; clear hg1) | (at_builtin; refine wpList_app (w0 := w1) _ wr.heap.size rfl (.tmp 68) (.tmp 69) 27 27 5 (.int .u8 0) 1 1 rfl Try.underlying27 info_u8 rfl (by omega) (by omega) (.slice A8 m c8) m (bs L) rfl (.own (own_below ho (below_new _ _))) _ 1 [.int .u8 0] rfl (.slice (Rd.lit w1 #[.int .u8 0] 5) (by intro u hu; simp at hu; subst hu; rfl)) ((Below.refl _ _).alloc hb11.size _) (by rw [World.size_alloc]; have := hb11.size; omega) (by omega) ?_; intro v2 w2 _ ho2 hb12 hg2; have ho3 := ho2 (.inl (by decide)); rw [HBL.out] at ho3; obtain ⟨A9, c9, rfl, hr12⟩ := own_rd ho3; clear ho ho2 ho3 hg2) | (go_at_call 11; refine (HMORE.out _ _ _ hr12).mono ?_; rintro e w7 ⟨x, A7, c7, ⟨x0, x1⟩, rfl, hb10⟩) | (go_at_call 10; refine (wakes _).mono ?_; rintro e w8 ⟨rfl, hb13⟩))
          go_ret
          have hb14 : Below wr.heap.size wr w2 := hb11.trans hb12
          exact ⟨rfl, below_trans (below_alloc (below_trans (below_trans hb9 hb14) hb10) _) hb13⟩
        · have hc1' : ¬ (j : Int) < (m : Int) := by omega
          clear hc
          have hz : w6.heap.size ≤ wr.heap.size := hbr.size
          have hbL : bs L ++ [.int .u8 0] = bs (L ++ [0]) := by rw [bs_append]; rfl
          have HBL := Lib.hid hbL
          clear hbL
          go_wp2_with (first | (at_builtin; refine wpList_app_nil wr _ wr.heap.size rfl (.const (.slice none 0 0)) (.tmp 67) 27 27 5 (.int .u8 0) 1 1 rfl Try.underlying27 info_u8 rfl (by omega) (by omega) rfl _ m (bs L) rfl (.slice hrr (bs_one L)) (Below.refl _ _) (Nat.le_refl _) (by omega) ?_; intro v1 w1 ho hb11 hg1; obtain ⟨A8, c8, rfl, _⟩ := own_rd ho; clear hg1) | (at_builtin; refine wpList_app (w0 := w1) _ wr.heap.size rfl (.tmp 68) (.tmp 69) 27 27 5 (.int .u8 0) 1 1 rfl Try.underlying27 info_u8 rfl (by omega) (by omega) (.slice A8 m c8) m (bs L) rfl (.own (own_below ho (below_new _ _))) _ 1 [.int .u8 0] rfl (.slice (Rd.lit w1 #[.int .u8 0] 5) (by intro u hu; simp at hu; subst hu; rfl)) ((Below.refl _ _).alloc hb11.size _) (by rw [World.size_alloc]; have := hb11.size; omega) (by omega) ?_; intro v2 w2 _ ho2 hb12 hg2; have ho3 := ho2 (.inl (by decide)); rw [HBL.out] at ho3; obtain ⟨A9, c9, rfl, hr12⟩ := own_rd ho3; clear ho ho2 ho3 hg2) | (go_at_call 11; refine (HMORE.out _ _ _ hr12).mono ?_; rintro e w7 ⟨x, A7, c7, ⟨x0, x1⟩, rfl, hb10⟩) | (go_at_call 10; refine (wakes _).mono ?_; rintro e w8 ⟨rfl, hb13⟩))
          go_ret
          have hb14 : Below wr.heap.size wr w2 := hb11.trans hb12
          exact ⟨rfl, below_trans (below_alloc (below_trans (below_trans hb9 hb14) hb10) _) hb13⟩
  · have hB : packB k s t l = [] := by unfold packB; rw [if_neg h0]
    obtain ⟨x, hx⟩ : ∃ x, packE k t l = x := ⟨_, rfl⟩
    rw [hB, hx] at hP
    rw [hx] at h0
    have h0' : (x != 0) = true := by simpa using h0
    have HP := Lib.hid hP
    clear hP hB hx h0
    unfold pkVal
    go_enter Try.func5, Try.ntmps5
    go_wp2_with (first | (refine wpList_get rfl 26 (.tmp 1) rfl w.heap.size rfl 26 [.int .u8 k, .int .u32 s, .int .u32 t, .slice A n c] _ HB0 Try.underlying26 rfl sizePk ?_) | (go_at_call 7; refine (HP.out _ _ _ hr0).mono ?_; rintro e w2 ⟨A2, c2, rfl, hr2, hb2⟩) | (go_at_call 10; refine (wakes _).mono ?_; rintro e w7 ⟨rfl, hb7⟩))
    go_ret
    exact ⟨rfl, below_trans (below_trans hb0 hb2) hb7⟩
end Go.Proofs.Ytijpfhgcdncmhaa
