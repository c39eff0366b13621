/- stream: StreamFrames, StreamAll. -/
import Derived.Test.YtmifnmnpihikgaaSE
namespace Go.Proofs.Ytmifnmnpihikgaa
open Go.RowKit Go.HL
set_option linter.unusedVariables false
set_option linter.unusedSimpArgs false

theorem be2 (n : Nat) (h : n ≤ 65535) : bs (be 2 (n : Int)) = [.int .u8 ((n : Int) / 256), .int .u8 ((n : Int) % 256)] := by
  simp only [be, bs, List.map_cons, List.map_nil, B, byteAt_toNat]
  have h1 : (n : Int) / 256 ^ 1 % 256 = (n : Int) / 256 := by
    rw [show (256 : Int) ^ 1 = 256 from rfl]; omega
  have h2 : (n : Int) / 256 ^ 0 % 256 = (n : Int) % 256 := by
    rw [show (256 : Int) ^ 0 = 1 from rfl]; omega
  rw [h1, h2]
theorem own_lit (w : World) (cs : Array Value) (e : TypeId) (hm : cs.size ≤ maxLen) : (w.alloc (.cells cs e)).ownsRow w.heap.size e 1 (.slice (some ⟨w.heap.size, 0, none⟩) cs.size cs.size) cs.size cs.toList :=
  ⟨by simp, .inr ⟨w.heap.size, cs.size, cs, rfl, Nat.le_refl _, heap_alloc_new w _, Nat.le_refl _, hm, by omega, by rw [Nat.mul_one]; exact List.take_of_length_le (by simp)⟩⟩
theorem rframe_ok (w : World) (A : Option Addr) (n c : Nat) (l : List UInt8) (hr : Rd w 1 A n c (bs l)) (h : n ≤ 65535) :
    Calls Try.prog 15 #[.slice A n c] w (FrameP w l) := by
  have hl := hr.blen
  have h' : ¬ (65535 : Int) < (n : Int) := by omega
  have h0 : (0 : Int) ≤ (n : Int) / 256 := by omega
  have h1 : (n : Int) / 256 < 256 := by omega
  have h2 : (0 : Int) ≤ (n : Int) % 256 := by omega
  have h3 : (n : Int) % 256 < 256 := by omega
  have hr0 := hr.alloc (.cells #[.int .u8 ((n : Int) / 256), .int .u8 ((n : Int) % 256)] 5)
  have hlit : Rd (w.alloc (.cells #[.int .u8 ((n : Int) / 256), .int .u8 ((n : Int) % 256)] 5)) 1 (some ⟨w.heap.size, 0, none⟩) 2 2 (bs (be 2 (n : Int))) := by rw [be2 n h]; exact Rd.lit w #[.int .u8 ((n : Int) / 256), .int .u8 ((n : Int) % 256)] 5
  go_enter Try.func15, Try.ntmps15
  go_wp2_with (at_builtin; refine wpList_app (w0 := w) _ w.heap.size rfl (.tmp 15) (.tmp 16) 26 26 5 (.int .u8 0) 1 1 rfl Try.underlying26 info_u8 rfl (by omega) (by omega) (.slice (some ⟨w.heap.size, 0, none⟩) 2 2) 2 (bs (be 2 (n : Int))) rfl (.full hlit) _ n (bs l) rfl (.slice hr0 (bs_one l)) (below_new w _) (by rw [World.size_alloc]; omega) (by omega) ?_; intro v2 w2 hor ho2 hb2 hg2)
  have ho3 := ho2 (.inr (by have hq := own_lit w #[.int .u8 ((n : Int) / 256), .int .u8 ((n : Int) % 256)] 5 (by simp [maxLen]); rw [be2 n h]; exact hq))
  rw [← bs_append, Nat.add_comm] at ho3
  go_ret2
  exact ⟨_, rfl, by unfold frm; rw [hl]; exact ho3, hb2⟩
theorem rframe_no (w : World) (A : Option Addr) (n c : Nat) (h : ¬ n ≤ 65535) :
    Calls Try.prog 15 #[.slice A n c] w (Tells w (.tuple #[.slice none 0 0, .int .i64 2])) := by
  have h' : (65535 : Int) < (n : Int) := by omega
  go_enter Try.func15, Try.ntmps15
  go_wp2
  go_ret2
  exact ⟨rfl, Below.refl _ _⟩
set_option maxHeartbeats 1000000 in
theorem streamFrames_walk (w : World) (A : Option Addr) (n c : Nat) (l : List UInt8) (hr : Rd w 1 A n c (bs l)) (hcap : c * 1 ≤ 140737488351232) :
    Calls Try.prog 4 #[.slice A n c] w (Tells w (.bool true)) := by
  have hle := hr.le
  by_cases h : n ≤ 65535
  · have hf := fun (W : World) A c hr => frame_ok W A n c l hr h
    have hg := fun (W : World) A c hr => rframe_ok W A n c l hr h
    unfold FrameP at hf hg
    obtain ⟨m, hm⟩ : ∃ m, l.length + 2 = m := ⟨_, rfl⟩
    obtain ⟨L, hL⟩ : ∃ m, frm l = m := ⟨_, rfl⟩
    rw [hm, hL] at hf hg
    have HF := Lib.hid hf
    have HG := Lib.hid hg
    clear hf hg hm hL h
    go_enter Try.func4, Try.ntmps4
    go_upto_region 3 with (go_at_call 10; refine (feed_nil _ A n c).mono ?_; rintro e w0 ⟨rfl, hb0⟩; have hr0 := hr.below hb0)
    go_upto_region 4 with (first | (at_builtin; refine wpList_app_nil w0 _ w0.heap.size rfl _ _ 26 26 5 (.int .u8 0) 1 1 rfl Try.underlying26 info_u8 rfl (by omega) (by omega) rfl _ n (bs l) rfl (.slice hr0 (bs_one l)) (Below.refl _ _) (Nat.le_refl _) (by omega) ?_; intro v1 w1 ho hb1 hg1; obtain ⟨A1, c1, rfl, hr1⟩ := own_rd ho; have hb01 := below_trans hb0 hb1; clear ho hg1) | (go_at_call 14; refine (HF.out _ _ _ hr1).mono ?_; rintro e w2 ⟨v2, rfl, ho2, hb2⟩; obtain ⟨A2, c2, rfl, hr2⟩ := own_rd ho2; have hb02 := below_trans hb01 hb2; have hr3 := hr.below hb02; clear ho2 hr0 hr1))
    go_upto_region 5 with (go_at_call 15; refine (HG.out _ _ _ hr3).mono ?_; rintro e w4 ⟨v4, rfl, ho4, hb4⟩; obtain ⟨A4, c4, rfl, hr4⟩ := own_rd ho4; have hb04 := below_trans hb02 hb4; have hr5 := hr2.below hb4)
    have hc1 := run_conv_str (P := Try.prog) _ (dst := 9) Try.underlying26 Try.underlying5 Try.underlying9 hr4
    have hc2 := run_conv_str (P := Try.prog) _ (dst := 9) Try.underlying26 Try.underlying5 Try.underlying9 hr5
    clear hr2 hr3 hr4 hr5 ho4 hb0 hb1 hb2 hb4 hb01 hb02 hr
    go_wp2_with (first | (go_at_call 13; refine (left_nil _).mono ?_; rintro e w' ⟨rfl, rfl⟩) | (go_at_call 8; refine (wakes _).mono ?_; rintro e w7 ⟨rfl, hb7⟩))
    go_ret
    exact ⟨rfl, below_trans hb04 hb7⟩
  · have hf := fun (W : World) A c => frame_no W A n c h
    have hg := fun (W : World) A c => rframe_no W A n c h
    have HF := Lib.hid hf
    have HG := Lib.hid hg
    clear hf hg h
    have hcn := fun (W : World) => run_conv_str (P := Try.prog) W (dst := 9) Try.underlying26 Try.underlying5 Try.underlying9 (l := []) (Rd.nil W 1)
    go_enter Try.func4, Try.ntmps4
    go_upto_region 3 with (go_at_call 10; refine (feed_nil _ A n c).mono ?_; rintro e w0 ⟨rfl, hb0⟩; have hr0 := hr.below hb0)
    go_upto_region 4 with (first | (at_builtin; refine wpList_app_nil w0 _ w0.heap.size rfl _ _ 26 26 5 (.int .u8 0) 1 1 rfl Try.underlying26 info_u8 rfl (by omega) (by omega) rfl _ n (bs l) rfl (.slice hr0 (bs_one l)) (Below.refl _ _) (Nat.le_refl _) (by omega) ?_; intro v1 w1 ho hb1 hg1; obtain ⟨A1, c1, rfl, hr1⟩ := own_rd ho; have hb01 := below_trans hb0 hb1; clear ho hg1) | (go_at_call 14; refine (HF.out _ _ _).mono ?_; rintro e w2 ⟨rfl, hb2⟩; have hb02 := below_trans hb01 hb2))
    go_upto_region 5 with (go_at_call 15; refine (HG.out _ _ _).mono ?_; rintro e w4 ⟨rfl, hb4⟩; have hb04 := below_trans hb02 hb4)
    go_wp2_with (first | (go_at_call 13; refine (left_nil _).mono ?_; rintro e w' ⟨rfl, rfl⟩) | (go_at_call 8; refine (wakes _).mono ?_; rintro e w7 ⟨rfl, hb7⟩))
    go_ret
    exact ⟨rfl, below_trans hb04 hb7⟩
end Go.Proofs.Ytmifnmnpihikgaa
