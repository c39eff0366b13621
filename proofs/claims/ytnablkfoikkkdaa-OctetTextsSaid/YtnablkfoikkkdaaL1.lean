/- The laws of layer 2: OctetTexts. -/
import Derived.Test.YtnablkfoikkkdaaL0
namespace Go.Proofs.Ytnablkfoikkkdaa
open Go.RowKit Go.HL
set_option linter.unusedVariables false
set_option linter.unusedSimpArgs false

set_option maxHeartbeats 4000000 in
theorem octetTexts_walk (w : World) (A : Option Addr) (n c : Nat) (l : List UInt8) (s : ByteArray) (i : Int) (hr : Rd w 1 A n c (bs l)) (hc : c * 1 ≤ 140737488351232) (hs : s.size ≤ 140737488351232) (hi0 : -9223372036854775808 ≤ i) (hi1 : i ≤ 9223372036854775807) :
    Calls Try.prog 7 #[.slice A n c, .string s, .int .i64 i] w (Tells w (.bool true)) := by
  have hle := hr.le
  obtain ⟨⟨a1, a2, a3⟩, ha⟩ : ∃ x, textR l i = x := ⟨_, rfl⟩
  by_cases hlong : 255 < s.size
  · go_enter Try.func7, Try.ntmps7
    go_wp2_with (at_builtin; refine wpList_app_nil w w w.heap.size rfl _ _ 22 22 5 (.int .u8 0) 1 1 rfl Try.underlying22 info_u8 rfl (by omega) (by omega) rfl _ n (bs l) rfl (.slice hr (bs_one l)) (Below.refl _ _) (Nat.le_refl _) (by omega) ?_; intro v1 w1 ho hb1 hg1)
    obtain ⟨A1, c1, rfl, hr1⟩ := own_rd ho
    have hrw := hr.below hb1
    have k2 := takeText_ (w := w1) A n c i (by omega) l hrw
    have k3 := rtakeText_ (w := w1) A n c i (by omega) l hrw
    rw [ha] at k2 k3
    have K2 := Lib.hid k2
    have K3 := Lib.hid k3
    clear k2 k3 ho hg1
    have hcv := run_conv_str (P := Try.prog) w1 Try.underlying22 Try.underlying5 Try.underlying9 (l := []) (Rd.nil w1 1)
    go_wp2_with (first | (go_at_call 22; refine (putText_long _ _ _ _ hlong (by omega) _).mono ?_; rintro e w' ⟨rfl, rfl⟩) | (go_at_call 23; refine (rputText_long _ _ _ _ hlong (by omega) _).mono ?_; rintro e w' ⟨rfl, rfl⟩) | (go_at_call 24; refine K2.out.mono ?_; rintro e w' ⟨rfl, rfl⟩) | (go_at_call 25; refine K3.out.mono ?_; rintro e w' ⟨rfl, rfl⟩) | (go_at_call 13; refine (wakes _).mono ?_; rintro e w' ⟨rfl, hwk⟩))
    go_ret
    exact ⟨rfl, below_trans hb1 hwk⟩
  · have hs2 : s.size ≤ 255 := by omega
    go_enter Try.func7, Try.ntmps7
    go_wp2_with (at_builtin; refine wpList_app_nil w w w.heap.size rfl _ _ 22 22 5 (.int .u8 0) 1 1 rfl Try.underlying22 info_u8 rfl (by omega) (by omega) rfl _ n (bs l) rfl (.slice hr (bs_one l)) (Below.refl _ _) (Nat.le_refl _) (by omega) ?_; intro v1 w1 ho hb1 hg1)
    obtain ⟨A1, c1, rfl, hr1⟩ := own_rd ho
    clear ho hg1
    go_wp2_with (go_at_call 22; refine (putText_ok _ _ _ _ hs2 (by omega) _ _ hr1).mono ?_; rintro e w2 ⟨sv, rfl, ho2, hb2⟩)
    obtain ⟨A2, c2, rfl, hr2⟩ := own_rd ho2
    rw [bs_len1 s.size hs2, ← bs_append, ← bs_append] at hr2
    clear ho2
    have hb02 := below_trans hb1 hb2
    have hrw := hr.below hb02
    go_wp2_with (go_at_call 23; refine (rputText_ok _ _ _ _ hs2 (by omega) _ _ hrw (bs_one l)).mono ?_; rintro e w3 ⟨sv, rfl, ho3, hb3⟩)
    obtain ⟨A3, c3, rfl, hr3⟩ := own_rd ho3
    rw [bs_len1 s.size hs2, ← bs_append, ← bs_append] at hr3
    clear ho3
    have hb03 := below_trans hb02 hb3
    have hrw := hr.below hb03
    have hr2' := hr2.below hb3
    generalize l ++ [UInt8.ofNat s.size] ++ s.data.toList = L at *
    have k2 := takeText_ (w := w3) A n c i (by omega) l hrw
    have k3 := rtakeText_ (w := w3) A n c i (by omega) l hrw
    rw [ha] at k2 k3
    have K2 := Lib.hid k2
    have K3 := Lib.hid k3
    clear k2 k3
    have hcv1 := run_conv_str (P := Try.prog) w3 Try.underlying22 Try.underlying5 Try.underlying9 hr2'
    have hcv2 := run_conv_str (P := Try.prog) w3 Try.underlying22 Try.underlying5 Try.underlying9 hr3
    go_wp2_with (first | (go_at_call 24; refine K2.out.mono ?_; rintro e w' ⟨rfl, rfl⟩) | (go_at_call 25; refine K3.out.mono ?_; rintro e w' ⟨rfl, rfl⟩) | (go_at_call 13; refine (wakes _).mono ?_; rintro e w' ⟨rfl, hwk⟩))
    go_ret
    exact ⟨rfl, below_trans hb03 hwk⟩
end Go.Proofs.Ytnablkfoikkkdaa
