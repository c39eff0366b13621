/- The laws of layer 2: OctetBack. -/
import Derived.Test.YtnablkfoikkkdaaL0
namespace Go.Proofs.Ytnablkfoikkkdaa
open Go.RowKit Go.HL
set_option linter.unusedVariables false
set_option linter.unusedSimpArgs false

set_option maxHeartbeats 4000000 in
set_option maxRecDepth 100000 in
theorem octetBack_in (w : World) (A : Option Addr) (n c : Nat) (l : List UInt8) (v : Int) (s : ByteArray) (A' : Option Addr) (n' c' : Nat) (l' : List UInt8) (hr : Rd w 1 A n c (bs l)) (hv0 : 0 ≤ v) (hv1 : v < 4294967296) (hr' : Rd w 1 A' n' c' (bs l'))
    (hs : s.size ≤ 255) (hn : n ≤ 65536) (hn' : n' ≤ 65536) :
    Calls Try.prog 8 #[.slice A n c, .int .u32 v, .string s, .slice A' n' c'] w (Tells w (.bool true)) := by
  have hw16 : IntKind.u16.wrap v = v % 65536 := IntKind.wrap_u16 v
  have hbl := hr.blen
  have hbl' := hr'.blen
  go_enter Try.func8, Try.ntmps8
  go_wp2_with (first | (at_builtin; refine wpList_app_nil w w w.heap.size rfl _ _ 22 22 5 (.int .u8 0) 1 1 rfl Try.underlying22 info_u8 rfl (by omega) (by omega) rfl _ n (bs l) rfl (.slice hr (bs_one l)) (Below.refl _ _) (Nat.le_refl _) (by omega) ?_; intro v1 w1 ho hb1 hg1))
  obtain ⟨A1, c1, rfl, hr1⟩ := own_rd ho
  clear ho hg1
  go_wp2_with (go_at_call 9; refine (put8 _ _ _ _ (by omega) (by omega) (by omega) _ _ hr1).mono ?_; rintro e w2 ⟨sv, rfl, ho2, hb2⟩)
  obtain ⟨A2, c2, rfl, hr2⟩ := own_rd ho2
  clear ho2
  have hb02 := below_trans hb1 hb2
  go_wp2_with (go_at_call 10; refine (put16 _ _ _ _ (by omega) (by omega) (by omega) _ _ hr2).mono ?_; rintro e w3 ⟨sv, rfl, ho3, hb3⟩)
  obtain ⟨A3, c3, rfl, hr3⟩ := own_rd ho3
  clear ho3
  have hb03 := below_trans hb02 hb3
  go_wp2_with (go_at_call 11; refine (put32 _ _ _ _ (by omega) (by omega) (by omega) _ _ hr3).mono ?_; rintro e w4 ⟨sv, rfl, ho4, hb4⟩)
  obtain ⟨A4, c4, rfl, hr4⟩ := own_rd ho4
  clear ho4
  have hb04 := below_trans hb03 hb4
  go_wp2_with (go_at_call 22; refine (putText_ok _ _ _ _ hs (by omega) _ _ hr4).mono ?_; rintro e w5 ⟨sv, rfl, ho5, hb5⟩)
  rw [bs_len1 s.size hs, ← bs_append, ← bs_append, ← bs_append, ← bs_append, ← bs_append] at ho5
  obtain ⟨L, hL⟩ : ∃ L, l ++ be 1 (v % 256) ++ be 2 (v % 65536) ++ be 4 v ++ [UInt8.ofNat s.size] ++ s.data.toList = L := ⟨_, rfl⟩
  rw [hL] at ho5
  have hb05 := below_trans hb04 hb5
  obtain ⟨A5, c5, rfl, hr5⟩ := own_rd ho5
  have hz45 : w4.heap.size ≤ w5.heap.size := hb5.size
  have hz04 : w.heap.size ≤ w4.heap.size := hb04.size
  have hrw := hr.below hb05
  have hpl : L.take n = l := by rw [← hL, ← hbl]; simp [List.append_assoc]
  have hr6 := hr5.bpre n (by omega)
  rw [hpl] at hr6
  clear hr1 hr2 hr3 hr4 hb1 hb2 hb3 hb4 hb5 hb02 hb03 hb04
  have hle5 := hr5.le
  have hcv1 : ∀ k, (convert 22 9 (.slice A5 n c5)).run Try.prog (w5.drewN k) = .ok (.string (str l)) (w5.drewN k) := fun k => run_conv_str (P := Try.prog) _ Try.underlying22 Try.underlying5 Try.underlying9 (hr6.drewN k)
  have hcv2 : ∀ k, (convert 22 9 (.slice A n c)).run Try.prog (w5.drewN k) = .ok (.string (str l)) (w5.drewN k) := fun k => run_conv_str (P := Try.prog) _ Try.underlying22 Try.underlying5 Try.underlying9 (hrw.drewN k)
  have w8 : IntKind.i64.wrap ((n : Int) + 8) = (n : Int) + 8 := by rw [IntKind.wrap_i64]; omega
  have w9 : IntKind.i64.wrap ((n : Int) + 8 + (s.size : Int)) = (n : Int) + 1 + 2 + 4 + 1 + (s.size : Int) := by rw [IntKind.wrap_i64]; omega
  go_quiet (fail)
  clear w8 w9 hcv1 hcv2
  have hd5 : Below w5.heap.size w5 (w5.drewN nq) := below_drewN (Below.refl _ _) nq
  have ho6 := own_below ho5 hd5
  have hr6' := (hr'.below hb05).below hd5
  have hb06 := below_trans hb05 hd5
  have hz4 : w4.heap.size ≤ (w5.drewN nq).heap.size := hz45
  clear ho5 hr5 hrw hr6 hb05 hd5 hz45
  generalize w5.drewN nq = w6 at *
  have hz0 : w.heap.size ≤ w4.heap.size := hz04
  go_wp2_with (at_builtin; refine wpList_app (w0 := w6) w6 w4.heap.size rfl _ _ 22 22 5 (.int .u8 0) 1 1 rfl Try.underlying22 info_u8 rfl (by omega) (by omega) _ (n + 1 + 2 + 4 + 1 + s.size) (bs L) rfl (.own ho6) _ n' (bs l') rfl (.slice hr6' (bs_one l')) (Below.refl _ _) hz4 (by omega) ?_; intro v7 w7 _ ho7' hb7 hg7)
  have ho7 := ho7' (.inr ho6)
  rw [← bs_append] at ho7
  obtain ⟨A7, c7, rfl, hr7⟩ := own_rd ho7
  have hb07 : Below w.heap.size w w7 := hb06.trans ⟨hb7.os, hb7.tape, hb7.output, hb7.size, fun k hk => hb7.block k (by omega)⟩
  clear ho7' ho7 hg7 ho6 hr6' hb06 hb7 hr' hr hz0 hz4 hpl
  obtain ⟨LL, hLL⟩ : ∃ LL, L ++ l' = LL := ⟨_, rfl⟩
  rw [hLL] at hr7
  have hlen := hr7.blen
  have e8 : val ((LL.drop n).take 1) = v % 256 := by
    rw [← hLL, ← hL]
    have := mid_take l (be 1 (v % 256)) (be 2 (v % 65536) ++ be 4 v ++ [UInt8.ofNat s.size] ++ s.data.toList ++ l') n 1 hbl (be_length _ _)
    rw [show l ++ be 1 (v % 256) ++ be 2 (v % 65536) ++ be 4 v ++ [UInt8.ofNat s.size] ++ s.data.toList ++ l' = l ++ be 1 (v % 256) ++ (be 2 (v % 65536) ++ be 4 v ++ [UInt8.ofNat s.size] ++ s.data.toList ++ l') by simp [List.append_assoc], this, val_be]
    omega
  have e16 : val ((LL.drop (n + 1)).take 2) = v % 65536 := by
    rw [← hLL, ← hL]
    have := mid_take (l ++ be 1 (v % 256)) (be 2 (v % 65536)) (be 4 v ++ [UInt8.ofNat s.size] ++ s.data.toList ++ l') (n + 1) 2 (by simp [be_length, hbl]) (be_length _ _)
    rw [show l ++ be 1 (v % 256) ++ be 2 (v % 65536) ++ be 4 v ++ [UInt8.ofNat s.size] ++ s.data.toList ++ l' = l ++ be 1 (v % 256) ++ be 2 (v % 65536) ++ (be 4 v ++ [UInt8.ofNat s.size] ++ s.data.toList ++ l') by simp [List.append_assoc], this, val_be]
    omega
  have e32 : val ((LL.drop (n + 1 + 2)).take 4) = v := by
    rw [← hLL, ← hL]
    have := mid_take (l ++ be 1 (v % 256) ++ be 2 (v % 65536)) (be 4 v) ([UInt8.ofNat s.size] ++ s.data.toList ++ l') (n + 1 + 2) 4 (by simp [be_length, hbl]) (be_length _ _)
    rw [show l ++ be 1 (v % 256) ++ be 2 (v % 65536) ++ be 4 v ++ [UInt8.ofNat s.size] ++ s.data.toList ++ l' = l ++ be 1 (v % 256) ++ be 2 (v % 65536) ++ be 4 v ++ ([UInt8.ofNat s.size] ++ s.data.toList ++ l') by simp [List.append_assoc], this, val_be]
    omega
  have et : val ((LL.drop (n + 1 + 2 + 4)).take 1) = (s.size : Int) := by
    rw [← hLL, ← hL]
    have := mid_take (l ++ be 1 (v % 256) ++ be 2 (v % 65536) ++ be 4 v) [UInt8.ofNat s.size] (s.data.toList ++ l') (n + 1 + 2 + 4) 1 (by simp [be_length, hbl]) rfl
    rw [show l ++ be 1 (v % 256) ++ be 2 (v % 65536) ++ be 4 v ++ [UInt8.ofNat s.size] ++ s.data.toList ++ l' = l ++ be 1 (v % 256) ++ be 2 (v % 65536) ++ be 4 v ++ [UInt8.ofNat s.size] ++ (s.data.toList ++ l') by simp [List.append_assoc], this]
    have := congrArg (fun l : List Value => l) (bs_len1 s.size hs)
    simp only [bs, List.map_cons, List.map_nil, B, List.cons.injEq, Value.int.injEq, and_true, true_and] at this
    simp only [val, List.foldl_cons, List.foldl_nil]
    omega
  have es : (LL.drop (n + 1 + 2 + 4 + 1)).take s.size = s.data.toList := by
    rw [← hLL, ← hL]
    have := mid_take (l ++ be 1 (v % 256) ++ be 2 (v % 65536) ++ be 4 v ++ [UInt8.ofNat s.size]) s.data.toList l' (n + 1 + 2 + 4 + 1) s.size (by simp [be_length, hbl]) (by rw [Array.length_toList]; rfl)
    rw [show l ++ be 1 (v % 256) ++ be 2 (v % 65536) ++ be 4 v ++ [UInt8.ofNat s.size] ++ s.data.toList ++ l' = l ++ be 1 (v % 256) ++ be 2 (v % 65536) ++ be 4 v ++ [UInt8.ofNat s.size] ++ s.data.toList ++ l' by rfl, this]
  have hstr : str s.data.toList = s := by simp [str]
  cases A7 with
  | none => have := (hr7.nil_ rfl).1; omega
  | some ad =>
  have k8 := take8_ok (w := w7) (some ad) _ c7 n (by omega) (by omega) (by omega) LL hr7
  have k16 := take16_ok (w := w7) (some ad) _ c7 (n + 1) (by omega) (by omega) (by omega) LL hr7
  have k32 := take32_ok (w := w7) (some ad) _ c7 (n + 1 + 2) (by omega) (by omega) (by omega) LL hr7
  have kt := takeText_ok (w := w7) ad _ c7 (n + 1 + 2 + 4) (by omega) LL hr7 (by omega) s.size et (by omega) (by omega)
  rw [Int.toNat_natCast, e8] at k8
  rw [show ((n : Int) + 1).toNat = n + 1 by omega, e16] at k16
  rw [show ((n : Int) + 1 + 2).toNat = n + 1 + 2 by omega, e32] at k32
  rw [es, hstr] at kt
  have K8 := Lib.hid k8
  have K16 := Lib.hid k16
  have K32 := Lib.hid k32
  have KT := Lib.hid kt
  clear k8 k16 k32 kt e8 e16 e32 et es hstr hLL hL hlen hbl hbl'
  go_wp2_with (first | (go_at_call 14; go_must (refine K8.out.mono ?_); rintro e w' ⟨rfl, rfl⟩) | (go_at_call 15; go_must (refine K16.out.mono ?_); rintro e w' ⟨rfl, rfl⟩) | (go_at_call 16; go_must (refine K32.out.mono ?_); rintro e w' ⟨rfl, rfl⟩) | (go_at_call 24; go_must (refine KT.out.mono ?_); rintro e w' ⟨rfl, rfl⟩) | (go_at_call 13; refine (wakes _).mono ?_; rintro e w' ⟨rfl, hwk⟩))
  go_ret
  exact ⟨rfl, below_trans hb07 hwk⟩
set_option maxRecDepth 100000 in
theorem octetBack_walk (w : World) (A : Option Addr) (n c : Nat) (l : List UInt8) (v : Int) (s : ByteArray) (A' : Option Addr) (n' c' : Nat) (l' : List UInt8) (hr : Rd w 1 A n c (bs l)) (hc : c * 1 ≤ 140737488351232) (hv0 : 0 ≤ v) (hv1 : v < 4294967296)
    (hs : s.size ≤ 140737488351232) (hr' : Rd w 1 A' n' c' (bs l')) (hc' : c' * 1 ≤ 140737488351232) :
    Calls Try.prog 8 #[.slice A n c, .int .u32 v, .string s, .slice A' n' c'] w (Tells w (.bool true)) := by
  have h1 := hr.le
  have h2 := hr'.le
  by_cases hg : s.size ≤ 255 ∧ n ≤ 65536 ∧ n' ≤ 65536
  · exact octetBack_in w A n c l v s A' n' c' l' hr hv0 hv1 hr' hg.1 hg.2.1 hg.2.2
  · by_cases g1 : 255 < s.size
    · go_enter Try.func8, Try.ntmps8
      go_wp2_with (go_at_call 13; refine (wakes _).mono ?_; rintro e w' ⟨rfl, hwk⟩)
      go_ret
      exact ⟨rfl, hwk⟩
    by_cases g2 : 65536 < n
    · go_enter Try.func8, Try.ntmps8
      go_wp2_with (go_at_call 13; refine (wakes _).mono ?_; rintro e w' ⟨rfl, hwk⟩)
      go_ret
      exact ⟨rfl, hwk⟩
    have g3 : 65536 < n' := by omega
    clear hg
    go_enter Try.func8, Try.ntmps8
    go_wp2_with (go_at_call 13; refine (wakes _).mono ?_; rintro e w' ⟨rfl, hwk⟩)
    go_ret
    exact ⟨rfl, hwk⟩
end Go.Proofs.Ytnablkfoikkkdaa
