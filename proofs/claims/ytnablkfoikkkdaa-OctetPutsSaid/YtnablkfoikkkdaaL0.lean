/- The laws of layer 2: 'wakes'. -/
import Derived.Test.YtnablkfoikkkdaaRef
namespace Go.Proofs.Ytnablkfoikkkdaa
open Go.RowKit Go.HL
set_option linter.unusedVariables false
set_option linter.unusedSimpArgs false

/-- A call that tells true, and leaves what was there as it was. -/
def Tells (w : World) (v : Value) (e : Ending) (w' : World) : Prop := e = .returned v ∧ Below w.heap.size w w'

theorem wakes (w : World) : Calls Try.prog 13 #[] w (Tells w (.bool true)) := by
  have hr0 : Rd (w.alloc (.cells #[.int .u8 7] 5)) 1 (some ⟨w.heap.size, 0, none⟩) 1 1 (bs [7]) := Rd.lit w #[.int .u8 7] 5
  go_enter Try.func13, Try.ntmps13
  go_wp2_with (go_at_call 10; refine (put16 _ _ _ _ (by omega) (by omega) (by omega) _ _ hr0).mono ?_; rintro e w1 ⟨sv, rfl, ho1, hb1⟩)
  obtain ⟨A1, c1, rfl, hr1⟩ := own_rd ho1
  rw [← bs_append] at hr1
  have hl : ([7] ++ be 2 513 : List UInt8) = [7, 2, 1] := by decide
  rw [hl] at hr1
  clear hl
  have hcv := run_conv_str (P := Try.prog) w1 Try.underlying22 Try.underlying5 Try.underlying9 hr1
  have hle := hr1.le
  have hv : val [2, 1] = 513 := by decide
  have hla : later 1 2 = true := by decide
  go_wp2_with (first | (go_at_call 15; refine (take16_ok _ _ _ _ (by omega) (by omega) (by omega) _ [7, 2, 1] hr1).mono ?_; rintro e w' ⟨rfl, rfl⟩) | (go_at_call 18; refine (later_ 1 2 (by omega) (by omega) (by omega) (by omega) _).mono ?_; rintro e w' ⟨rfl, rfl⟩))
  go_ret
  exact ⟨rfl, below_trans (below_new _ _) hb1⟩

set_option maxHeartbeats 800000 in
theorem octetLater_walk (w : World) (a b n : Int) (ha0 : 0 ≤ a) (ha1 : a < 4294967296) (hb0 : 0 ≤ b) (hb1 : b < 4294967296) (hn0 : -9223372036854775808 ≤ n) (hn1 : n ≤ 9223372036854775807) :
    Calls Try.prog 5 #[.int .u32 a, .int .u32 b, .int .i64 n] w (Tells w (.bool true)) := by
  clear hn0 hn1
  go_enter Try.func5, Try.ntmps5
  go_wp2_with (first | (go_at_call 18; refine (later_ _ _ ha0 ha1 hb0 hb1 _).mono ?_; rintro e w' ⟨rfl, rfl⟩) | (go_at_call 19; refine (rlater _ _ ha0 ha1 hb0 hb1 _).mono ?_; rintro e w' ⟨rfl, rfl⟩) | (go_at_call 20; refine (step_ _ _ _).mono ?_; rintro e w' ⟨rfl, rfl⟩) | (go_at_call 21; refine (rstep _ _ ha0 ha1 _).mono ?_; rintro e w' ⟨rfl, rfl⟩) | (go_at_call 13; refine (wakes _).mono ?_; rintro e w' ⟨rfl, hwk⟩))
  go_ret
  exact ⟨rfl, hwk⟩

set_option maxHeartbeats 4000000 in
theorem octetTakes_walk (w : World) (A : Option Addr) (n c : Nat) (l : List UInt8) (i : Int) (hr : Rd w 1 A n c (bs l)) (hc : c * 1 ≤ 140737488351232) (hi0 : -9223372036854775808 ≤ i) (hi1 : i ≤ 9223372036854775807) :
    Calls Try.prog 4 #[.slice A n c, .int .i64 i] w (Tells w (.bool true)) := by
  have hle := hr.le
  have u1 := takeR_lt 1 l i (by omega)
  have u2 := takeR_lt 2 l i (by omega)
  have u4 := takeR_lt 4 l i (by omega)
  obtain ⟨⟨a1, a2, a3⟩, ha⟩ : ∃ x, takeR 1 l i = x := ⟨_, rfl⟩
  obtain ⟨⟨b1, b2, b3⟩, hb⟩ : ∃ x, takeR 2 l i = x := ⟨_, rfl⟩
  obtain ⟨⟨c1, c2, c3⟩, hcc⟩ : ∃ x, takeR 4 l i = x := ⟨_, rfl⟩
  rw [ha] at u1
  rw [hb] at u2
  rw [hcc] at u4
  have k1 := take8 (w := w) A n c i (by omega) l hr
  have k2 := take16 (w := w) A n c i (by omega) l hr
  have k3 := take32 (w := w) A n c i (by omega) l hr
  have k4 := rtake (w := w) A n c i 1 (by omega) (by omega) (by omega) l hr
  have k5 := rtake (w := w) A n c i 2 (by omega) (by omega) (by omega) l hr
  have k6 := rtake (w := w) A n c i 4 (by omega) (by omega) (by omega) l hr
  rw [ha] at k1 k4
  rw [hb] at k2 k5
  rw [hcc] at k3 k6
  have K1 := Lib.hid k1
  have K2 := Lib.hid k2
  have K3 := Lib.hid k3
  have K4 := Lib.hid k4
  have K5 := Lib.hid k5
  have K6 := Lib.hid k6
  clear k1 k2 k3 k4 k5 k6 ha hb hcc
  dsimp only at u1 u2 u4
  rw [show (256 : Int) ^ 1 = 256 by decide] at u1
  rw [show (256 : Int) ^ 2 = 65536 by decide] at u2
  rw [show (256 : Int) ^ 4 = 4294967296 by decide] at u4
  obtain ⟨u10, u11⟩ := u1
  obtain ⟨u20, u21⟩ := u2
  obtain ⟨u40, u41⟩ := u4
  go_enter Try.func4, Try.ntmps4
  go_wp2_with (first | (go_at_call 14; refine K1.out.mono ?_; rintro e w' ⟨rfl, rfl⟩) | (go_at_call 15; refine K2.out.mono ?_; rintro e w' ⟨rfl, rfl⟩) | (go_at_call 16; refine K3.out.mono ?_; rintro e w' ⟨rfl, rfl⟩) | (go_at_call 17; refine K4.out.mono ?_; rintro e w' ⟨rfl, rfl⟩; clear K4) | (go_at_call 17; refine K5.out.mono ?_; rintro e w' ⟨rfl, rfl⟩; clear K5) | (go_at_call 17; refine K6.out.mono ?_; rintro e w' ⟨rfl, rfl⟩; clear K6) | (go_at_call 13; refine (wakes _).mono ?_; rintro e w' ⟨rfl, hwk⟩))
  go_ret
  exact ⟨rfl, hwk⟩

theorem round_cases (a b : Int) (ha0 : 0 ≤ a) (ha1 : a < 4294967296) (hb0 : 0 ≤ b) (hb1 : b < 4294967296) :
    (later a b = false ∧ later b a = false ∧ (a != b) = false) ∨ (later a b = false ∧ later b a = false ∧ (a != b) = true ∧ ((b - a) % 4294967296 != 2147483648) = false) ∨
    (later a b = true ∧ later b a = false ∧ (a != b) = true ∧ ((b - a) % 4294967296 != 2147483648) = true) ∨ (later a b = false ∧ later b a = true ∧ (a != b) = true ∧ ((b - a) % 4294967296 != 2147483648) = true) := by
  simp only [later, decide_eq_false_iff_not, decide_eq_true_eq, bne_eq_false_iff_eq, bne_iff_ne]
  omega
theorem step_cases (a n : Int) (ha0 : 0 ≤ a) (ha1 : a < 4294967296) (hn0 : 0 ≤ n) (hn1 : n < 4294967296) :
    (n ≤ 0 ∧ later a ((a + n) % 4294967296) = false) ∨ (0 < n ∧ n < 2147483648 ∧ later a ((a + n) % 4294967296) = true) ∨ (0 < n ∧ 2147483648 ≤ n ∧ later a ((a + n) % 4294967296) = false) := by
  simp only [later, decide_eq_false_iff_not, decide_eq_true_eq]
  omega

set_option maxHeartbeats 4000000 in
theorem octetRound_walk (w : World) (a b n : Int) (ha0 : 0 ≤ a) (ha1 : a < 4294967296) (hb0 : 0 ≤ b) (hb1 : b < 4294967296) (hn0 : 0 ≤ n) (hn1 : n < 4294967296) :
    Calls Try.prog 6 #[.int .u32 a, .int .u32 b, .int .u32 n] w (Tells w (.bool true)) := by
  have hself : later a a = false := by simp [later]
  have hst : ((a + n) % 4294967296 + -n) % 4294967296 = a := by omega
  have hcm : ((a + n) % 4294967296 - a) % 4294967296 = n := by omega
  have hc0 : 0 ≤ (a + n) % 4294967296 := by omega
  have hc1 : (a + n) % 4294967296 < 4294967296 := by omega
  have hs := step_cases a n ha0 ha1 hn0 hn1
  have hr := round_cases a b ha0 ha1 hb0 hb1
  rcases hr with ⟨h1, h2, h3⟩ | ⟨h1, h2, h3, h4⟩ | ⟨h1, h2, h3, h4⟩ | ⟨h1, h2, h3, h4⟩ <;> rcases hs with ⟨g1, g2⟩ | ⟨g1, g2, g3⟩ | ⟨g1, g2, g3⟩
  all_goals
    go_enter Try.func6, Try.ntmps6
    go_wp2_with (first | (go_at_call 18; refine (later_ _ _ (by assumption) (by assumption) (by assumption) (by assumption) _).mono ?_; rintro e w' ⟨rfl, rfl⟩) | (go_at_call 20; refine (step_ _ _ _).mono ?_; rintro e w' ⟨rfl, rfl⟩) | (go_at_call 13; refine (wakes _).mono ?_; rintro e w' ⟨rfl, hwk⟩))
    go_ret
    exact ⟨ret_b (by first | rfl | (simp; omega)), hwk⟩
end Go.Proofs.Ytnablkfoikkkdaa
