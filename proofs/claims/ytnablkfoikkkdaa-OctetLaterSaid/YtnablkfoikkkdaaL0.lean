/- The laws of layer 2: 'wakes'. -/
import Derived.Test.YtnablkfoikkkdaaRef
namespace Go.Proofs.Ytnablkfoikkkdaa
open Go.RowKit Go.HL
set_option linter.unusedVariables false
set_option linter.unusedSimpArgs false

/-- A call that tells true, and leaves what was there as it was. -/
def Tells (w : World) (v : Value) (e : Ending) (w' : World) : Prop := e = .returned v ∧ Below w.heap.size w w'

theorem wakes (w : World) : Calls Try.prog 13 #[] w (Tells w (.bool true)) := by
  have hr0 : Rd (w.alloc (.cells #[.int .u8 7] 5)) 1 (some ⟨w.heap.size, 0, none⟩) 1 1 (bs [7]) := Rd.lit w #[.int .u8 7] 5
  go_enter Try.func13, Try.ntmps13
  go_wp2_with (go_at_call 10; refine (put16 _ _ _ _ (by omega) (by omega) (by omega) _ _ hr0).mono ?_; rintro e w1 ⟨sv, rfl, ho1, hb1⟩)
  obtain ⟨A1, c1, rfl, hr1⟩ := own_rd ho1
  rw [← bs_append] at hr1
  have hl : ([7] ++ be 2 513 : List UInt8) = [7, 2, 1] := by decide
  rw [hl] at hr1
  clear hl
  have hcv := run_conv_str (P := Try.prog) w1 Try.underlying22 Try.underlying5 Try.underlying9 hr1
  have hle := hr1.le
  have hv : val [2, 1] = 513 := by decide
  have hla : later 1 2 = true := by decide
  go_wp2_with (first | (go_at_call 15; refine (take16_ok _ _ _ _ (by omega) (by omega) (by omega) _ [7, 2, 1] hr1).mono ?_; rintro e w' ⟨rfl, rfl⟩) | (go_at_call 18; refine (later_ 1 2 (by omega) (by omega) (by omega) (by omega) _).mono ?_; rintro e w' ⟨rfl, rfl⟩))
  go_ret
  exact ⟨rfl, below_trans (below_new _ _) hb1⟩

set_option maxHeartbeats 800000 in
theorem octetLater_walk (a b n : Int) (ha0 : 0 ≤ a) (ha1 : a < 4294967296) (hb0 : 0 ≤ b) (hb1 : b < 4294967296) (hn0 : -9223372036854775808 ≤ n) (hn1 : n ≤ 9223372036854775807) (w : World) :
    Calls Try.prog 5 #[.int .u32 a, .int .u32 b, .int .i64 n] w (Tells w (.bool true)) := by
  clear hn0 hn1
  go_enter Try.func5, Try.ntmps5
  go_wp2_with (first | (go_at_call 18; refine (later_ _ _ ha0 ha1 hb0 hb1 _).mono ?_; rintro e w' ⟨rfl, rfl⟩) | (go_at_call 19; refine (rlater _ _ ha0 ha1 hb0 hb1 _).mono ?_; rintro e w' ⟨rfl, rfl⟩) | (go_at_call 20; refine (step_ _ _ _).mono ?_; rintro e w' ⟨rfl, rfl⟩) | (go_at_call 21; refine (rstep _ _ ha0 ha1 _).mono ?_; rintro e w' ⟨rfl, rfl⟩) | (go_at_call 13; refine (wakes _).mono ?_; rintro e w' ⟨rfl, hwk⟩))
  go_ret
  exact ⟨rfl, hwk⟩
end Go.Proofs.Ytnablkfoikkkdaa
