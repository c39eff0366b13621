/- The law DrawNil. -/
import Derived.Test.YtbcpnjgmbdhdkaaD3
namespace Go.Proofs.Ytbcpnjgmbdhdkaa
open Go.RowKit Go.HL
set_option linter.unusedVariables false
set_option linter.unusedSimpArgs false

theorem left_nil (w : World) : Calls Try.prog 12 #[.pointer none] w fun e w' => e = .returned (.int .i64 0) ∧ w = w' := by
  go_enter Try.func12, Try.ntmps12
  go_wp2
  go_ret
  exact ⟨rfl, rfl⟩
theorem next_nil (w : World) : Calls Try.prog 14 #[.pointer none] w fun e w' => e = .returned (.int .u32 0) ∧ w = w' := by
  go_enter Try.func14, Try.ntmps14
  go_wp2
  go_ret
  exact ⟨rfl, rfl⟩
theorem below_nil (w : World) (n : Int) : Calls Try.prog 16 #[.pointer none, .int .i64 n] w fun e w' => e = .returned (.int .i64 0) ∧ w = w' := by
  go_enter Try.func16, Try.ntmps16
  go_wp2
  go_ret
  exact ⟨rfl, rfl⟩
theorem copy_nil (w : World) : Calls Try.prog 21 #[.pointer none] w fun e w' => e = .returned (.pointer none) ∧ w = w' := by
  go_enter Try.func21, Try.ntmps21
  go_wp2
  go_ret
  exact ⟨rfl, rfl⟩
theorem upto_at (N k : Nat) (h : k < N) : (upto N).getD k 0 = (k : Int) := by
  simp [upto, List.getD_eq_getElem?_getD, h]

set_option maxHeartbeats 1000000 in
theorem drawNil_core (w : World) (A : Option Addr) (m c : Nat) (n : Int) (N : Nat) (hN : rowN n = N) (q : Int) (hq : min n 4096 = q) (hq2 : (q = (N : Int) ∧ 0 < N) ∨ (q ≤ 0 ∧ N = 0)) :
    Calls Try.prog 7 #[.slice A m c, .int .i64 n] w (Tells w (.bool true)) := by
  have hsh := shuffle_nil w n
  have hN2 := rowN_le n
  rw [hN] at hsh hN2
  have HSH := Lib.hid hsh
  have HQ := Lib.hid hq
  clear hsh hN hq
  go_enter Try.func7, Try.ntmps7
  go_upto_region 3 with (go_at_call 19; refine (add_nil _ _ _ _).mono ?_; rintro e w' ⟨rfl, rfl⟩)
  go_cut [6] (fun v6 wc => v6 = .int .i64 q ∧ w = wc)
  case first =>
    have hq := HQ.out
    by_cases h : n ≤ 4096
    · obtain rfl : n = q := by omega
      clear hq HQ
      go_wp2
      go_meet
      case rel => exact ⟨rfl, rfl⟩
    · obtain rfl : q = 4096 := by omega
      clear hq HQ
      go_wp2
      go_meet
      case rel => exact ⟨rfl, rfl⟩
  case rest =>
    obtain ⟨rfl, rfl⟩ := hcut
    go_wp2_with (go_at_call 11; refine HSH.out.mono ?_; rintro e w1 ⟨rfl, ha, hb⟩)
    go_loopw [8] (fun i wr => ∃ k : Nat, k ≤ N ∧ i = .int .i64 k ∧ Ar wr w.heap.size (upto N) ∧ Below w.heap.size w wr) (fun i _ => N - (intOf i).toNat)
    case atStart => exact ⟨0, Nat.zero_le _, rfl, ha, hb⟩
    case round =>
      clear ha hb
      obtain ⟨k, hk, rfl, ha, hb⟩ := hrel
      by_cases hlt : k < N
      · have hc := ha.cell k (by rw [upto_length]; exact hlt)
        rw [upto_at N k hlt] at hc
        go_wp2
        go_roundw
        case rel => exact ⟨k + 1, hlt, by go_num, ha, hb⟩
        case measure => simp [intOf]; omega
      · obtain rfl : k = N := by omega
        rcases hq2 with ⟨rfl, hq0⟩ | ⟨hq0, rfl⟩
        all_goals
          have hwk := wakes wr
          go_wp2_with (first | (go_at_call 12; refine (left_nil _).mono ?_; rintro e w' ⟨rfl, rfl⟩) | (go_at_call 14; refine (next_nil _).mono ?_; rintro e w' ⟨rfl, rfl⟩) | (go_at_call 16; refine (below_nil _ _).mono ?_; rintro e w' ⟨rfl, rfl⟩) | (go_at_call 21; refine (copy_nil _).mono ?_; rintro e w' ⟨rfl, rfl⟩) | (go_at_call 8; refine hwk.mono ?_; rintro e w2 ⟨rfl, hb2⟩))
          go_ret
          exact ⟨rfl, below_trans hb hb2⟩
theorem drawNil_walk (w : World) (A : Option Addr) (m c : Nat) (l : List Int) (n : Int) (hr : Rd w 1 A m c (l.map (Value.int .u32))) (hw : ∀ x ∈ l, (Lit.int .u32 x).wf = true) (hc : c * 4 ≤ 140737488351232) (hn0 : -9223372036854775808 ≤ n) (hn1 : n ≤ 9223372036854775807) :
    Calls Try.prog 7 #[.slice A m c, .int .i64 n] w (Tells w (.bool true)) := by
  refine drawNil_core w A m c n (rowN n) rfl (min n 4096) rfl ?_
  unfold rowN
  split
  · right; omega
  · split
    · left; omega
    · left; omega
end Go.Proofs.Ytbcpnjgmbdhdkaa
