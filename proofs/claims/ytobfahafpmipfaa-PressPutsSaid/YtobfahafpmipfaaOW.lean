/- octet's Take of one and of two bytes once more, for rows of any length that append can make. -/
import Derived.Test.YtobfahafpmipfaaOct
namespace Go.Proofs.Ytobfahafpmipfaa
open Go.RowKit Go.HL
set_option linter.unusedVariables false
set_option linter.unusedSimpArgs false
theorem take8w_arg (A : Option Addr) (n c : Nat) (i : Int) (hn : n ≤ c) (hc : n ≤ 281474976710656) (hi : i < 0 ∨ (n : Int) < i) (w : World) :
    Calls Try.prog 21 #[.slice A n c, .int .i64 i] w fun e w' => e = .returned (.tuple #[.int .u8 0, .int .i64 0, .int .i64 1]) ∧ w = w' := by
  by_cases h0 : i < 0
  · go_enter Try.func21, Try.ntmps21
    go_wp2_with (go_at_call 28; refine (size8 _).mono ?_; rintro e w' ⟨rfl, rfl⟩)
    go_ret3
    exact ⟨rfl, rfl⟩
  · have h1 : (n : Int) < i := by omega
    go_enter Try.func21, Try.ntmps21
    go_wp2_with (go_at_call 28; refine (size8 _).mono ?_; rintro e w' ⟨rfl, rfl⟩)
    go_ret3
    exact ⟨rfl, rfl⟩
theorem take8w_short (A : Option Addr) (n c : Nat) (i : Int) (hn : n ≤ c) (hc : n ≤ 281474976710656) (h0 : 0 ≤ i) (h1 : i ≤ n) (h2 : (n : Int) < i + 1) (w : World) :
    Calls Try.prog 21 #[.slice A n c, .int .i64 i] w fun e w' => e = .returned (.tuple #[.int .u8 0, .int .i64 0, .int .i64 6]) ∧ w = w' := by
  go_enter Try.func21, Try.ntmps21
  go_wp2_with (go_at_call 28; refine (size8 _).mono ?_; rintro e w' ⟨rfl, rfl⟩)
  go_ret3
  exact ⟨rfl, rfl⟩
set_option maxHeartbeats 800000 in
theorem take8w_okN (ad : Addr) (n c : Nat) (i : Nat) (hc : n ≤ 281474976710656) (h1 : i + 1 ≤ n) (w : World) (l : List UInt8) (hr : Rd w 1 (some ad) n c (bs l)) :
    Calls Try.prog 21 #[.slice (some ad) n c, .int .i64 i] w fun e w' => e = .returned (.tuple #[.int .u8 (val ((l.drop i).take 1)), .int .i64 (i + 1), .int .i64 0]) ∧ w = w' := by
  have hn := hr.le
  have hbl := hr.blen
  have c0 := hr.at i (by omega)
  obtain ⟨b0, hb0⟩ : ∃ b : Int, ((l.getD i 0).toNat : Int) = b := ⟨_, rfl⟩
  have p0 : 0 ≤ b0 := by omega
  have q0 : b0 < 256 := by have := (l.getD i 0).toNat_lt; omega
  rw [hb0] at c0
  have hv : val ((l.drop i).take 1) = b0 := by
    rw [val_take1 l i (by omega), ← hb0]
  rw [hv]
  clear hb0
  clear hv
  have o0 : bits .or .u32 0 b0 = b0 := or_zero _ (by omega) (by omega)
  go_enter Try.func21, Try.ntmps21
  go_wp2_with (go_at_call 28; refine (size8 _).mono ?_; rintro e w' ⟨rfl, rfl⟩)
  refine wp_loop_rounds 2 ?_
  rw [rounds_succ]
  go_wp2
  rw [rounds_succ]
  go_wp2
  go_ret3
  exact ⟨rfl, rfl⟩
theorem take16w_arg (A : Option Addr) (n c : Nat) (i : Int) (hn : n ≤ c) (hc : n ≤ 281474976710656) (hi : i < 0 ∨ (n : Int) < i) (w : World) :
    Calls Try.prog 22 #[.slice A n c, .int .i64 i] w fun e w' => e = .returned (.tuple #[.int .u16 0, .int .i64 0, .int .i64 1]) ∧ w = w' := by
  by_cases h0 : i < 0
  · go_enter Try.func22, Try.ntmps22
    go_wp2_with (go_at_call 29; refine (size16 _).mono ?_; rintro e w' ⟨rfl, rfl⟩)
    go_ret3
    exact ⟨rfl, rfl⟩
  · have h1 : (n : Int) < i := by omega
    go_enter Try.func22, Try.ntmps22
    go_wp2_with (go_at_call 29; refine (size16 _).mono ?_; rintro e w' ⟨rfl, rfl⟩)
    go_ret3
    exact ⟨rfl, rfl⟩
theorem take16w_short (A : Option Addr) (n c : Nat) (i : Int) (hn : n ≤ c) (hc : n ≤ 281474976710656) (h0 : 0 ≤ i) (h1 : i ≤ n) (h2 : (n : Int) < i + 2) (w : World) :
    Calls Try.prog 22 #[.slice A n c, .int .i64 i] w fun e w' => e = .returned (.tuple #[.int .u16 0, .int .i64 0, .int .i64 6]) ∧ w = w' := by
  go_enter Try.func22, Try.ntmps22
  go_wp2_with (go_at_call 29; refine (size16 _).mono ?_; rintro e w' ⟨rfl, rfl⟩)
  go_ret3
  exact ⟨rfl, rfl⟩
set_option maxHeartbeats 800000 in
theorem take16w_okN (ad : Addr) (n c : Nat) (i : Nat) (hc : n ≤ 281474976710656) (h1 : i + 2 ≤ n) (w : World) (l : List UInt8) (hr : Rd w 1 (some ad) n c (bs l)) :
    Calls Try.prog 22 #[.slice (some ad) n c, .int .i64 i] w fun e w' => e = .returned (.tuple #[.int .u16 (val ((l.drop i).take 2)), .int .i64 (i + 2), .int .i64 0]) ∧ w = w' := by
  have hn := hr.le
  have hbl := hr.blen
  have c0 := hr.at i (by omega)
  have c1 := hr.at' i 0 (by omega)
  obtain ⟨b0, hb0⟩ : ∃ b : Int, ((l.getD i 0).toNat : Int) = b := ⟨_, rfl⟩
  have p0 : 0 ≤ b0 := by omega
  have q0 : b0 < 256 := by have := (l.getD i 0).toNat_lt; omega
  rw [hb0] at c0
  obtain ⟨b1, hb1⟩ : ∃ b : Int, ((l.getD (i + (0 + 1)) 0).toNat : Int) = b := ⟨_, rfl⟩
  have p1 : 0 ≤ b1 := by omega
  have q1 : b1 < 256 := by have := (l.getD (i + (0 + 1)) 0).toNat_lt; omega
  rw [hb1] at c1
  have hv : val ((l.drop i).take 2) = (b0) * 256 + b1 := by
    rw [val_take2 l i (by omega), ← hb0, ← hb1]
  rw [hv]
  clear hb0
  clear hb1
  clear hv
  have o1 : bits .or .u32 ((b0) * 256) b1 = (b0) * 256 + b1 := or_byte _ _ (by omega) (by omega) (by omega) (by omega)
  have o0 : bits .or .u32 0 b0 = b0 := or_zero _ (by omega) (by omega)
  go_enter Try.func22, Try.ntmps22
  go_wp2_with (go_at_call 29; refine (size16 _).mono ?_; rintro e w' ⟨rfl, rfl⟩)
  refine wp_loop_rounds 3 ?_
  rw [rounds_succ]
  go_wp2
  rw [rounds_succ]
  go_wp2
  rw [rounds_succ]
  go_wp2
  go_ret3
  exact ⟨rfl, rfl⟩
theorem take8w_ok (A : Option Addr) (n c : Nat) (i : Int) (hc : n ≤ 281474976710656) (h0 : 0 ≤ i) (h1 : i + 1 ≤ n) (w : World) (l : List UInt8) (hr : Rd w 1 A n c (bs l)) :
    Calls Try.prog 21 #[.slice A n c, .int .i64 i] w fun e w' => e = .returned (.tuple #[.int .u8 (val ((l.drop i.toNat).take 1)), .int .i64 (i + 1), .int .i64 0]) ∧ w = w' := by
  cases A with
  | none => have := (hr.nil_ rfl).1; omega
  | some ad =>
    obtain ⟨j, rfl⟩ := Int.eq_ofNat_of_zero_le h0
    rw [Int.toNat_natCast]
    exact take8w_okN ad n c j hc (by omega) w l hr
theorem take16w_ok (A : Option Addr) (n c : Nat) (i : Int) (hc : n ≤ 281474976710656) (h0 : 0 ≤ i) (h1 : i + 2 ≤ n) (w : World) (l : List UInt8) (hr : Rd w 1 A n c (bs l)) :
    Calls Try.prog 22 #[.slice A n c, .int .i64 i] w fun e w' => e = .returned (.tuple #[.int .u16 (val ((l.drop i.toNat).take 2)), .int .i64 (i + 2), .int .i64 0]) ∧ w = w' := by
  cases A with
  | none => have := (hr.nil_ rfl).1; omega
  | some ad =>
    obtain ⟨j, rfl⟩ := Int.eq_ofNat_of_zero_le h0
    rw [Int.toNat_natCast]
    exact take16w_okN ad n c j hc (by omega) w l hr
end Go.Proofs.Ytobfahafpmipfaa
