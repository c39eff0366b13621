/- What octet's functions do, said of cells: Put, Take, PutText, TakeText, Later, Step. Contracts, by walks. -/
import Derived.Test.YtmifnmnpihikgaaRows
import Derived.Test.YtmifnmnpihikgaaHL
namespace Go.Proofs.Ytmifnmnpihikgaa
open Go.RowKit Go.HL
set_option linter.unusedVariables false
set_option linter.unusedSimpArgs false

theorem info_u8 : (Try.prog.info? 5).map (fun i => (i.zero, i.size, i.bytes)) = some (some (.int .u8 0), 1, 1) := by kernel_rfl

set_option maxHeartbeats 400000 in
theorem size16 (w : World) :
    Calls Try.prog 29 #[] w fun e w' => e = .returned (.int .i64 2) ∧ w = w' := by
  go_enter Try.func29, Try.ntmps29
  go_wp2
  refine wp_loop_rounds 2 ?_
  rw [rounds_succ]
  go_wp2
  rw [rounds_succ]
  go_wp2
  go_ret
  exact ⟨rfl, rfl⟩

/-- What a Put leaves: a row of the call's own. -/
def Puts (w : World) (cs : List Value) (n : Nat) (k : Nat) (v : Int) (e : Ending) (w' : World) : Prop :=
  ∃ sv, e = .returned sv ∧ w'.ownsRow w.heap.size 5 1 sv (n + k) (cs ++ bs (be k v)) ∧ Below w.heap.size w w'

set_option maxHeartbeats 400000 in
theorem put16 (A : Option Addr) (n c : Nat) (v : Int) (hv0 : 0 ≤ v) (hv1 : v < 65536) (hn : n ≤ 140737488355200) (w : World) (cs : List Value) (hr : Rd w 1 A n c cs) :
    Calls Try.prog 22 #[.slice A n c, .int .u16 v] w (Puts w cs n 2 v) := by
  have hnc := hr.le
  go_enter Try.func22, Try.ntmps22
  go_wp2_with (go_at_call 29; refine (size16 _).mono ?_; rintro e w' ⟨rfl, rfl⟩)
  refine wp_loop_rounds 3 ?_
  rw [rounds_succ]
  have ha := App.full (e := 5) (base := w.heap.size) hr
  go_wp2_with (at_builtin; go_must (refine wpList_app1 (w0 := w) w.heap.size rfl _ _ 26 5 (.int .u8 0) 1 rfl Try.underlying26 info_u8 rfl (by omega) (.slice A n n) n cs _ rfl ha rfl rfl (Below.refl _ _) (Nat.le_refl _) (by omega) ?_); intro v1 w1 ho1 hb1 hg1)
  clear ha
  rw [rounds_succ]
  have hz := hb1.size
  go_wp2_with (at_builtin; go_must (refine wpList_app1 (w0 := w) w.heap.size rfl _ _ 26 5 (.int .u8 0) 1 rfl Try.underlying26 info_u8 rfl (by omega) v1 (n+1) _ _ rfl (.own ho1) rfl rfl hb1 hz (by omega) ?_); intro v2 w2 ho2 hb2 hg2)
  rw [rounds_succ]
  go_wp2
  go_ret
  refine ⟨v2, rfl, ?_, hb2⟩
  have e1 : B (byteAt v 1) = .int .u8 (v / 256) := by rw [B, byteAt_toNat]; congr 1; omega
  have e0 : B (byteAt v 0) = .int .u8 (v % 256) := by rw [B, byteAt_toNat]; congr 1; omega
  simpa [bs, be, e0, e1] using ho2

/-! ### Take -/
theorem take16_arg (A : Option Addr) (n c : Nat) (i : Int) (hn : n ≤ c) (hc : n ≤ 140737488355328) (hi : i < 0 ∨ (n : Int) < i) (w : World) :
    Calls Try.prog 28 #[.slice A n c, .int .i64 i] w fun e w' => e = .returned (.tuple #[.int .u16 0, .int .i64 0, .int .i64 1]) ∧ w = w' := by
  by_cases h0 : i < 0
  · go_enter Try.func28, Try.ntmps28
    go_wp2_with (go_at_call 29; refine (size16 _).mono ?_; rintro e w' ⟨rfl, rfl⟩)
    go_ret3
    exact ⟨rfl, rfl⟩
  · have h1 : (n : Int) < i := by omega
    go_enter Try.func28, Try.ntmps28
    go_wp2_with (go_at_call 29; refine (size16 _).mono ?_; rintro e w' ⟨rfl, rfl⟩)
    go_ret3
    exact ⟨rfl, rfl⟩
theorem take16_short (A : Option Addr) (n c : Nat) (i : Int) (hn : n ≤ c) (hc : n ≤ 140737488355328) (h0 : 0 ≤ i) (h1 : i ≤ n) (h2 : (n : Int) < i + 2) (w : World) :
    Calls Try.prog 28 #[.slice A n c, .int .i64 i] w fun e w' => e = .returned (.tuple #[.int .u16 0, .int .i64 0, .int .i64 6]) ∧ w = w' := by
  go_enter Try.func28, Try.ntmps28
  go_wp2_with (go_at_call 29; refine (size16 _).mono ?_; rintro e w' ⟨rfl, rfl⟩)
  go_ret3
  exact ⟨rfl, rfl⟩
set_option maxHeartbeats 800000 in
theorem take16_okN (ad : Addr) (n c : Nat) (i : Nat) (hc : n ≤ 140737488355328) (h1 : i + 2 ≤ n) (w : World) (l : List UInt8) (hr : Rd w 1 (some ad) n c (bs l)) :
    Calls Try.prog 28 #[.slice (some ad) n c, .int .i64 i] w fun e w' => e = .returned (.tuple #[.int .u16 (val ((l.drop i).take 2)), .int .i64 (i + 2), .int .i64 0]) ∧ w = w' := by
  have hn := hr.le
  have hbl := hr.blen
  have c0 := hr.at i (by omega)
  have c1 := hr.at' i 0 (by omega)
  obtain ⟨b0, hb0⟩ : ∃ b : Int, ((l.getD i 0).toNat : Int) = b := ⟨_, rfl⟩
  have p0 : 0 ≤ b0 := by omega
  have q0 : b0 < 256 := by have := (l.getD i 0).toNat_lt; omega
  rw [hb0] at c0
  obtain ⟨b1, hb1⟩ : ∃ b : Int, ((l.getD (i + (0 + 1)) 0).toNat : Int) = b := ⟨_, rfl⟩
  have p1 : 0 ≤ b1 := by omega
  have q1 : b1 < 256 := by have := (l.getD (i + (0 + 1)) 0).toNat_lt; omega
  rw [hb1] at c1
  have hv : val ((l.drop i).take 2) = (b0) * 256 + b1 := by
    rw [val_take2 l i (by omega), ← hb0, ← hb1]
  rw [hv]
  clear hb0
  clear hb1
  clear hv
  have o1 : bits .or .u32 ((b0) * 256) b1 = (b0) * 256 + b1 := or_byte _ _ (by omega) (by omega) (by omega) (by omega)
  have o0 : bits .or .u32 0 b0 = b0 := or_zero _ (by omega) (by omega)
  go_enter Try.func28, Try.ntmps28
  go_wp2_with (go_at_call 29; refine (size16 _).mono ?_; rintro e w' ⟨rfl, rfl⟩)
  refine wp_loop_rounds 3 ?_
  rw [rounds_succ]
  go_wp2
  rw [rounds_succ]
  go_wp2
  rw [rounds_succ]
  go_wp2
  go_ret3
  exact ⟨rfl, rfl⟩

/-! ### Take, in one -/
theorem take16_ok (A : Option Addr) (n c : Nat) (i : Int) (hc : n ≤ 140737488355328) (h0 : 0 ≤ i) (h1 : i + 2 ≤ n) (w : World) (l : List UInt8) (hr : Rd w 1 A n c (bs l)) :
    Calls Try.prog 28 #[.slice A n c, .int .i64 i] w fun e w' => e = .returned (.tuple #[.int .u16 (val ((l.drop i.toNat).take 2)), .int .i64 (i + 2), .int .i64 0]) ∧ w = w' := by
  cases A with
  | none => have := (hr.nil_ rfl).1; omega
  | some ad =>
    obtain ⟨j, rfl⟩ := Int.eq_ofNat_of_zero_le h0
    rw [Int.toNat_natCast]
    exact take16_okN ad n c j hc (by omega) w l hr
theorem take16 (A : Option Addr) (n c : Nat) (i : Int) (hc : n ≤ 140737488355328) (w : World) (l : List UInt8) (hr : Rd w 1 A n c (bs l)) :
    Calls Try.prog 28 #[.slice A n c, .int .i64 i] w fun e w' => e = .returned (.tuple #[.int .u16 (takeR 2 l i).1, .int .i64 (takeR 2 l i).2.1, .int .i64 (takeR 2 l i).2.2]) ∧ w = w' := by
  have hl := hr.blen
  have hn := hr.le
  unfold takeR
  by_cases h : i < 0 ∨ (l.length : Int) < i
  · rw [if_pos h]
    exact take16_arg A n c i hn hc (by omega) w
  · rw [if_neg h]
    by_cases h2 : (l.length : Int) - i < (2 : Nat)
    · rw [if_pos h2]
      exact take16_short A n c i hn hc (by omega) (by omega) (by omega) w
    · rw [if_neg h2]
      exact take16_ok A n c i hc (by omega) (by omega) w l hr

/-! ### Later, Step -/

/-! ### Short texts -/
end Go.Proofs.Ytmifnmnpihikgaa
