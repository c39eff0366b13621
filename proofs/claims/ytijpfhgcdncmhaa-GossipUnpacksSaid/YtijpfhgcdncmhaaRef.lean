/- What the reference of layer 2 does, said of cells. Contracts, by walks. -/
import Derived.Test.YtijpfhgcdncmhaaOct
namespace Go.Proofs.Ytijpfhgcdncmhaa
open Go.RowKit Go.HL
set_option linter.unusedVariables false
set_option linter.unusedSimpArgs false

/-- ref.Put: a number's last k bytes behind. -/
theorem rput (A : Option Addr) (n c : Nat) (v : Int) (k : Nat) (hk : k ≤ 4) (hv0 : 0 ≤ v) (hv1 : v < 4294967296) (hn : n ≤ 140737488355200) (w : World) (cs : List Value) (hr : Rd w 1 A n c cs) (h1 : ∀ u ∈ cs, u.oneCell' = true) :
    Calls Try.prog 20 #[.slice A n c, .int .u32 v, .int .i64 k] w (Puts w cs n k v) := by
  go_enter Try.func20, Try.ntmps20
  go_wp2_with (at_builtin; refine wpList_app (w0 := w) w w.heap.size rfl _ _ 27 27 5 (.int .u8 0) 1 1 rfl Try.underlying27 info_u8 rfl (by omega) (by omega) (.slice none 0 0) 0 [] rfl (.own (World.ownsRow_nil _ _ _ _)) _ n cs rfl (.slice hr h1) (Below.refl _ _) (Nat.le_refl _) (by omega) ?_; intro v1 w1 _ ho1 hb1 hg1)
  have ho := ho1 (.inr (World.ownsRow_nil _ _ _ _))
  clear ho1 hg1
  go_loopw [7, 8] (fun sv i wr => ∃ j : Nat, j ≤ k ∧ i = .int .i64 ((j : Int) - 1) ∧ wr.ownsRow w.heap.size 5 1 sv (n + (k - j)) (cs ++ bs ((be k v).take (k - j))) ∧ Below w.heap.size w wr) (fun _ i _ => (intOf i + 1).toNat)
  case atStart =>
    refine ⟨k, Nat.le_refl _, rfl, ?_, hb1⟩
    simpa [bs] using ho
  case round =>
    obtain ⟨j, hj, rfl, ho2, hb2⟩ := hrel
    clear ho hb1
    have hz := hb2.size
    by_cases hj0 : j = 0
    · subst hj0
      go_wp2
      go_ret
      refine ⟨_, rfl, ?_, hb2⟩
      have : (be k v).take (k - 0) = be k v := List.take_of_length_le (by rw [be_length]; omega)
      rw [this] at ho2
      exact ho2
    · obtain ⟨i, rfl⟩ : ∃ i, j = i + 1 := ⟨j - 1, by omega⟩
      have hi : ((i + 1 : Nat) : Int) - 1 = (i : Int) := by omega
      rw [hi]
      clear hi
      have h8 : IntKind.i64.wrap (8 * (i : Int)) = 8 * (i : Int) := by rw [IntKind.wrap_i64]; omega
      have hi3 : (i : Int) < 4 := by omega
      go_wp2_with (at_builtin; refine wpList_app1 (w0 := w) w.heap.size rfl _ _ 27 5 (.int .u8 0) 1 rfl Try.underlying27 info_u8 rfl (by omega) u7 (n + (k - (i + 1))) _ _ rfl (.own ho2) rfl rfl hb2 hz (by omega) ?_; intro v3 w3 ho3 hb3 hg3)
      clear ho2
      go_roundw
      case rel =>
        refine ⟨i, by omega, by go_num, ?_, hb3⟩
        have hb : B (byteAt v i) = .int .u8 (v / 2 ^ (8 * i) % 256) := by
          rw [B, byteAt_toNat, Int.pow_mul]; rfl
        have ht : (be k v).take (k - i) = (be k v).take (k - (i + 1)) ++ [byteAt v i] := be_take k v i (by omega)
        rw [ht, bs_append, ← List.append_assoc, show n + (k - i) = n + (k - (i + 1)) + 1 by omega]
        rw [← hb] at ho3
        exact ho3
      case measure => simp [intOf]

theorem rtake_arg (A : Option Addr) (n c : Nat) (i : Int) (k : Nat) (hn : n ≤ c) (hc : n ≤ 140737488355328) (hi : i < 0 ∨ (n : Int) < i) (w : World) :
    Calls Try.prog 26 #[.slice A n c, .int .i64 i, .int .i64 k] w fun e w' => e = .returned (.tuple #[.int .u32 0, .int .i64 0, .int .i64 1]) ∧ w = w' := by
  by_cases h0 : i < 0
  · go_enter Try.func26, Try.ntmps26
    go_wp2
    go_ret3
    exact ⟨rfl, rfl⟩
  · have h1 : (n : Int) < i := by omega
    go_enter Try.func26, Try.ntmps26
    go_wp2
    go_ret3
    exact ⟨rfl, rfl⟩
theorem rtake_short (A : Option Addr) (n c : Nat) (i : Int) (k : Nat) (hk : k ≤ 4) (hn : n ≤ c) (hc : n ≤ 140737488355328) (h0 : 0 ≤ i) (h1 : i ≤ n) (h2 : (n : Int) < i + k) (w : World) :
    Calls Try.prog 26 #[.slice A n c, .int .i64 i, .int .i64 k] w fun e w' => e = .returned (.tuple #[.int .u32 0, .int .i64 0, .int .i64 6]) ∧ w = w' := by
  go_enter Try.func26, Try.ntmps26
  go_wp2
  go_ret3
  exact ⟨rfl, rfl⟩
theorem rtake_ok (ad : Addr) (n c : Nat) (i k : Nat) (hk : k ≤ 4) (hc : n ≤ 140737488355328) (h1 : i + k ≤ n) (w : World) (l : List UInt8) (hr : Rd w 1 (some ad) n c (bs l)) :
    Calls Try.prog 26 #[.slice (some ad) n c, .int .i64 i, .int .i64 k] w fun e w' => e = .returned (.tuple #[.int .u32 (val ((l.drop i).take k)), .int .i64 ((i : Int) + k), .int .i64 0]) ∧ w = w' := by
  have hn := hr.le
  have hl := hr.blen
  go_enter Try.func26, Try.ntmps26
  go_wp2
  go_loop [9, 10] (fun v j => ∃ m : Nat, m ≤ k ∧ j = .int .i64 m ∧ v = .int .u32 (val ((l.drop i).take m))) (fun _ j => k - (intOf j).toNat)
  case atStart => exact ⟨0, Nat.zero_le _, rfl, by simp [val]⟩
  case round =>
    obtain ⟨m, hm, rfl, rfl⟩ := hrel
    by_cases hlt : m < k
    · have hcell := hr.at (i + m) (by omega)
      have hs : val ((l.drop i).take (m + 1)) = val ((l.drop i).take m) * 256 + ((l.getD (i + m) 0).toNat : Int) := by rw [take_one l i m (by omega), val_snoc]
      have hb := (l.getD (i + m) 0).toNat_lt
      have hv0 := val_nonneg ((l.drop i).take m)
      have hv1 := val_lt ((l.drop i).take m)
      have hp : (256 : Int) ^ ((l.drop i).take m).length ≤ 16777216 := by
        have : ((l.drop i).take m).length ≤ 3 := by simp; omega
        generalize ((l.drop i).take m).length = q at this
        match q, this with
        | 0, _ => decide
        | 1, _ => decide
        | 2, _ => decide
        | 3, _ => decide
      have hx : val ((l.drop i).take m) < 16777216 := by omega
      have HS := Lib.hid hs
      clear hs hv1 hp
      generalize hy : val ((l.drop i).take m) = y at *
      generalize hz : l.getD (i + m) 0 = z at *
      clear hy hz
      go_wp2
      go_round
      case rel => exact ⟨m + 1, by omega, by go_num, by rw [HS.out]⟩
      case measure => simp [intOf]; omega
    · obtain rfl : m = k := by omega
      go_wp2
      go_ret3
      exact ⟨rfl, rfl⟩
theorem rtake (A : Option Addr) (n c : Nat) (i : Int) (k : Nat) (hk : k ≤ 4) (hk0 : 0 < k) (hc : n ≤ 140737488355328) (w : World) (l : List UInt8) (hr : Rd w 1 A n c (bs l)) :
    Calls Try.prog 26 #[.slice A n c, .int .i64 i, .int .i64 k] w fun e w' => e = .returned (.tuple #[.int .u32 (takeR k l i).1, .int .i64 (takeR k l i).2.1, .int .i64 (takeR k l i).2.2]) ∧ w = w' := by
  have hl := hr.blen
  have hn := hr.le
  unfold takeR
  by_cases h : i < 0 ∨ (l.length : Int) < i
  · rw [if_pos h]
    exact rtake_arg A n c i k hn hc (by omega) w
  · rw [if_neg h]
    by_cases h2 : (l.length : Int) - i < k
    · rw [if_pos h2]
      exact rtake_short A n c i k hk hn hc (by omega) (by omega) (by omega) w
    · rw [if_neg h2]
      cases A with
      | none => have := (hr.nil_ rfl).1; omega
      | some ad =>
        obtain ⟨j, rfl⟩ := Int.eq_ofNat_of_zero_le (show 0 ≤ i by omega)
        rw [Int.toNat_natCast]
        exact rtake_ok ad n c j k hk hc (by omega) w l hr

end Go.Proofs.Ytijpfhgcdncmhaa
