import Derived.Test.YtdjknikkiojfhaaDoorZPB
/- What the reference of layer 2 does, said of cells. Contracts, by walks. -/
namespace Go.Proofs.YtdjknikkiojfhaaDoor
open Go.RowKit Go.HL
set_option linter.unusedVariables false
set_option linter.unusedSimpArgs false

/-- ref.Put: a number's last k bytes behind. -/
theorem rput (A : Option Addr) (n c : Nat) (v : Int) (k : Nat) (hk : k ≤ 4) (hv0 : 0 ≤ v) (hv1 : v < 4294967296) (hn : n ≤ 140737488355200) (w : World) (cs : List Value) (hr : Rd w 1 A n c cs) (h1 : ∀ u ∈ cs, u.oneCell' = true) :
    Calls Tryd.prog 47 #[.slice A n c, .int .u32 v, .int .i64 k] w (Puts w cs n k v) := by
  go_enter Tryd.func47, Tryd.ntmps47
  go_wp2_with (at_builtin; refine wpList_app (w0 := w) w w.heap.size rfl _ _ 27 27 5 (.int .u8 0) 1 1 rfl Tryd.underlying27 info_u8 rfl (by omega) (by omega) (.slice none 0 0) 0 [] rfl (.own (World.ownsRow_nil _ _ _ _)) _ n cs rfl (.slice hr h1) (Below.refl _ _) (Nat.le_refl _) (by omega) ?_; intro v1 w1 _ ho1 hb1 hg1)
  have ho := ho1 (.inr (World.ownsRow_nil _ _ _ _))
  clear ho1 hg1
  go_loopw [7, 8] (fun sv i wr => ∃ j : Nat, j ≤ k ∧ i = .int .i64 ((j : Int) - 1) ∧ wr.ownsRow w.heap.size 5 1 sv (n + (k - j)) (cs ++ bs ((be k v).take (k - j))) ∧ Below w.heap.size w wr) (fun _ i _ => (intOf i + 1).toNat)
  case atStart =>
    refine ⟨k, Nat.le_refl _, rfl, ?_, hb1⟩
    simpa [bs] using ho
  case round =>
    obtain ⟨j, hj, rfl, ho2, hb2⟩ := hrel
    clear ho hb1
    have hz := hb2.size
    by_cases hj0 : j = 0
    · subst hj0
      go_wp2
      go_ret
      refine ⟨_, rfl, ?_, hb2⟩
      have : (be k v).take (k - 0) = be k v := List.take_of_length_le (by rw [be_length]; omega)
      rw [this] at ho2
      exact ho2
    · obtain ⟨i, rfl⟩ : ∃ i, j = i + 1 := ⟨j - 1, by omega⟩
      have hi : ((i + 1 : Nat) : Int) - 1 = (i : Int) := by omega
      rw [hi]
      clear hi
      have h8 : IntKind.i64.wrap (8 * (i : Int)) = 8 * (i : Int) := by rw [IntKind.wrap_i64]; omega
      have hi3 : (i : Int) < 4 := by omega
      go_wp2_with (at_builtin; refine wpList_app1 (w0 := w) w.heap.size rfl _ _ 27 5 (.int .u8 0) 1 rfl Tryd.underlying27 info_u8 rfl (by omega) u7 (n + (k - (i + 1))) _ _ rfl (.own ho2) rfl rfl hb2 hz (by omega) ?_; intro v3 w3 ho3 hb3 hg3)
      clear ho2
      go_roundw
      case rel =>
        refine ⟨i, by omega, by go_num, ?_, hb3⟩
        have hb : B (byteAt v i) = .int .u8 (v / 2 ^ (8 * i) % 256) := by
          rw [B, byteAt_toNat, Int.pow_mul]; rfl
        have ht : (be k v).take (k - i) = (be k v).take (k - (i + 1)) ++ [byteAt v i] := be_take k v i (by omega)
        rw [ht, bs_append, ← List.append_assoc, show n + (k - i) = n + (k - (i + 1)) + 1 by omega]
        rw [← hb] at ho3
        exact ho3
      case measure => simp [intOf]


end Go.Proofs.YtdjknikkiojfhaaDoor
