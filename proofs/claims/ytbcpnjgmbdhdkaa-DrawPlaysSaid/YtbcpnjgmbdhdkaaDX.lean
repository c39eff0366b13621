/- The document's source of draws: Add, New, Copy, Shuffle; the program's Copy. -/
import Derived.Test.YtbcpnjgmbdhdkaaDV
namespace Go.Proofs.Ytbcpnjgmbdhdkaa
open Go.RowKit Go.HL
open Go.ChangeShapes (block_add)
set_option linter.unusedVariables false
set_option linter.unusedSimpArgs false

theorem RSrc.mod {S : Nat → Prop} {w w1 : World} {g : Nat} {ob : Option Nat} {l : List Int} {last : Int} (h : RSrc w g ob l last) (hm : Mod S w w1) (h1 : ¬ S g) (h2 : ∀ b, ob = some b → ¬ S b) : RSrc w1 g ob l last := by
  obtain ⟨A, n, c, hh, ht, ha, hne⟩ := h
  exact ⟨A, n, c, by rw [hm.block g (Array.getElem?_eq_some_iff.1 hh).1 h1]; exact hh, ht.mod hm (fun a e => h2 a.block (by rw [← ha, e]; rfl)), ha, hne⟩
/-- What the document's Add leaves. -/
def RAdds (w : World) (g : Nat) (ob : Option Nat) (l : List Int) (last : Int) (l' : List Int) (e : Ending) (w' : World) : Prop :=
  e = .returned (.tuple #[]) ∧ ∃ ob', RSrc w' g ob' (l ++ l'.take (4096 - l.length)) last ∧ Mod (fun k => k = g ∨ ob = some k) w w' ∧ (ob' = ob ∨ ∃ k, ob' = some k ∧ w.heap.size ≤ k)
set_option maxHeartbeats 4000000 in
theorem radd_ (w : World) (g : Nat) (ob : Option Nat) (l : List Int) (last : Int) (hl4 : l.length ≤ 4096) (hs : RSrc w g ob l last) (A' : Option Addr) (m c' : Nat) (l' : List Int) (hr' : Rd w 1 A' m c' (us l')) (hm : m ≤ 140737488355328) (hsep : 0 < m → ∀ a, A' = some a → a.block ≠ g ∧ ob ≠ some a.block) :
    Calls Try.prog 20 #[.pointer (some ⟨g, 0, none⟩), .slice A' m c'] w (RAdds w g ob l last l') := by
  have hl' : l'.length = m := by have := hr'.len; rw [us_length] at this; omega
  have hgw := hs.lt
  go_enter Try.func20, Try.ntmps20
  go_wp2
  go_loopw [4] (fun i wr => ∃ (k : Nat) (ob1 : Option Nat), k ≤ m ∧ l.length + k ≤ 4096 ∧ i = .int .i64 k ∧ RSrc wr g ob1 (l ++ l'.take k) last ∧ Mod (fun k => k = g ∨ ob = some k) w wr ∧ (ob1 = ob ∨ ∃ q, ob1 = some q ∧ w.heap.size ≤ q)) (fun i _ => m - (intOf i).toNat)
  case atStart => exact ⟨0, ob, Nat.zero_le _, hl4, rfl, by simpa using hs, Mod.refl _ _, .inl rfl⟩
  case round =>
    obtain ⟨k, ob1, hk, hk4, rfl, hs1, hmod, hob⟩ := hrel
    by_cases hlt : k < m
    · obtain ⟨ad, rfl⟩ : ∃ a, A' = some a := by
        cases A' with
        | none => have := (hr'.nil_ rfl).1; omega
        | some a => exact ⟨a, rfl⟩
      have hi1 : (k : Int) < (m : Int) := by omega
      have hi0 : (0 : Int) ≤ (k : Int) := by omega
      obtain ⟨A, n, c, hh, ht, ha, hne⟩ := hs1
      have c0 := cell_two0 hh
      have f0 := free_row hh 0
      have hn : l.length + k = n := by
        have := ht.rd.len
        rw [us_length, List.length_append, List.length_take, Nat.min_eq_left (by omega), Nat.mul_one] at this
        exact this
      by_cases hfull : l.length + k < 4096
      · have hn4 : (n : Int) < 4096 := by omega
        have hg2 := hgw
        have hsp := hsep (by omega) ad rfl
        have hrw : Rd wr 1 (some ad) m c' (us l') := hr'.mod hmod (fun a e hS => by cases e; rcases hS with h | h; exact hsp.1 h; exact hsp.2 h)
        have cx := hrw.usAt k hlt
        obtain ⟨x, hx⟩ : ∃ x, l'.getD k 0 = x := ⟨_, rfl⟩
        rw [hx] at cx
        have htk : l ++ l'.take (k + 1) = l ++ l'.take k ++ [x] := by rw [take_snocZ l' k (by omega), hx, List.append_assoc]
        have hus : us (l ++ l'.take k) ++ [.int .u32 x] = us (l ++ l'.take (k + 1)) := by rw [htk, us_append (l ++ l'.take k) [x]]; rfl
        have hgbl : g < wr.heap.size := (Array.getElem?_eq_some_iff.1 hh).1
        have ht2 : Tail (wr.drew.alloc (.cells #[.int .u32 x] 26)) 26 A n c (us (l ++ l'.take k)) := (ht.grown (row := none) (w1 := wr.drew) ⟨rfl, rfl, rfl, Nat.le_refl _, fun _ _ _ => rfl⟩ (by simp)).grown (row := none) (World.grownBy_alloc _ _ _) (by simp)
        have hr2 : Rd (wr.drew.alloc (.cells #[.int .u32 x] 26)) 1 (some ⟨wr.heap.size, 0, none⟩) 1 1 [.int .u32 x] := Rd.lit wr.drew #[.int .u32 x] 26
        have fin : ∀ A1 c1 (w1 : World), Tail w1 26 A1 (n + 1) c1 (us (l ++ l'.take k) ++ [.int .u32 x]) → (wr.drew.alloc (.cells #[.int .u32 x] 26)).grownBy w1 (A.map (·.block)) → (∀ b, A1 = some b → some b.block = A.map (·.block) ∨ (wr.drew.alloc (.cells #[.int .u32 x] 26)).heap.size ≤ b.block) →
            w1.cell? ⟨g, 0, none⟩ = some (.slice A n c) ∧ w1.frozen? ⟨g, 0, none⟩ = false ∧ ∃ ob2, RSrc (w1.setCell ⟨g, 0, none⟩ (.slice A1 (n + 1) c1)) g ob2 (l ++ l'.take (k + 1)) last ∧ Mod (fun k => k = g ∨ ob = some k) w (w1.setCell ⟨g, 0, none⟩ (.slice A1 (n + 1) c1)) ∧ (ob2 = ob ∨ ∃ q, ob2 = some q ∧ w.heap.size ≤ q) := by
          intro A1 c1 w1 ht1 hg1 hb1
          rw [ha] at hg1 hb1
          have hhw : (wr.drew.alloc (.cells #[.int .u32 x] 26)).heap[g]? = some (.cells #[.slice A n c, .int .u32 last] 49 (0, 0)) := by rw [Below.heap_alloc wr.drew _ _ (show g < wr.drew.heap.size from hgbl)]; exact hh
          have hh1 : w1.heap[g]? = some (.cells #[.slice A n c, .int .u32 last] 49 (0, 0)) := by
            rw [hg1.block g (Array.getElem?_eq_some_iff.1 hhw).1 (fun e => hne e.symm)]
            exact hhw
          have hz1 : (wr.drew.alloc (.cells #[.int .u32 x] 26)).heap.size = wr.heap.size + 1 := by rw [World.size_alloc]; rfl
          have hA1g : ∀ a, A1 = some a → a.block ≠ g := fun a e h => by
            rcases hb1 a e with h1 | h1
            · exact hne (by rw [← h1, h])
            · omega
          refine ⟨cell_two0 hh1, free_row hh1 0, A1.map (·.block), ⟨A1, n + 1, c1, heap_set0 hh1, ?_, rfl, ?_⟩, ?_, ?_⟩
          · rw [hus] at ht1
            exact ht1.grown (grownBy_set w1 g 0 _) (fun a e h => hA1g a e (by simpa using h))
          · intro h
            obtain ⟨a, e, h2⟩ := Option.map_eq_some_iff.1 h
            exact hA1g a e h2
          · have hm1 : Mod (fun k => k = g ∨ ob = some k) w (wr.drew.alloc (.cells #[.int .u32 x] 26)) := hmod.grown (row := none) (World.grownBy.trans (⟨rfl, rfl, rfl, Nat.le_refl _, fun _ _ _ => rfl⟩ : wr.grownBy wr.drew none) (World.grownBy_alloc _ _ _)) (fun q hq => by cases hq)
            refine (hm1.grown hg1 (fun q hq => ?_)).grown (grownBy_set w1 g 0 _) (fun q hq => .inl (.inl (by simpa using hq.symm)))
            rcases hob with h | ⟨q', h, h2⟩
            · exact .inl (.inr (by rw [← h, hq]))
            · rw [h] at hq
              cases hq
              exact .inr h2
          · cases hA : A1 with
            | none =>
              exfalso
              subst hA
              have := (ht1.rd.nil_ rfl).1
              omega
            | some a =>
              rcases hb1 a hA with h | h
              · rw [← h] at hob
                exact hob
              · exact .inr ⟨a.block, rfl, by have := hmod.size; omega⟩
        have HN := Lib.hid hn
        have HA := Lib.hid ha
        have HOB := Lib.hid hob
        clear hn ha hob hx htk hus
        go_wp2
        go_region_law (refine step_tail1 _ rfl _ _ 25 26 (.int .u32 0) 4 rfl Try.underlying25 info_u32 rfl A n c _ (.int .u32 x) rfl ht2 rfl ⟨wr.heap.size, 0, none⟩ 1 rfl hr2 (by unfold maxLen; omega) (by omega) ?_; intro A1 c1 w1 ht1 hg1 hb1; obtain ⟨hc1', hf1', ob2, hs2, hm2, ho2⟩ := fin A1 c1 w1 ht1 hg1 hb1; clear ht1 hg1 hb1 fin)
        all_goals
          go_wp2
          go_roundw
          case rel => exact ⟨k + 1, ob2, hlt, by omega, by go_num, hs2, hm2, ho2⟩
          case measure => simp [intOf]; omega
      · have hn4 : ¬ (n : Int) < 4096 := by omega
        have hkk : k = 4096 - l.length := by omega
        have hs2 : RSrc wr g ob1 (l ++ l'.take (4096 - l.length)) last := by rw [← hkk]; exact ⟨A, n, c, hh, ht, ha, hne⟩
        clear hkk ht ha hh hn hr' hs hfull
        go_wp2
        go_end0
        exact ⟨rfl, ob1, hs2, hmod, hob⟩
    · obtain rfl : k = m := by omega
      have hge : ¬ (k : Int) < (k : Int) := by omega
      have hkk : l'.take k = l'.take (4096 - l.length) := by rw [List.take_of_length_le (by omega), List.take_of_length_le (by omega)]
      have hs2 : RSrc wr g ob1 (l ++ l'.take (4096 - l.length)) last := by rw [← hkk]; exact hs1
      obtain ⟨A, n, c, hh, ht, ha, hne⟩ := hs1
      have c0 := cell_two0 hh
      clear hkk ht ha hh hr' hs hl'
      go_wp2
      go_end0
      exact ⟨rfl, ob1, hs2, hmod, hob⟩
/-- What the document's New leaves. -/
def RNews (w : World) (l : List Int) (e : Ending) (w' : World) : Prop :=
  ∃ g ob, e = .returned (.pointer (some ⟨g, 0, none⟩)) ∧ w.heap.size ≤ g ∧ RSrc w' g ob (l.take 4096) 0 ∧ (∀ b, ob = some b → w.heap.size ≤ b) ∧ Below w.heap.size w w'
theorem rnew_ (w : World) (A' : Option Addr) (m c' : Nat) (l' : List Int) (hr' : Rd w 1 A' m c' (us l')) (hm : m ≤ 140737488355328) (hA : 0 < m → ∀ a, A' = some a → a.block < w.heap.size) :
    Calls Try.prog 13 #[.slice A' m c'] w (RNews w l') := by
  have hs : RSrc (w.alloc (.cells #[.slice none 0 0, .int .u32 0] 49)) w.heap.size none [] 0 := ⟨none, 0, 0, heap_alloc_new w _, Tail.nil _ _, rfl, by simp⟩
  have ha := radd_ _ _ _ [] 0 (by simp) hs A' m c' l' (hr'.alloc _) hm (fun h0 a e => ⟨by have := hA h0 a e; omega, by simp⟩)
  go_enter Try.func13, Try.ntmps13
  go_wp2_with (go_at_call 20; refine ha.mono ?_; rintro e w1 ⟨rfl, ob1, hs1, hm1, ho1⟩)
  go_ret
  rw [List.nil_append] at hs1
  refine ⟨_, ob1, rfl, Nat.le_refl _, hs1, fun b hb => ?_, Mod.belowAll (below_new w _) hm1 (by simp) (fun k hk => ?_)⟩
  · rcases ho1 with h | ⟨k, h, h2⟩
    · rw [h] at hb; cases hb
    · rw [h] at hb; cases hb; simp at h2; omega
  · rcases hk with h | h
    · omega
    · cases h
end Go.Proofs.Ytbcpnjgmbdhdkaa
