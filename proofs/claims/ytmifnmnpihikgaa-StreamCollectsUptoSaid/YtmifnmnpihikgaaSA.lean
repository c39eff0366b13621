/- stream: bytes cloned, put one behind the other, framed. -/
import Derived.Test.YtmifnmnpihikgaaOct
import Derived.Test.YtmifnmnpihikgaaRG
import Derived.Test.YtmifnmnpihikgaaHC
import Derived.Lib.AppendZeros
import Derived.WalkSpells
namespace Go.Proofs.Ytmifnmnpihikgaa
open Go.RowKit Go.HL
set_option linter.unusedVariables false
set_option linter.unusedSimpArgs false

def Tells (w : World) (v : Value) (e : Ending) (w' : World) : Prop := e = .returned v ∧ Below w.heap.size w w'
/-- A call's own bytes. -/
def Gives (w : World) (l : List UInt8) (e : Ending) (w' : World) : Prop := ∃ v, e = .returned v ∧ w'.ownsRow w.heap.size 5 1 v l.length (bs l) ∧ Below w.heap.size w w'
theorem clone_ (w : World) (A : Option Addr) (n c : Nat) (l : List UInt8) (hr : Rd w 1 A n c (bs l)) (hn : n ≤ 140737488355328) :
    Calls Try.prog 21 #[.slice A n c] w (Gives w l) := by
  have hl := hr.blen
  cases A with
  | none =>
    obtain ⟨rfl, rfl⟩ := hr.nil_ rfl
    obtain rfl : l = [] := List.eq_nil_of_length_eq_zero hl
    have he := fun W => Lib.run_eql_slice_nil (P := Try.prog) W 26 5 none 0 0 0 0 Try.underlying26
    go_enter Try.func21, Try.ntmps21
    go_wp2
    go_ret
    exact ⟨_, rfl, World.ownsRow_nil _ _ _ _, Below.refl _ _⟩
  | some ad =>
    have he := fun W => Lib.run_eql_slice_nil (P := Try.prog) W 26 5 (some ad) n c 0 0 Try.underlying26
    have hb0 := below_new w (.cells #[] 5)
    have hr0 := hr.alloc (.cells #[] 5)
    go_enter Try.func21, Try.ntmps21
    go_wp2_with (first | (at_builtin; refine wpList_app (w0 := w) _ w.heap.size rfl (.tmp 5) (.tmp 6) 26 26 5 (.int .u8 0) 1 1 rfl Try.underlying26 info_u8 rfl (by omega) (by omega) (.slice (some ⟨w.heap.size, 0, none⟩) 0 0) 0 [] rfl (.own ⟨rfl, .inr ⟨w.heap.size, 0, #[], rfl, Nat.le_refl _, heap_alloc_new w _, Nat.le_refl _, by decide, rfl, rfl⟩⟩) _ n (bs l) rfl (.slice hr0 (bs_one l)) hb0 (by simp) (by omega) ?_; intro v1 w1 _ ho1 hb1 hg1; have ho := ho1 (.inr ⟨rfl, .inr ⟨w.heap.size, 0, #[], rfl, Nat.le_refl _, heap_alloc_new w _, Nat.le_refl _, by decide, rfl, rfl⟩⟩)))
    rw [Nat.zero_add, List.nil_append] at ho
    go_ret
    exact ⟨_, rfl, by rw [hl]; exact ho, hb1⟩
theorem grow_ (w : World) (n : Nat) (hn : n ≤ 140737488355328) :
    Calls Try.prog 26 #[.slice none 0 0, .int .i64 n] w (Gives w []) := by
  have h1 : ¬ ((n : Int) < 0) := by omega
  by_cases h0 : n = 0
  · subst h0
    go_enter Try.func26, Try.ntmps26
    go_wp2
    go_ret
    exact ⟨_, rfl, World.ownsRow_nil _ _ _ _, Below.refl _ _⟩
  · have h4 : (0 : Int) < (n : Int) := by omega
    obtain ⟨i0, hi, hzz⟩ := Option.map_eq_some_iff.1 info_u8
    simp only [Prod.mk.injEq] at hzz
    obtain ⟨hz0, hz1, hz2⟩ := hzz
    have hrz := fun (W : World) ty => Lib.run_append_nil_zeros (P := Try.prog) W 26 3 ty 5 i0 (.int .u8 0) .i64 .i64 Try.underlying26 Try.underlying3 hi hz0 n (by omega) (by omega) (by omega) (by rw [hz2]; omega)
    have hG := grownCap_ge w n 0 5
    have hG2 := grownCap_le_maxLen w n 0 5 (by unfold maxLen; omega)
    have hgr : w.grownBy (w.drew.alloc (.cells (Builtin.zeroCells (Value.int .u8 0).cells n ++ Builtin.zeroCells (Value.int .u8 0).cells (grownCap w n 0 5 - n)) 5)) none := ⟨rfl, rfl, rfl, by simp, fun k hk _ => heap_alloc_old w.drew _ hk⟩
    have hown : (w.drew.alloc (.cells (Builtin.zeroCells (Value.int .u8 0).cells n ++ Builtin.zeroCells (Value.int .u8 0).cells (grownCap w n 0 5 - n)) 5)).ownsRow w.heap.size 5 1 (.slice (some ⟨w.heap.size, 0, none⟩) 0 (grownCap w n 0 5)) 0 [] := by
      refine ⟨rfl, .inr ⟨w.heap.size, _, _, rfl, Nat.le_refl _, heap_alloc_new w.drew _, Nat.zero_le _, hG2, ?_, rfl⟩⟩
      simp only [Array.size_append, size_zeroCells]
      have : (Value.int .u8 0).cells.size = 1 := rfl
      rw [this]
      omega
    have hb := (Below.refl w.heap.size w).grown hgr (Nat.le_refl _) (fun k hk => by cases hk)
    have hun : maxLen = 9223372036854775807 := rfl
    rw [hun] at hG2
    clear hun hgr
    obtain ⟨W1, hW⟩ : ∃ x, w.drew.alloc (.cells (Builtin.zeroCells (Value.int .u8 0).cells n ++ Builtin.zeroCells (Value.int .u8 0).cells (grownCap w n 0 5 - n)) 5) = x := ⟨_, rfl⟩
    obtain ⟨G, hGG⟩ : ∃ x, grownCap w n 0 5 = x := ⟨_, rfl⟩
    have hrw := fun ty => hrz w ty
    rw [hW, hGG] at hrw
    rw [hW] at hown hb
    rw [hGG] at hown hG hG2
    clear hW hGG hrz hi hz0 hz1 hz2
    have HW := Lib.hid hrw
    clear hrw
    go_enter Try.func26, Try.ntmps26
    go_wp2_with (at_builtin; refine Lib.wpList_append_run _ rfl (.tmp 20) (.tmp 21) _ _ rfl _ _ rfl rfl _ _ (HW.out _) ?_)
    go_ret
    exact ⟨_, rfl, hown, hb⟩
set_option maxHeartbeats 1000000 in
theorem concat_ (w : World) (g : Nat) (A1 : Option Addr) (n1 c1 : Nat) (l1 : List UInt8) (A2 : Option Addr) (n2 c2 : Nat) (l2 : List UInt8) (hr1 : Rd w 1 A1 n1 c1 (bs l1)) (hr2 : Rd w 1 A2 n2 c2 (bs l2)) (hn : n1 + n2 ≤ 140737488355328)
    (hg0 : w.cell? ⟨g, 0, none⟩ = some (.slice A1 n1 c1)) (hg1 : w.cell? ⟨g, 1, none⟩ = some (.slice A2 n2 c2)) :
    Calls Try.prog 19 #[.slice (some ⟨g, 0, none⟩) 2 2] w (Gives w (l1 ++ l2)) := by
  have hl1 := hr1.blen
  have hl2 := hr2.blen
  have hlg := World.block_lt_of_cell? w _ hg0
  have hgr := grow_ w (n1 + n2) hn
  have hcast : (((n1 + n2 : Nat)) : Int) = (n1 : Int) + (n2 : Int) := by omega
  rw [hcast] at hgr
  have HG := Lib.hid hgr
  clear hgr hcast
  have b1 : ¬ ((n1 : Int) < 0) := by omega
  have b2 : ¬ ((n1 : Int) + (n2 : Int) < 0) := by omega
  go_enter Try.func19, Try.ntmps19
  go_wp2
  go_loop [3, 11] (fun u3 u11 => (u11 = .int .i64 0 ∧ u3 = .int .i64 0) ∨ (u11 = .int .i64 1 ∧ u3 = .int .i64 (n1 : Int)) ∨ (u11 = .int .i64 2 ∧ u3 = .int .i64 ((n1 : Int) + (n2 : Int)))) (fun _ u11 => 2 - (intOf u11).toNat)
  case atStart => exact .inl ⟨rfl, rfl⟩
  case round =>
    rcases hrel with ⟨rfl, rfl⟩ | ⟨rfl, rfl⟩ | ⟨rfl, rfl⟩
    · go_wp2
      go_round
      case rel => exact .inr (.inl ⟨rfl, by simp⟩)
      case measure => simp [intOf]
    · go_wp2
      go_round
      case rel => exact .inr (.inr ⟨rfl, rfl⟩)
      case measure => simp [intOf]
    · go_wp2_with (go_at_call 26; refine HG.out.mono ?_; rintro e w1 ⟨v1, rfl, ho1, hb1⟩)
      go_loopw [6, 27] (fun u6 u27 wr => Below w.heap.size w wr ∧ ((u27 = .int .i64 0 ∧ wr.ownsRow w.heap.size 5 1 u6 0 []) ∨ (u27 = .int .i64 1 ∧ wr.ownsRow w.heap.size 5 1 u6 n1 (bs l1)) ∨ (u27 = .int .i64 2 ∧ wr.ownsRow w.heap.size 5 1 u6 (n1 + n2) (bs (l1 ++ l2))))) (fun _ u27 _ => 2 - (intOf u27).toNat)
      case atStart => exact ⟨hb1, .inl ⟨rfl, ho1⟩⟩
      case round =>
        obtain ⟨hbr, hrel⟩ := hrel
        have k0 := (hbr.cell (p := ⟨g, 0, none⟩) hlg).trans hg0
        have k1 := (hbr.cell (p := ⟨g, 1, none⟩) hlg).trans hg1
        have j1 := hr1.below hbr
        have j2 := hr2.below hbr
        rcases hrel with ⟨rfl, ho⟩ | ⟨rfl, ho⟩ | ⟨rfl, ho⟩
        · go_wp2_with (at_builtin; refine wpList_app (w0 := w) _ w.heap.size rfl (.tmp 31) (.tmp 32) 26 26 5 (.int .u8 0) 1 1 rfl Try.underlying26 info_u8 rfl (by omega) (by omega) _ 0 [] rfl (.own ho) _ n1 (bs l1) rfl (.slice j1 (bs_one l1)) hbr hbr.size (by omega) ?_; intro v2 w2 _ ho2 hb2 hg2; have ho3 := ho2 (.inr ho); clear ho2 hg2)
          rw [Nat.zero_add, List.nil_append] at ho3
          go_roundw
          case rel => exact ⟨hb2, .inr (.inl ⟨rfl, ho3⟩)⟩
          case measure => simp [intOf]
        · go_wp2_with (at_builtin; refine wpList_app (w0 := w) _ w.heap.size rfl (.tmp 31) (.tmp 32) 26 26 5 (.int .u8 0) 1 1 rfl Try.underlying26 info_u8 rfl (by omega) (by omega) _ n1 (bs l1) rfl (.own ho) _ n2 (bs l2) rfl (.slice j2 (bs_one l2)) hbr hbr.size (by omega) ?_; intro v2 w2 _ ho2 hb2 hg2; have ho3 := ho2 (.inr ho); clear ho2 hg2)
          rw [← bs_append] at ho3
          go_roundw
          case rel => exact ⟨hb2, .inr (.inr ⟨rfl, ho3⟩)⟩
          case measure => simp [intOf]
        · go_wp2
          go_ret
          exact ⟨_, rfl, by rw [List.length_append, hl1, hl2]; exact ho, hbr⟩
theorem newReader_ (w : World) : Calls Try.prog 9 #[] w fun e w' => e = .returned (.pointer (some ⟨w.heap.size, 0, none⟩)) ∧ w' = w.alloc (.cells #[.slice none 0 0] 48) := by
  go_enter Try.func9, Try.ntmps9
  go_wp2
  go_ret
  exact ⟨rfl, rfl⟩
theorem left_nil (w : World) : Calls Try.prog 13 #[.pointer none] w fun e w' => e = .returned (.int .i64 0) ∧ w = w' := by
  go_enter Try.func13, Try.ntmps13
  go_wp2
  go_ret
  exact ⟨rfl, rfl⟩
theorem left_ (w : World) (R : Nat) (A : Option Addr) (n c : Nat) (hc : w.cell? ⟨R, 0, none⟩ = some (.slice A n c)) : Calls Try.prog 13 #[.pointer (some ⟨R, 0, none⟩)] w fun e w' => e = .returned (.int .i64 n) ∧ w = w' := by
  go_enter Try.func13, Try.ntmps13
  go_wp2
  go_ret
  exact ⟨rfl, rfl⟩
/-- A framed message. -/
def frm (l : List UInt8) : List UInt8 := be 2 (l.length : Int) ++ l
def FrameP (w : World) (l : List UInt8) (e : Ending) (w' : World) : Prop :=
  ∃ v, e = .returned (.tuple #[v, .int .i64 0]) ∧ w'.ownsRow w.heap.size 5 1 v (l.length + 2) (bs (frm l)) ∧ Below w.heap.size w w'
theorem frame_ok (w : World) (A : Option Addr) (n c : Nat) (l : List UInt8) (hr : Rd w 1 A n c (bs l)) (h : n ≤ 65535) :
    Calls Try.prog 14 #[.slice A n c] w (FrameP w l) := by
  have hl := hr.blen
  have h' : ¬ (65535 : Int) < (n : Int) := by omega
  have hp := put16 none 0 0 (n : Int) (by omega) (by omega) (by omega) w [] (Rd.nil w 1)
  unfold Puts at hp
  go_enter Try.func14, Try.ntmps14
  go_wp2_with (first | (go_at_call 22; refine hp.mono ?_; clear hp; rintro e w1 ⟨v1, rfl, ho1, hb1⟩; have hr1 := hr.below hb1) | (at_builtin; refine wpList_app (w0 := w) _ w.heap.size rfl (.tmp 10) (.tmp 11) 26 26 5 (.int .u8 0) 1 1 rfl Try.underlying26 info_u8 rfl (by omega) (by omega) _ 2 (bs (be 2 (n : Int))) rfl (.own ho1) _ n (bs l) rfl (.slice hr1 (bs_one l)) hb1 hb1.size (by omega) ?_; intro v2 w2 _ ho2 hb2 hg2; have ho3 := ho2 (.inr ho1); clear ho2 hg2))
  rw [← bs_append, Nat.add_comm] at ho3
  go_ret2
  exact ⟨_, rfl, by unfold frm; rw [hl]; exact ho3, hb2⟩
theorem frame_no (w : World) (A : Option Addr) (n c : Nat) (h : ¬ n ≤ 65535) :
    Calls Try.prog 14 #[.slice A n c] w (Tells w (.tuple #[.slice none 0 0, .int .i64 2])) := by
  have h' : (65535 : Int) < (n : Int) := by omega
  go_enter Try.func14, Try.ntmps14
  go_wp2
  go_ret2
  exact ⟨rfl, Below.refl _ _⟩
end Go.Proofs.Ytmifnmnpihikgaa
