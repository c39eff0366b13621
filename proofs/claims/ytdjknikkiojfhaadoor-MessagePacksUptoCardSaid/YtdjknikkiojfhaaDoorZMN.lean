import Derived.Test.YtdjknikkiojfhaaDoorZMM
import Derived.Test.YtdjknikkiojfhaaDoorZMJ
/- wakes; MessagePacks: the walks. -/
namespace Go.Proofs.YtdjknikkiojfhaaDoor
open Go.RowKit Go.HL Go.Maps
set_option linter.unusedVariables false
set_option linter.unusedSimpArgs false
def mW (A : Option Addr) : Mg := ⟨1, false, 0, false, false, true, false, 0, 0, ⟨A, 1, 1, [⟨⟨#[1, 97, 0]⟩, 1, 1⟩]⟩, ⟨none, 0, 0, []⟩, ⟨none, 0, 0, []⟩, ⟨none, 0, 0, []⟩⟩
theorem mW_pack (A : Option Addr) : packV (mW A) = (L0, 0) := by kernel_rfl
theorem mW_val (A : Option Addr) : (mW A).val = .agg #[.int .u16 1, .bool false, .int .u8 0, .bool false, .bool false, .bool true, .bool false, .int .u8 0, .int .u8 0, .slice A 1 1, .slice none 0 0, .slice none 0 0, .slice none 0 0] := rfl
set_option maxRecDepth 8000 in
set_option maxHeartbeats 2000000 in
theorem wakes_ (w : World) (hK : Kd w) : Calls Tryd.prog 10 #[] w fun e w' => e = .returned (.bool true) ∧ Below w.heap.size w w' := by
  have hb := below_new w (.cells #[.string ⟨#[1, 97, 0]⟩, .int .u16 1, .int .u16 1] 55)
  have hrq : Rd (w.alloc (.cells #[.string ⟨#[1, 97, 0]⟩, .int .u16 1, .int .u16 1] 55)) 3 (some ⟨w.heap.size, 0, none⟩) 1 1 (qns [⟨⟨#[1, 97, 0]⟩, 1, 1⟩]) := ⟨rfl, fun h => (by cases h), Nat.le_refl _, fun a ha => by cases ha; exact World.news_of_block (cs := #[.string ⟨#[1, 97, 0]⟩, .int .u16 1, .int .u16 1]) (t := 55) (fr := (0, 0)) (heap_alloc_new w _)⟩
  have hok : (mW (some ⟨w.heap.size, 0, none⟩)).ok (w.alloc (.cells #[.string ⟨#[1, 97, 0]⟩, .int .u16 1, .int .u16 1] 55)) := by
    refine ⟨(by decide : (0 : Int) ≤ 1 ∧ (1 : Int) < 65536), (by decide : (0 : Int) ≤ 0 ∧ (0 : Int) < 256), (by decide : (0 : Int) ≤ 0 ∧ (0 : Int) < 256), (by decide : (0 : Int) ≤ 0 ∧ (0 : Int) < 256), ⟨hrq, fun r hr => ?_⟩, ⟨Rd.nil _ _, fun r (hr : r ∈ ([] : List Rc)) => absurd hr (by simp)⟩, ⟨Rd.nil _ _, fun r (hr : r ∈ ([] : List Rc)) => absurd hr (by simp)⟩, ⟨Rd.nil _ _, fun r (hr : r ∈ ([] : List Rc)) => absurd hr (by simp)⟩⟩
    rw [List.mem_singleton.1 hr]
    exact ⟨by decide, by decide, by decide⟩
  have hfit : (mW (some ⟨w.heap.size, 0, none⟩)).fit 140737488355328 := by
    refine ⟨(by decide : 1 ≤ 140737488355328), fun p hp => ?_, fun x hx => ?_, fun p hp r hr => ?_⟩
    · rcases p with _ | _ | p <;> exact Nat.zero_le _
    · rw [List.mem_singleton.1 hx]; decide
    · rcases p with _ | _ | p <;> exact absurd hr (List.not_mem_nil)
  have hp := pack_ (w.alloc (.cells #[.string ⟨#[1, 97, 0]⟩, .int .u16 1, .int .u16 1] 55)) (mW (some ⟨w.heap.size, 0, none⟩)) hok hfit (hK.below hb)
  rw [mW_pack, mW_val] at hp
  unfold PackR at hp
  have HB := Lib.hid hb
  clear hb hrq hok hfit hK
  go_enter Tryd.func10, Tryd.ntmps10
  go_wp2_with (first
    | (go_at_call 7; refine hp.mono ?_; clear hp; rintro e W1 ⟨A1, n1, c1, rfl, hr1, -, hb1⟩; obtain rfl : n1 = 19 := (hr1.blen).symm; have HR1 := Lib.hid hr1; have HB1 := Lib.hid (below_trans HB.out hb1); clear hr1 hb1)
    | (go_at_call 11; refine (unpackK_ W1 A1 c1 HR1.out).mono ?_; rintro e W2 ⟨A2, c2, rfl, hb2⟩; have HB2 := Lib.hid (below_trans HB1.out hb2); have hcv := run_conv_str (P := Tryd.prog) (W2.alloc (.cells #[.int .u16 1, .bool false, .int .u8 0, .bool false, .bool false, .bool true, .bool false, .int .u8 0, .int .u8 0, .slice A2 1 c2, .slice none 0 0, .slice none 0 0, .slice none 0 0] 26)) (src := 27) (dst := 9) Tryd.underlying27 Tryd.underlying5 Tryd.underlying9 ((HR1.out.below hb2).alloc (.cells #[.int .u16 1, .bool false, .int .u8 0, .bool false, .bool false, .bool true, .bool false, .int .u8 0, .int .u8 0, .slice A2 1 c2, .slice none 0 0, .slice none 0 0, .slice none 0 0] 26)); rw [show str L0 = (⟨#[0, 1, 1, 0, 0, 1, 0, 0, 0, 0, 0, 0, 1, 97, 0, 0, 1, 0, 1]⟩ : ByteArray) from rfl] at hcv; clear hb2))
  go_ret
  exact ⟨rfl, below_alloc HB2.out _⟩
end Go.Proofs.YtdjknikkiojfhaaDoor
