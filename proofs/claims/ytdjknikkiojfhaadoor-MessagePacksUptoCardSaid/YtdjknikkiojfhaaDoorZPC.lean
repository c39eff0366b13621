import Derived.Test.YtdjknikkiojfhaaDoorChecked
import Derived.Test.YtdjknikkiojfhaaDoorZPB
import Derived.Test.YtdjknikkiojfhaaDoorZPX
import Derived.RangeFuncNested
import Derived.Shelf.Abstract
import Derived.Shelf.RegionOpen
import Derived.OwnWalkIn
import Derived.TacticsInMore
import Derived.LoopNIn
import Derived.LoopIn
import Derived.ControlIn
import Derived.Deep.QuietTactic
import Derived.BigQuiet
/- press.fronts: its iterator. -/
namespace Go.Proofs.YtdjknikkiojfhaaDoor
open Go.RowKit Go.HL Go.Shelf
set_option linter.unusedVariables false
set_option linter.unusedSimpArgs false
attribute [local go_sem] Oper.semAt_some

def leftE (wr : World) (Bs : Nat) : Nat := match wr.cell? ⟨Bs, 0, none⟩ with | some (.string s) => s.size | _ => 0
def encF (x : ByteArray) : Array Value := #[.string x]
theorem fronts_ (w : World) (s : ByteArray) : Calls Tryd.prog 82 #[.string s] w fun e w' => e = .returned (.func (.func 90) #[] #[.pointer (some ⟨w.heap.size, 0, none⟩)]) ∧ w' = w.alloc (.cells #[.string s] 40) := by
  go_enter Tryd.func82, Tryd.ntmps82
  go_wp2
  go_ret
  exact ⟨rfl, rfl⟩
theorem below_none {w w1 : World} (h : Below w.heap.size w w1) : w.grownBy w1 none := ⟨h.os, h.tape, h.output, h.size, fun i hi _ => h.block i hi⟩
set_option maxHeartbeats 2000000 in
theorem fronts_iter (n : Nat) (hn : 1 ≤ n) (Bs : Nat) (ls : List (List UInt8)) (hok : okL ls) (h255 : (gl ls).length ≤ 255) : IterX Fence.wide n Tryd.prog 90 #[.pointer (some ⟨Bs, 0, none⟩)] encF Bs 40 (.string (str (gl ls))) (frs ls) := by
  intro l J Jx W hJs hJn hY hW h0
  have fp : Fence.wide.fn 91 := trivial
  refine callsIn_of_wp Tryd.func90 rfl trivial ?_ rfl
  simp only [Tryd.ntmps90, List.size_toArray, List.length_cons, List.length_nil, Nat.reduceAdd, Nat.reduceSub, Array.replicate_succ, Array.replicate_zero, List.push_toArray, List.append_toArray, List.nil_append, List.cons_append]
  gi_wp2
  gi_loopw [3] (fun p wr => ∃ (pre : List ByteArray) (ls1 : List (List UInt8)), frs ls = pre ++ frs ls1 ∧ okL ls1 ∧ (gl ls1).length ≤ 255 ∧ Boxed wr Bs 40 (.string (str (gl ls1))) ∧ J pre wr) (fun p wr => leftE wr Bs)
  case atStart => exact ⟨[], ls, rfl, hok, h255, hW, h0⟩
  case round =>
    obtain ⟨pre, ls1, hx, hok1, h1, hb, hJ⟩ := hrel
    have hc := hb.cell
    have hf := hb.frozen
    cases ls1 with
    | nil =>
      rw [show frs [] = [] from rfl, List.append_nil] at hx
      rw [gl_nil] at hc
      have hne : (((str [0]).toList == (⟨#[0]⟩ : ByteArray).toList)) = true := by decide +kernel
      gi_wp2_with (refine wpListIn_skip (o := ⟨some 8, _, _, _, _, _⟩) rfl rfl ?_)
      go_end0
      exact ⟨⟨_, rfl⟩, .inl (by rw [hx]; exact hJ)⟩
    | cons x r =>
      have hlen := gl_len x r
      have hpos := gl_pos r
      have hpar := fun m W => callsIn_wide (n := m).2 (parent_ W x r hok1 h1)
      have hok2 := hok1.tail
      have hx2 := hok1 x (by simp)
      rw [show frs (x :: r) = str (gl (x :: r)) :: frs r from rfl] at hx
      obtain ⟨s1, hs1⟩ : ∃ s1, str (gl (x :: r)) = s1 := ⟨_, rfl⟩
      have hsz : s1.size = 1 + x.length + (gl r).length := by rw [← hs1, str_size, hlen]
      have hne : (s1.toList == [0]) = false := by
        rw [beq_eq_false_iff_ne]
        intro e
        rw [← hs1, str_toL] at e
        have := congrArg List.length e
        simp at this
        omega
      rw [hs1] at hx hpar hc hb
      obtain ⟨fn, tmps, assign, body, hy, hR⟩ := hY pre s1 wr hJ ⟨frs r, by rw [hx]; simp⟩
      have HX := Lib.hid hx
      have HS := Lib.hid hsz
      have HL := Lib.hid (And.intro hlen hpos)
      have HPAR := Lib.hid hpar
      dsimp only [encF] at hy
      clear hsz hlen hpos hx hs1 hpar
      gi_wp2
      refine hR.mono ?_
      rintro e W3 (⟨rfl, hJ3, hk3⟩ | ⟨rfl, hJx3⟩)
      · have hb3 := hk3 _ hb
        have hc3 := hb3.cell
        gi_wp2_with (gi_at_call 91; refine (HPAR.out _ _).mono ?_; rintro e W4 ⟨rfl, hb4⟩; have hb5 : Boxed W4 Bs 40 (.string s1) := (hb4.block _ hb3.lt).trans hb3; have hc5 := hb5.cell; have hf5 := hb5.frozen)
        go_roundw
        case rel => exact ⟨pre ++ [s1], r, by rw [HX.out]; simp, hok2, by have := HL.out; omega, hb5.set _, hJs _ _ _ (hJn _ _ _ hJ3 (below_none hb4))⟩
        case measure =>
          have h6 : leftE (W4.setCell ⟨Bs, 0, none⟩ (.string (str (gl r)))) Bs = (str (gl r)).size := by
            unfold leftE
            rw [(hb5.set (.string (str (gl r)))).cell]
          have h7 : leftE wr Bs = s1.size := by
            unfold leftE
            rw [hb.cell]
          rw [h6, h7, str_size, HS.out]
          omega
      · gi_wp2
        go_end0
        exact ⟨⟨_, rfl⟩, .inr ⟨_, hJx3⟩⟩
end Go.Proofs.YtdjknikkiojfhaaDoor
