/- hearsayref03's table: find, keep; bare. -/
import Derived.Test.YtobfahafpmipfaaPU
import Derived.Test.YtobfahafpmipfaaPP
namespace Go.Proofs.Ytobfahafpmipfaa
open Go.RowKit Go.HL
set_option linter.unusedVariables false
set_option linter.unusedSimpArgs false
def tnm (tab : Tb) : List Value := tab.map fun p => .string (str p.1)
def tpl (tab : Tb) : List Value := tab.map fun p => .int .i64 (p.2 : Int)
/-- The document's table. -/
structure RefT (W : World) (rt : Nat) (vn vp : Value) (tab : Tb) : Prop where
  box : W.heap[rt]? = some (.cells #[vn, vp] 37 (0, 0))
  rn : W.ownsRow (rt + 1) 23 1 vn tab.length (tnm tab)
  rp : W.ownsRow (rt + 1) 3 1 vp tab.length (tpl tab)
theorem RefT.lt {W : World} {rt : Nat} {vn vp : Value} {tab : Tb} (h : RefT W rt vn vp tab) : rt < W.heap.size := (Array.getElem?_eq_some_iff.1 h.box).1
theorem RefT.c0 {W : World} {rt : Nat} {vn vp : Value} {tab : Tb} (h : RefT W rt vn vp tab) : W.cell? ⟨rt, 0, none⟩ = some vn := cell_of_row W rt 0 _ _ (0, 0) h.box
theorem RefT.c1 {W : World} {rt : Nat} {vn vp : Value} {tab : Tb} (h : RefT W rt vn vp tab) : W.cell? ⟨rt, 1, none⟩ = some vp := cell_of_row W rt 1 _ _ (0, 0) h.box
theorem RefT.free {W : World} {rt : Nat} {vn vp : Value} {tab : Tb} (h : RefT W rt vn vp tab) (j : Nat) : W.frozen? ⟨rt, j, none⟩ = false := by simp [World.frozen?, h.box]
theorem RefT.below {W W' : World} {rt : Nat} {vn vp : Value} {tab : Tb} (h : RefT W rt vn vp tab) (hb : Below W.heap.size W W') : RefT W' rt vn vp tab :=
  ⟨(hb.block rt h.lt).trans h.box, own_below h.rn hb, own_below h.rp hb⟩
/-- Where a name is remembered; -1: nowhere. -/
def lookI (tab : Tb) (m : List UInt8) : Int := match HL.look tab m with | some p => (p : Int) | none => -1
set_option maxHeartbeats 1000000 in
theorem find_ (W : World) (rt : Nat) (vn vp : Value) (tab : Tb) (m : List UInt8) (h : RefT W rt vn vp tab) (hl : tab.length ≤ 1000000) :
    Calls Try.prog 33 #[.pointer (some ⟨rt, 0, none⟩), .string (str m)] W fun e w' => e = .returned (.int .i64 (lookI tab m)) ∧ W = w' := by
  have c0 := h.c0
  have c1 := h.c1
  obtain ⟨An, cn, rfl, hrn⟩ := own_rd h.rn
  obtain ⟨Ap, cp, rfl, hrp⟩ := own_rd h.rp
  obtain ⟨s, hs⟩ : ∃ s, str m = s := ⟨_, rfl⟩
  rw [hs]
  have HS := Lib.hid hs
  clear hs h
  have HRN := Lib.hid hrn
  have HRP := Lib.hid hrp
  clear hrn hrp
  obtain ⟨n, hn⟩ : ∃ n, tab.length = n := ⟨_, rfl⟩
  rw [hn] at c0 c1 hl HRN HRP
  have HN := Lib.hid hn
  clear hn
  go_enter Try.func33, Try.ntmps33
  go_wp2
  go_loopw [5] (fun v wr => ∃ i : Nat, v = .int .i64 i ∧ i ≤ n ∧ W = wr ∧ Hid (HL.look (tab.take i) m = none)) (fun v _ => n - (intOf v).toNat)
  case atStart => exact ⟨0, rfl, Nat.zero_le _, rfl, Lib.hid rfl⟩
  case round =>
    obtain ⟨i, rfl, hi, rfl, HLK⟩ := hrel
    by_cases hlt : i < n
    · have hi1 : (i : Int) < (n : Int) := by omega
      have hi0 : (0 : Int) ≤ (i : Int) := by omega
      obtain ⟨⟨mi, pi⟩, hti⟩ : ∃ x, tab[i]? = some x := ⟨_, List.getElem?_eq_getElem (by rw [HN.out]; exact hlt)⟩
      cases An with
      | none => have := (HRN.out.nil_ rfl).1; omega
      | some an =>
      cases Ap with
      | none => have := (HRP.out.nil_ rfl).1; omega
      | some ap =>
      have d1 := HRN.out.cells an rfl i (.string (str mi)) (by simp [tnm, hti])
      have d2 := HRP.out.cells ap rfl i (.int .i64 (pi : Int)) (by simp [tpl, hti])
      have htk : tab.take (i + 1) = tab.take i ++ [(mi, pi)] := by
        obtain ⟨h1, h2⟩ := List.getElem?_eq_some_iff.1 hti
        rw [List.take_succ_eq_append_getElem h1, h2]
      have hlk := look_snoc (p := pi) (m := mi) (tab := tab.take i)
      obtain ⟨x, hx⟩ : ∃ x, str mi = x := ⟨_, rfl⟩
      rw [hx] at d1
      have HX := Lib.hid hx
      have HTK := Lib.hid htk
      clear hx htk hti hlk
      by_cases he : x = s
      · subst he
        go_wp2
        go_ret
        refine ⟨?_, rfl⟩
        have hm : mi = m := str_inj (HX.out.trans HS.out.symm)
        subst hm
        have hl1 : HL.look (tab.take (i + 1)) mi = some pi := by
          rw [HTK.out]
          unfold HL.look at *
          rw [List.find?_append, Option.map_eq_none_iff.1 HLK.out]
          simp
        have hl2 : HL.look tab mi = some pi := by
          have := look_app (t' := tab.drop (i + 1)) hl1
          rwa [List.take_append_drop] at this
        unfold lookI
        rw [hl2]
        rfl
      · have he3 : (x.toList == s.toList) = false := by
          rw [beq_eq_false_iff_ne]
          intro e
          exact he (by rw [← HX.out, ← HS.out] at e ⊢; rw [str_toL, str_toL] at e; rw [e])
        go_wp2
        go_roundw
        case rel =>
          refine ⟨i + 1, by go_num, by omega, trivial, Lib.hid ?_⟩
          rw [HTK.out]
          unfold HL.look at *
          have hne : mi ≠ m := fun e => he (by rw [← HX.out, e, HS.out])
          rw [List.find?_append, Option.map_eq_none_iff.1 HLK.out]
          simp [hne]
        case measure => simp [intOf]; omega
    · have hge : decide ((i : Int) < (n : Int)) = false := by simp; omega
      have hl := HLK.out
      rw [List.take_of_length_le (by rw [HN.out]; omega)] at hl
      have HL2 := Lib.hid (show lookI tab m = -1 by unfold lookI; rw [hl])
      clear hl
      go_wp2
      go_ret
      exact ⟨by rw [HL2.out]; rfl, rfl⟩
set_option maxHeartbeats 1000000 in
theorem bare_ (w : World) (A : Option Addr) (n c : Nat) (hr : Rd w 1 A n c (bs (List.replicate n 0))) (hn : n ≤ 140737488355328) :
    Calls Try.prog 18 #[.slice A n c] w fun e w' => e = .returned (.bool true) ∧ w = w' := by
  have HR := Lib.hid hr
  clear hr
  go_enter Try.func18, Try.ntmps18
  go_wp2
  go_loopw [3] (fun v wr => ∃ i : Nat, v = .int .i64 i ∧ i ≤ n ∧ w = wr) (fun v _ => n - (intOf v).toNat)
  case atStart => exact ⟨0, rfl, Nat.zero_le _, rfl⟩
  case round =>
    obtain ⟨i, rfl, hi, rfl⟩ := hrel
    by_cases hlt : i < n
    · have hi1 : (i : Int) < (n : Int) := by omega
      have hi0 : (0 : Int) ≤ (i : Int) := by omega
      cases A with
      | none => have := (HR.out.nil_ rfl).1; omega
      | some a =>
      have d1 := HR.out.cells a rfl i (.int .u8 0) (by simp [bs, hlt])
      go_wp2
      go_roundw
      case rel => exact ⟨i + 1, by go_num, by omega, trivial⟩
      case measure => simp [intOf]; omega
    · have hge : decide ((i : Int) < (n : Int)) = false := by simp; omega
      go_wp2
      go_ret
      refine ⟨rfl, ?_⟩
      trivial
end Go.Proofs.Ytobfahafpmipfaa
