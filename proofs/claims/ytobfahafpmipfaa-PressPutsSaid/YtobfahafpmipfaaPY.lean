/- hearsayref03's keep. -/
import Derived.Test.YtobfahafpmipfaaPW
import Derived.Test.YtobfahafpmipfaaPV
namespace Go.Proofs.Ytobfahafpmipfaa
open Go.RowKit Go.HL
set_option linter.unusedVariables false
set_option linter.unusedSimpArgs false
/-- What is older than the table is kept, and rows of bytes are. -/
def Chg (rt : Nat) (W W' : World) : Prop := Below rt W W' ∧ ∀ (k : Nat) cur fr, W.heap[k]? = some (.cells cur 5 fr) → W'.heap[k]? = some (.cells cur 5 fr)
theorem Chg.trans {rt : Nat} {A B C : World} (h : Chg rt A B) (k : Chg rt B C) : Chg rt A C := ⟨h.1.trans k.1, fun i c f hi => k.2 i c f (h.2 i c f hi)⟩
theorem Chg.own {rt : Nat} {W W' : World} (h : Chg rt W W') {base n size : Nat} {v : Value} {cs : List Value} (ho : W.ownsRow base 5 size v n cs) : W'.ownsRow base 5 size v n cs := by
  refine ⟨ho.1, ?_⟩
  rcases ho.2 with hn | ⟨g, cap, cur, rfl, hb, hgg, rest⟩
  · exact .inl hn
  · exact .inr ⟨g, cap, cur, rfl, hb, h.2 _ _ _ hgg, rest⟩
theorem chg_below {rt : Nat} {W W' : World} (h : Below W.heap.size W W') (hr : rt ≤ W.heap.size) : Chg rt W W' :=
  ⟨h.mono hr, fun k c f hk => (h.block k (Array.getElem?_eq_some_iff.1 hk).1).trans hk⟩
theorem chg_row {rt : Nat} {W W' : World} {base n size : Nat} {e : TypeId} {v : Value} {cs : List Value} (ho : W.ownsRow base e size v n cs) (hb : rt ≤ base) (he : e ≠ 5) (hr : rt ≤ W.heap.size) (hg : W.grownBy W' v.ownBlock) : Chg rt W W' := by
  refine ⟨(Below.refl rt W).grown hg hr (fun k hk => Nat.le_trans hb (own_base ho k hk)), fun k c f hk => ?_⟩
  rw [hg.block k (Array.getElem?_eq_some_iff.1 hk).1 ?_]
  · exact hk
  · intro hv
    rcases ho.2 with ⟨rfl, _⟩ | ⟨g, cap, cur, rfl, _, hh, _⟩
    · cases hv
    · simp [Value.ownBlock] at hv
      subst hv
      rw [hh] at hk
      simp only [Option.some.injEq, Obj.cells.injEq] at hk
      exact he hk.2.1
theorem chg_set {rt : Nat} {W : World} {cur : Array Value} (hb : W.heap[rt]? = some (.cells cur 37 (0, 0))) (j : Nat) (u : Value) : Chg rt W (W.setCell ⟨rt, j, none⟩ u) := by
  have hg : W.grownBy (W.setCell ⟨rt, j, none⟩ u) (some rt) := grown_set W ⟨rt, j, none⟩ u
  refine ⟨(Below.refl rt W).grown hg (Nat.le_of_lt (Array.getElem?_eq_some_iff.1 hb).1) (fun k hk => by cases hk; exact Nat.le_refl _), fun k c f hk => ?_⟩
  rw [hg.block k (Array.getElem?_eq_some_iff.1 hk).1 ?_]
  · exact hk
  · intro hv
    cases hv
    rw [hb] at hk
    simp only [Option.some.injEq, Obj.cells.injEq] at hk
    exact absurd hk.2.1 (by decide)
theorem box_set {W : World} {rt : Nat} {a b : Value} (hb : W.heap[rt]? = some (.cells #[a, b] 37 (0, 0))) (u : Value) :
    (W.setCell ⟨rt, 0, none⟩ u).heap[rt]? = some (.cells #[u, b] 37 (0, 0)) ∧ (W.setCell ⟨rt, 1, none⟩ u).heap[rt]? = some (.cells #[a, u] 37 (0, 0)) := by
  constructor <;> simp [World.setCell, Array.getElem?_modify, hb]
theorem tnm_one (tab : Tb) : ∀ v ∈ tnm tab, v.oneCell' = true := by
  intro v hv
  obtain ⟨x, _, rfl⟩ := List.mem_map.1 hv
  rfl
theorem tpl_one (tab : Tb) : ∀ v ∈ tpl tab, v.oneCell' = true := by
  intro v hv
  obtain ⟨x, _, rfl⟩ := List.mem_map.1 hv
  rfl
set_option maxHeartbeats 1000000 in
theorem keep_ (W : World) (rt : Nat) (vn vp : Value) (tab new : Tb) (h : RefT W rt vn vp tab) (hl : tab.length ≤ 500000) (hw : new.length ≤ 1000) (A1 A2 : Option Addr) (c1 c2 : Nat)
    (h1 : W.ownsRow (rt + 1) 23 1 (.slice A1 new.length c1) new.length (tnm new)) (h2 : W.ownsRow (rt + 1) 3 1 (.slice A2 new.length c2) new.length (tpl new)) :
    Calls Try.prog 34 #[.pointer (some ⟨rt, 0, none⟩), .slice A1 new.length c1, .slice A2 new.length c2] W fun e w' => e = .returned (.tuple #[]) ∧ ∃ vn' vp', RefT w' rt vn' vp' (tab ++ new) ∧ Chg rt W w' := by
  have k0 := h.c0
  have k1 := h.c1
  have f0 := h.free 0
  have hlt := h.lt
  have H := Lib.hid h
  have H1 := Lib.hid h1
  have H2 := Lib.hid h2
  obtain ⟨An, cn, rfl, hrn⟩ := own_rd h.rn
  obtain ⟨Ap, cp, rfl, hrp⟩ := own_rd h.rp
  clear h h1 h2 hrn hrp
  go_enter Try.func34, Try.ntmps34
  go_wp2_with (first | (at_builtin; refine wpList_app (w0 := W) W (rt + 1) rfl _ _ 34 34 23 (.string ByteArray.empty) 1 16 rfl Try.underlying34 info_nm rfl (by omega) (by omega) (.slice An tab.length cn) tab.length (tnm tab) rfl (.own H.out.rn) (.slice A1 new.length c1) new.length (tnm new) rfl (.slice (rd_own H1.out) (tnm_one new)) (Below.refl _ _) hlt (by omega) ?_; intro v1 w1 _ ho1' hb1 hg1; have ho1 := ho1' (.inr H.out.rn); obtain ⟨A3, c3, rfl, hr3⟩ := own_rd ho1; have hbx1 := (hb1.block rt (Nat.lt_succ_self _)).trans H.out.box; have x0 : w1.cell? ⟨rt, 0, none⟩ = some (.slice An tab.length cn) := cell_of_row w1 rt 0 _ _ (0, 0) hbx1; have y0 : w1.frozen? ⟨rt, 0, none⟩ = false := (by simp [World.frozen?, hbx1]); have hbx2 := (box_set hbx1 (.slice A3 (tab.length + new.length) c3)).1; have x1 : (w1.setCell ⟨rt, 0, none⟩ (.slice A3 (tab.length + new.length) c3)).cell? ⟨rt, 1, none⟩ = some (.slice Ap tab.length cp) := cell_of_row (w1.setCell ⟨rt, 0, none⟩ (.slice A3 (tab.length + new.length) c3)) rt 1 _ _ (0, 0) hbx2; have HBX2 := Lib.hid hbx2; have HG1 := Lib.hid hg1; have HO1 := Lib.hid ho1; have HBX1 := Lib.hid hbx1; have HZ1 := Lib.hid hg1.size; clear ho1' ho1 hb1 hg1 hbx1 hbx2 hr3) | (at_builtin; refine wpList_app (w0 := w1.setCell ⟨rt, 0, none⟩ (.slice A3 (tab.length + new.length) c3)) (w1.setCell ⟨rt, 0, none⟩ (.slice A3 (tab.length + new.length) c3)) (rt + 1) rfl _ _ 35 35 3 (.int .i64 0) 1 8 rfl Try.underlying35 info_int rfl (by omega) (by omega) (.slice Ap tab.length cp) tab.length (tpl tab) rfl (.own (own_kept_low (own_kept_other H.out.rp H.out.rn (by decide) HG1.out) (Nat.lt_succ_self rt) (grown_set w1 ⟨rt, 0, none⟩ (.slice A3 (tab.length + new.length) c3)))) (.slice A2 new.length c2) new.length (tpl new) rfl (.slice (rd_own (own_kept_low (own_kept_other H2.out H.out.rn (by decide) HG1.out) (Nat.lt_succ_self rt) (grown_set w1 ⟨rt, 0, none⟩ (.slice A3 (tab.length + new.length) c3)))) (tpl_one new)) (Below.refl _ _) (by have := (Array.getElem?_eq_some_iff.1 HBX2.out).1; exact this) (by omega) ?_; intro v3 w3 _ ho3' hb3 hg3; have ho3 := ho3' (.inr (own_kept_low (own_kept_other H.out.rp H.out.rn (by decide) HG1.out) (Nat.lt_succ_self rt) (grown_set w1 ⟨rt, 0, none⟩ (.slice A3 (tab.length + new.length) c3)))); obtain ⟨A4, c4, rfl, hr4⟩ := own_rd ho3; have hbx3 := (hb3.block rt (Nat.lt_succ_self _)).trans HBX2.out; have x3 : w3.cell? ⟨rt, 1, none⟩ = some (.slice Ap tab.length cp) := cell_of_row w3 rt 1 _ _ (0, 0) hbx3; have y3 : w3.frozen? ⟨rt, 1, none⟩ = false := (by simp [World.frozen?, hbx3]); have HBX3 := Lib.hid hbx3; have HG3 := Lib.hid hg3; have HO3 := Lib.hid ho3; clear ho3' ho3 hb3 hg3 hbx3 hr4))
  have r1 : (w1.setCell ⟨rt, 0, none⟩ (.slice A3 (tab.length + new.length) c3)).ownsRow (rt + 1) 23 1 (.slice A3 (tab.length + new.length) c3) (tab.length + new.length) (tnm tab ++ tnm new) := own_kept_low HO1.out (Nat.lt_succ_self rt) (grown_set w1 ⟨rt, 0, none⟩ _)
  have r2 := own_kept_low (own_kept_other H.out.rp H.out.rn (by decide) HG1.out) (Nat.lt_succ_self rt) (grown_set w1 ⟨rt, 0, none⟩ (.slice A3 (tab.length + new.length) c3))
  have r3 := own_kept_other r1 r2 (by decide) HG3.out
  have r4 := own_kept_low r3 (Nat.lt_succ_self rt) (grown_set w3 ⟨rt, 1, none⟩ (.slice A4 (tab.length + new.length) c4))
  have r5 := own_kept_low HO3.out (Nat.lt_succ_self rt) (grown_set w3 ⟨rt, 1, none⟩ (.slice A4 (tab.length + new.length) c4))
  have g1 : Chg rt W w1 := chg_row H.out.rn (Nat.le_succ rt) (by decide) (Nat.le_of_lt hlt) HG1.out
  have g2 := g1.trans (chg_set HBX1.out 0 (.slice A3 (tab.length + new.length) c3))
  have g3 := g2.trans (chg_row r2 (Nat.le_succ rt) (by decide) (Nat.le_of_lt (Array.getElem?_eq_some_iff.1 HBX2.out).1) HG3.out)
  have g4 := g3.trans (chg_set HBX3.out 1 (.slice A4 (tab.length + new.length) c4))
  refine bodyPost_end (results_none rfl _ _ _) rfl ⟨rfl, _, _, ⟨(box_set HBX3.out _).2, ?_, ?_⟩, g4⟩
  · rw [List.length_append, tnm, List.map_append]; exact r4
  · rw [List.length_append, tpl, List.map_append]; exact r5
end Go.Proofs.Ytobfahafpmipfaa
