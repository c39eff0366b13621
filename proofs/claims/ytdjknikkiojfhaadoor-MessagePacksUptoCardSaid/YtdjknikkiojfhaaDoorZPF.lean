import Derived.Test.YtdjknikkiojfhaaDoorZPE
import Derived.BigGuard
import Derived.BigGuardIn
import Derived.Deep.DeepCutAuto
import Derived.Deep.CutBlock
/- (*press.Table).row: contract, by a walk. -/
namespace Go.Proofs.YtdjknikkiojfhaaDoor
open Go.RowKit Go.HL Go.Maps Go.Shelf
set_option linter.unusedVariables false
set_option linter.unusedSimpArgs false
attribute [local go_sem] Oper.semAt_some
theorem run_loadVar_box {P : Program} {w : World} {b : Nat} {t ty : TypeId} {v : Value} {d : TypeDesc} (hb : Boxed w b t v) (hu : P.underlying ty = some d) (hd : (match d with | .struct _ | .array _ _ => true | _ => false) = false) : (loadVar ty ⟨b, 0, none⟩).run P w = .ok v w := by
  have hc := hb.cell
  have hagg : (isAgg ty).run P w = .ok false w := by
    unfold isAgg
    rw [Sem.run_bind, run_underlying hu w]
    cases d <;> simp_all
  simp [loadVar, Sem.run_bind, hagg, go_sem, hc]
theorem results_cc {P : Program} {fn : Func} {p q : Tmp} {ty tz : TypeId} (h : fn.results = #[.cell p ty, .cell q tz]) (tmps : Array Value) {w : World} {a b : Nat} {t t' : TypeId} {u v : Value} {d d' : TypeDesc} (hp : tmps.getD p undef = .pointer (some ⟨a, 0, none⟩)) (hq : tmps.getD q undef = .pointer (some ⟨b, 0, none⟩))
    (ha : Boxed w a t u) (hb : Boxed w b t' v) (hu : P.underlying ty = some d) (hd : (match d with | .struct _ | .array _ _ => true | _ => false) = false) (hu' : P.underlying tz = some d') (hd' : (match d' with | .struct _ | .array _ _ => true | _ => false) = false) :
    (results fn tmps).run P w = .ok (.tuple #[u, v]) w := by
  have hp' : tmps[p]?.getD undef = .pointer (some ⟨a, 0, none⟩) := by simpa using hp
  have hq' : tmps[q]?.getD undef = .pointer (some ⟨b, 0, none⟩) := by simpa using hq
  simp [results, h, Sem.run_bind, hp', hq', asAddr, run_loadVar_box ha hu hd, run_loadVar_box hb hu' hd', Result.andThen]
/-- What refuses writes nothing. -/
def None2 (w : World) (er : Int) (e : Ending) (w' : World) : Prop := e = .returned (.tuple #[.slice none 0 0, .int .i64 er]) ∧ Below w.heap.size w w'
theorem boxes4 (w : World) (t1 t2 t3 t4 : TypeId) (v1 v2 v3 v4 : Value) :
    ∃ W, ((((w.alloc (.cells #[v1] t1)).alloc (.cells #[v2] t2)).alloc (.cells #[v3] t3)).alloc (.cells #[v4] t4)) = W ∧ W.heap.size = w.heap.size + 4 ∧ Boxed W w.heap.size t1 v1 ∧ Boxed W (w.heap.size + 1) t2 v2 ∧ Boxed W (w.heap.size + 2) t3 v3 ∧ Boxed W (w.heap.size + 3) t4 v4 ∧ w.grownBy W none := by
  refine ⟨_, rfl, by simp, ?_, ?_, ?_, ?_, ?_⟩
  · exact (((Boxed.new w t1 v1).alloc _).alloc _).alloc _
  · have := ((Boxed.new (w.alloc (.cells #[v1] t1)) t2 v2).alloc (.cells #[v3] t3)).alloc (.cells #[v4] t4)
    rw [World.size_alloc] at this
    exact this
  · have := (Boxed.new ((w.alloc (.cells #[v1] t1)).alloc (.cells #[v2] t2)) t3 v3).alloc (.cells #[v4] t4)
    rw [World.size_alloc, World.size_alloc] at this
    exact this
  · have := (Boxed.new (((w.alloc (.cells #[v1] t1)).alloc (.cells #[v2] t2)).alloc (.cells #[v3] t3)) t4 v4)
    rw [World.size_alloc, World.size_alloc, World.size_alloc] at this
    exact this
  · exact World.grownBy.trans (World.grownBy.trans (World.grownBy.trans (World.grownBy_alloc _ _ _) (World.grownBy_alloc _ _ _)) (World.grownBy_alloc _ _ _)) (World.grownBy_alloc _ _ _)
theorem grown_below {w w1 : World} (h : w.grownBy w1 none) : Below w.heap.size w w1 := ⟨h.os, h.tape, h.output, h.size, fun i hi => h.block i hi (by simp)⟩
theorem row_nil (w : World) (A : Option Addr) (n c : Nat) (s : ByteArray) (plain : Bool) :
    Calls Tryd.prog 64 #[.pointer none, .slice A n c, .string s, .bool plain] w (None2 w 8) := by
  obtain ⟨W, hW, hz, b0, b1, b2, b3, hg⟩ := boxes4 w 81 4 27 28 (.pointer none) (.bool plain) (.slice none 0 0) (.int .i64 8)
  have HW := Lib.hid hW
  clear hW
  go_enter Tryd.func64, Tryd.ntmps64
  go_wp2
  rw [HW.out]
  exact bodyPost_ret (results_cc rfl _ rfl rfl b2 b3 Tryd.underlying27 rfl Tryd.underlying28 rfl) rfl ⟨rfl, grown_below hg⟩
theorem row_bad (w : World) (gt : Addr) (A : Option Addr) (n c : Nat) (s : ByteArray) (plain : Bool) (hs : s.size ≤ 140737488355328) (hno : isNm s = false) :
    Calls Tryd.prog 64 #[.pointer (some gt), .slice A n c, .string s, .bool plain] w (None2 w 11) := by
  obtain ⟨W, hW, hz, b0, b1, b2, b3, hg⟩ := boxes4 w 81 4 27 28 (.pointer (some gt)) (.bool plain) (.slice none 0 0) (.int .i64 0)
  have hck := check_ W s hs
  rw [hno] at hck
  have HW := Lib.hid hW
  have HCK := Lib.hid hck
  clear hW hck hno
  go_enter Tryd.func64, Tryd.ntmps64
  go_upto_region 1 with fail
  rw [HW.out]
  have k0 := b0.cell
  have k1 := b1.cell
  go_wp2_with (go_at_call 36; refine HCK.out.mono ?_; rintro e w1 ⟨rfl, hb1⟩; have c2 := ((below_none hb1).block _ b2.lt (by simp)).trans b2; have c3 := ((below_none hb1).block _ b3.lt (by simp)).trans b3; have k2 := Boxed.cell c2; have k3 := Boxed.cell c3; have f2 := Boxed.frozen c2; have f3 := Boxed.frozen c3)
  have e2 : Boxed ((w1.setCell ⟨w.heap.size + 2, 0, none⟩ (.slice none 0 0)).setCell ⟨w.heap.size + 3, 0, none⟩ (.int .i64 11)) (w.heap.size + 2) 27 (.slice none 0 0) := (Boxed.set (.slice none 0 0) c2).kept (grownBy_setCell' _ (w.heap.size + 3) _) (by simp)
  have e3 : Boxed ((w1.setCell ⟨w.heap.size + 2, 0, none⟩ (.slice none 0 0)).setCell ⟨w.heap.size + 3, 0, none⟩ (.int .i64 11)) (w.heap.size + 3) 28 (.int .i64 11) := (Boxed.kept c3 (grownBy_setCell' w1 (w.heap.size + 2) _) (by simp)).set (.int .i64 11)
  refine bodyPost_ret (results_cc rfl _ rfl rfl e2 e3 Tryd.underlying27 rfl Tryd.underlying28 rfl) rfl ⟨rfl, ?_⟩
  exact (((grown_below hg).trans (hb1.mono (by omega))).setCell (by show w.heap.size ≤ w.heap.size + 2; omega) _).setCell (by show w.heap.size ≤ w.heap.size + 3; omega) _
end Go.Proofs.YtdjknikkiojfhaaDoor
