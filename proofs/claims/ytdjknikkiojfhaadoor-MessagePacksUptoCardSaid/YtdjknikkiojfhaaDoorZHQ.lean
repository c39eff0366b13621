import Derived.Test.YtdjknikkiojfhaaDoorZRG
import Derived.BigQuiet
/- A drawn region that only reads, walked once: structs loaded and held against each other in it. No program in sight. -/
set_option linter.unusedVariables false
set_option linter.unusedSimpArgs false
namespace Go.HL
open Go.RowKit
section
variable {P : Program} {o : Oper} {a : Act} {K : Act → Prop} {w0 : World}
theorem quiet_of_run {C : World → Prop} (v : Value) (h : ∀ w, C w → (execOp a.eval o).run P w = .ok (.value v) w) (hk : K (a.put o.dst v)) : o.quiet P a C K :=
  ⟨v, fun w hw => by unfold Oper.quietAt; rw [h w hw]; exact ⟨rfl, rfl⟩, hk⟩
theorem drewN_heap (w : World) : ∀ n, (w.drewN n).heap = w.heap
  | 0 => rfl
  | n + 1 => drewN_heap w n
theorem Cells.drewN {w : World} {ad : Addr} {cs : List Value} (h : Cells w ad cs) (n : Nat) : Cells (w.drewN n) ad cs := fun j u hu => by
  have h2 := h j u hu
  have : (w.drewN n).cell? (ad.add j) = w.cell? (ad.add j) := by unfold World.cell?; rw [drewN_heap]
  rw [this]
  exact h2
theorem quiet_getAt (ty : TypeId) (x : Operand) (ho : o.op = .load ty x) (ad : Addr) (hx : a.eval x = .pointer (some ad)) (cs : List Value) (d : TypeDesc) (hg : Cells w0 ad cs)
    (hu : P.underlying ty = some d) (hd : (match d with | .struct _ | .array _ _ => true | _ => false) = true) (hi : (P.info? ty).map (·.size) = some cs.length)
    (hk : K (a.put o.dst (.agg cs.toArray))) : o.quiet P a (fun w' => ∃ n, w' = w0.drewN n) K := by
  refine quiet_of_run _ (fun w hw => ?_) hk
  obtain ⟨n, rfl⟩ := hw
  unfold execOp
  simp only [ho, hx, Instr.loadAt, Instr.sureAddr, Sem.run_bind, Sem.run_pure, Result.andThen_ok, run_loadVar_at (w0.drewN n) ad ty cs d (hg.drewN n) hu hd hi]
theorem quiet_bin {C : World → Prop} (op : BinOp) (ty t : TypeId) (x y : Operand) (ho : o.op = .binOp op ty x y t) (vx vy v : Value) (hx : a.eval x = vx) (hy : a.eval y = vy)
    (hg : ∀ w, (eqGuard op ty x y vx vy).run P w = .ok () w) (hr : ∀ w, (binOp op ty vx vy).run P w = .ok v w) (hk : K (a.put o.dst v)) : o.quiet P a C K := by
  refine quiet_of_run v (fun w _ => ?_) hk
  unfold execOp
  simp only [ho, hx, hy, Sem.run_bind, Sem.run_pure, Result.andThen_ok, hg, hr]
end
end Go.HL
