import Derived.Test.YtdjknikkiojfhaaDoorZRS
import Derived.Maps.OwnIn
import Derived.OwnWalkIn
/- append inside a fence; appends and map stores as operations told by what they leave. No program in sight. -/
set_option linter.unusedVariables false
set_option linter.unusedSimpArgs false
namespace Go.HL
open Go.RowKit
section
variable {F : Fence} {nF : Nat} {P : Program} {ops : Array Oper} {rest : List Oper} {o : Oper} {a : Act} {Q : Exit → Act → World → Prop}
/-- append, whatever is appended to whatever, inside a fence. -/
theorem wpListIn_app {w0 : World} (w : World) (base : Nat) (hgd : o.guard = none) (s x : Operand) (t tx e : TypeId) (z : Value) (size bytes : Nat)
    (ho : o.op = .call { callee := .builtin .append, args := #[s, x], argTypes := #[t, tx] })
    (ht : P.underlying t = some (.slice e)) (hinfo : (P.info? e).map (fun i => (i.zero, i.size, i.bytes)) = some (some z, size, bytes)) (hz : z.cells.size = size) (hs0 : 0 < size) (hb0 : 0 < bytes)
    (v : Value) (n : Nat) (cs : List Value) (hs : a.eval s = v) (happ : App w base e size v n cs) (y : Value) (m : Nat) (news : List Value) (hx : a.eval x = y) (hadd : Add P w size t tx y m news)
    (HB : Below base w0 w) (hbase : base ≤ w.heap.size) (hbytes : (n + m) * bytes ≤ 140737488355328)
    (h : ∀ v1 w1, ((m = 0 ∧ v1 = v ∧ w1 = w) ∨ w1.ownsRow base e size v1 (n + m) (cs ++ news)) → (0 < m ∨ w.ownsRow base e size v n cs → w1.ownsRow base e size v1 (n + m) (cs ++ news)) → Below base w0 w1 → w.grownBy w1 v.ownBlock → wpListIn F nF P ops Q rest (a.put o.dst v1) w1) :
    wpListIn F nF P ops Q (o :: rest) a w := by
  refine wpListIn_plain hgd fun K hK' => ?_
  obtain ⟨v1, w1, hr, h1, h2, h3, h4⟩ := run_app (P := P) (w0 := w0) w base t tx e o.type z size bytes ht hinfo hz hs0 hb0 v n cs happ y m news hadd HB hbase hbytes
  unfold Oper.wpIn
  refine ⟨?_, ?_⟩
  · simp [Oper.about, ho, resolve, Target.leads, Sem.run_pure]
  · rw [Oper.semAt_plain F _ _ (by rw [ho]; intro c hc'; cases hc')]
    simp [execOp, ho, resolve, invoke, builtin, hs, hx, hr, Result.andThen]
    exact hK' _ _ (h v1 w1 h1 h2 h3 h4)
end
section
variable {nF : Nat} {P : Program} {o : Oper} {ev : Operand → Value} {R : Value → World → Prop}
theorem givesIn_app (w0 w : World) (base : Nat) (s x : Operand) (t tx e : TypeId) (z : Value) (size bytes : Nat)
    (ho : o.op = .call { callee := .builtin .append, args := #[s, x], argTypes := #[t, tx] })
    (ht : P.underlying t = some (.slice e)) (hinfo : (P.info? e).map (fun i => (i.zero, i.size, i.bytes)) = some (some z, size, bytes)) (hz : z.cells.size = size) (hs0 : 0 < size) (hb0 : 0 < bytes)
    (v : Value) (n : Nat) (cs : List Value) (hs : ev s = v) (happ : App w base e size v n cs) (y : Value) (m : Nat) (news : List Value) (hx : ev x = y) (hadd : Add P w size t tx y m news)
    (HB : Below base w0 w) (hbase : base ≤ w.heap.size) (hbytes : (n + m) * bytes ≤ 140737488355328)
    (h : ∀ v1 w1, (0 < m ∨ w.ownsRow base e size v n cs → w1.ownsRow base e size v1 (n + m) (cs ++ news)) → w.grownBy w1 v.ownBlock → R v1 w1) : OpGivesIn nF P o ev w R := by
  obtain ⟨v1, w1, hr, h1, h2, h3, h4⟩ := run_app (P := P) (w0 := w0) w base t tx e o.type z size bytes ht hinfo hz hs0 hb0 v n cs happ y m news hadd HB hbase hbytes
  unfold OpGivesIn execOp
  simp only [ho, resolve, invoke, builtin, Sem.run_bind, Sem.run_pure, Result.andThen_ok, List.map_toArray, List.map_cons, List.map_nil, hs, hx, hr]
  exact h v1 w1 h2 h4
end
/-- No defer statement. -/
def noDefer (o : Oper) : Bool := match o.op with | .defer _ => false | _ => true
theorem wpInR_of_gives {P : Program} {Q : Exit → Act → World → Prop} {lr : Nat} {n : Nat} {o : Oper} {a : Act} {w : World} {K : Act → World → Prop} (hdf : noDefer o = true) (h : OpGivesIn n P o a.eval w (fun v w' => K (a.put o.dst v) w')) : o.wpIn (Fence.wide.inRound lr) n P a w K Q := by
  refine ⟨fun _ _ => trivial, ?_⟩
  have hd : ¬ ((Fence.wide.inRound lr).depth.isSome = true) := by simp [Fence.wide, Fence.inRound]
  unfold OpGivesIn at h
  rw [Oper.semAt_plain (Fence.wide.inRound lr) a.eval o (fun c hc => by unfold noDefer at hdf; rw [hc] at hdf; cases hdf)]
  generalize (execOp a.eval o).run P w = r at *
  cases r with
  | ok n w' =>
    cases n <;> simp only [OpUponIn] at h <;> simp only [Oper.uponIn]
    case value u => exact h
    case skip => exact h
    case enter f args => exact ⟨fun h => absurd h hd, h.mono fun e w'' ⟨v, he, hk⟩ => by subst he; exact hk⟩
    case round l f tmps assign body => exact ⟨fun h => absurd h hd, h.mono fun e w'' ⟨v, he, hk⟩ => by subst he; exact hk⟩
  | halt x w' => simp only [OpUponIn] at h
/-- **The same, at the wide fence (a round of a range over a function may be called).** A region that writes: the loud operations are named; what holds hangs on which of them are done.** -/
theorem wpInR_region_loud {P : Program} {Q : Exit → Act → World → Prop} {lr : Nat} {n : Nat} {id : Nat} {l : List Oper} {a : Act} {w : World} (hm : P.follows .mixedOrders = true) (hchk : specOk l = true) (hdf : l.all noDefer = true) (fr : (Nat → Value) → Act) (hfr : ∀ xs, fillL a xs l 0 = fr xs)
    (loud : List Nat) (V : Nat → Value → World → Prop) (I : List Bool → World → Prop) (h0 : I (loud.map fun _ => false) w.drew)
    (hob : Obl (fun i o => ∀ (xs : Nat → Value) (d : Nat → Bool) (W : World), (∀ j ∈ edges o, d j = true) → (∀ k p, l[k]? = some p → i ∈ edges p → d k = false) → I (loud.map d) W → (∀ j, d j = true → V j (xs j) W) →
      if i ∈ loud then d i = false → OpGivesIn n P o (fr xs).eval W (fun v W' => I (loud.map (upd d i true)) W' ∧ V i v W' ∧ ∀ j, d j = true → V j (xs j) W') ∧ Region.wanted o (yielded l.toArray (fr xs).tmps) = true
      else if Region.wanted o (yielded l.toArray (fr xs).tmps) then OpGivesIn n P o (fr xs).eval W (fun v W' => W' = W ∧ V i v W) else V i undef W) l 0)
    (hQ : ∀ (xs : Nat → Value) W, I (loud.map fun _ => true) W → (∀ j, j < l.length → V j (xs j) W) → Q .normal (fr xs) W) (hl : ∀ i ∈ loud, i < l.length) : (Code.region id l.toArray true).wpIn (Fence.wide.inRound lr) n P Q a w := by
  refine wpIn_region_spec hm hchk V (fun d W => I (loud.map d) W) h0 ?_ (fun xs d W hd hI hV => by
    rw [hfr]
    refine hQ xs W ?_ hV
    rw [show loud.map (fun _ => true) = loud.map d from List.map_congr_left fun i hi => (hd i (hl i hi)).symm]
    exact hI)
  have key : ∀ (q : List Oper) (k : Nat), (∀ o ∈ q, noDefer o = true) → Obl (fun i o => ∀ (xs : Nat → Value) (d : Nat → Bool) (W : World), (∀ j ∈ edges o, d j = true) → (∀ k p, l[k]? = some p → i ∈ edges p → d k = false) → I (loud.map d) W → (∀ j, d j = true → V j (xs j) W) →
      if i ∈ loud then d i = false → OpGivesIn n P o (fr xs).eval W (fun v W' => I (loud.map (upd d i true)) W' ∧ V i v W' ∧ ∀ j, d j = true → V j (xs j) W') ∧ Region.wanted o (yielded l.toArray (fr xs).tmps) = true
      else if Region.wanted o (yielded l.toArray (fr xs).tmps) then OpGivesIn n P o (fr xs).eval W (fun v W' => W' = W ∧ V i v W) else V i undef W) q k →
      Obl (Owed (fun o K a w => if Region.wanted o (yielded l.toArray a.tmps) then o.wpIn (Fence.wide.inRound lr) n P a w K Q else (∀ f, o.about P w a.eval = some f → (Fence.wide.inRound lr).fn f) ∧ K (a.put o.dst undef) w) l a V (fun d W => I (loud.map d) W)) q k := by
    intro q
    induction q with
    | nil => intro k _ _; trivial
    | cons o q ih =>
      rintro k hdq ⟨h1, h2⟩
      refine ⟨fun xs d W hdn hdi he hI hV _ K hK => ?_, ih _ (fun o ho => hdq o (List.mem_cons_of_mem _ ho)) h2⟩
      have := h1 xs d W he (fun j p hj hm => by
        by_cases hd : d j = true
        · have := hdn j p hj hd k hm
          rw [hdi] at this
          cases this
        · simpa using hd) hI hV
      rw [hfr] at hK ⊢
      show if Region.wanted o (yielded l.toArray (fr xs).tmps) = true then Oper.wpIn (Fence.wide.inRound lr) n P o (fr xs) W K Q else (∀ f, o.about P W (fr xs).eval = some f → (Fence.wide.inRound lr).fn f) ∧ K ((fr xs).put o.dst undef) W
      by_cases hk : k ∈ loud
      · rw [if_pos hk] at this
        obtain ⟨h3, h4⟩ := this hdi
        rw [if_pos h4]
        exact wpInR_of_gives (hdq o (by simp)) (h3.mono fun v W' ⟨hi, hv, hs⟩ => hK v W' hi hv hs)
      · rw [if_neg hk] at this
        have hmap : loud.map (upd d k true) = loud.map d := List.map_congr_left fun i hi => upd_ne _ _ (fun e => hk (by rw [← e]; exact hi))
        split
        · rename_i hw
          rw [if_pos hw] at this
          exact wpInR_of_gives (hdq o (by simp)) (this.mono fun v W' ⟨he, hv⟩ => by subst he; exact hK v W' (by show I (loud.map _) _; rw [hmap]; exact hI) hv hV)
        · rename_i hw
          rw [if_neg hw] at this
          exact ⟨fun _ _ => trivial, hK _ _ (by show I (loud.map _) _; rw [hmap]; exact hI) this hV⟩
  exact key _ _ (fun o ho => List.all_eq_true.1 hdf o ho) hob
theorem VV.any1 {c : List (Option Value)} {G : Nat → Value → World → Prop} {j : Nat} {u : Value} {W W' : World} (h : VV c G j u W) (hG : G j u W → G j u W') : VV c G j u W' := by
  unfold VV at *
  split
  · rename_i e he; rw [he] at h; exact h
  · rename_i he; rw [he] at h; exact hG h
end Go.HL
