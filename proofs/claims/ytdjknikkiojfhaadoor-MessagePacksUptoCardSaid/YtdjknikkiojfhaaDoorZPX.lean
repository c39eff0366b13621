import Derived.Test.YtdjknikkiojfhaaDoorZRF
/- A range over a function whose iterator keeps its state in a cell of its own and makes memory between two rounds; the body may return. No program in sight. -/
set_option linter.unusedVariables false
set_option linter.unusedSimpArgs false
namespace Go.HL
open Go.RowKit
variable {F : Fence} {n : Nat} {P : Program}

/-- The iterator hands out xs, one behind the other, till it is told to stop; of what was there it writes the cell at Bs alone. -/
def IterX {α : Type} (F : Fence) (n : Nat) (P : Program) (gf : Nat) (lb : Array Value) (encs : α → Array Value) (Bs : Nat) (t : TypeId) (v0 : Value) (xs : List α) : Prop :=
  ∀ (l : Nat) (J Jx : List α → World → Prop) (W : World), (∀ pre W1 v, J pre W1 → J pre (W1.setCell ⟨Bs, 0, none⟩ v)) → (∀ pre W1 W2, J pre W1 → W1.grownBy W2 none → J pre W2) →
    (∀ pre x W1, J pre W1 → pre ++ [x] <+: xs → YieldAt F (n - 1) P l (encs x) W1 fun e W' => (e = .returned (.bool true) ∧ J (pre ++ [x]) W' ∧ ∀ u, Boxed W1 Bs t u → Boxed W' Bs t u) ∨ (e = .returned (.bool false) ∧ Jx (pre ++ [x]) W')) →
    Boxed W Bs t v0 → J [] W → CallsIn F n P gf (#[.func (.yield l) #[] #[]] ++ lb) W fun e W' => (∃ v, e = .returned v) ∧ (J xs W' ∨ ∃ pre, Jx pre W')

/-- From this block on whatever is no cells lies as it lay. -/
def KOs (s : Nat) (W W' : World) : Prop := ∀ k o, s ≤ k → W.heap[k]? = some o → o.isCells = false → W'.heap[k]? = some o
theorem KOs.trans {s : Nat} {A B C : World} (h : KOs s A B) (k : KOs s B C) : KOs s A C := fun i o hi ho hc => k i o hi (h i o hi ho hc) hc
theorem KOs.refl (s : Nat) (W : World) : KOs s W W := fun _ _ _ h _ => h
/-- How a body that goes on, or returns, ends. -/
def bodyX {α : Type} (s : Nat) (I Ix : List α → World → Prop) (xs : List α) (Bs : Nat) (t : TypeId) (W : World) : Exit → Act → World → Prop
  | .normal, _, W' => KOs s W W' ∧ I xs W' ∧ ∀ u, Boxed W Bs t u → Boxed W' Bs t u
  | .ret, _, W' => KOs s W W' ∧ Ix xs W'
  | _, _, _ => False

theorem wpIn_range_stops {α : Type} {g : Operand} {ps : Array Tmp} {assign body : Code} {Q : Exit → Act → World → Prop} {a : Act} {w : World}
    (hro : F.round = none) (h1 : 1 ≤ n) {gf : Nat} {lb : Array Value} (hg : a.eval g = .func (.func gf) #[] lb) (hFg : F.fn gf) (eg : ∀ args w, (callFunc gf args).run P w = .ok (.enter gf args) w)
    (encs : α → Array Value) (hps : ∀ x, (encs x).size = ps.size) (Bs : Nat) (t : TypeId) (v0 : Value) (xs : List α) (hit : IterX F (n - 1) P gf lb encs Bs t v0 xs) (hB : Boxed w Bs t v0)
    (I Ix : List α → World → Prop) (hset : ∀ pre W v, I pre W → I pre (W.setCell ⟨Bs, 0, none⟩ v)) (hnew : ∀ pre W W', I pre W → W.grownBy W' none → I pre W')
    (hput : ∀ pre W k o o', I pre W → w.heap.size ≤ k → W.heap[k]? = some o → o.isCells = false → I pre (W.putObj k o')) (hputx : ∀ pre W k o o', Ix pre W → w.heap.size ≤ k → W.heap[k]? = some o → o.isCells = false → Ix pre (W.putObj k o'))
    (h0 : ∀ o, I [] ((w.alloc (.deferred (some []))).alloc o)) (a₁ : α → Act)
    (hassign : ∀ (l : Nat) (x : α) (W : World) (K : Act → World → Prop), K (a₁ x) W →
      assign.wpIn (F.inRound l) (n - 1 - 1) P (Exit.then K (fun _ _ _ => False)) { tmps := (ps.zip (encs x)).foldl (fun t (p, v) => t.setIfInBounds p v) a.tmps, defers := [] } W)
    (hbody : ∀ (l : Nat) (pre : List α) (x : α) (W : World), I pre W → pre ++ [x] <+: xs → body.wpIn (F.inRound l) (n - 1 - 1) P (bodyX w.heap.size I Ix (pre ++ [x]) Bs t W) (a₁ x) W)
    (hdone : ∀ (D : Nat) (W : World), I xs W → w.heap.size ≤ D → W.heap[D]? = some (.deferred (some [])) → Q .normal { a with defers := { target := .collected D, args := #[] } :: a.defers } W)
    (hstop : ∀ (D : Nat) (pre : List α) (W : World), Ix pre W → w.heap.size ≤ D → W.heap[D]? = some (.deferred (some [])) → Code.ret.wpIn F n P Q { a with defers := { target := .collected D, args := #[] } :: a.defers } W) :
    (Code.rangeFunc g ps assign body).wpIn F n P Q a w := by
  refine wpIn_rangeFunc fun fn hfn => ?_
  rw [hro]
  obtain ⟨mk, hmk⟩ : ∃ mk : LoopState → Option Code → Loop, mk = fun st pe => { state := st, pending := pe, fn, tmps := a.tmps, params := ps, assign, body, defers := w.heap.size } := ⟨_, rfl⟩
  have hD : w.heap.size < (w.alloc (.deferred (some []))).heap.size := by simp
  obtain ⟨W1, hW1⟩ : ∃ W1, (w.alloc (.deferred (some []))).alloc (.loop (mk .ready none)) = W1 := ⟨_, rfl⟩
  have hL : W1.heap[w.heap.size + 1]? = some (.loop (mk .ready none)) := by
    have := World.alloc_heap_new (w.alloc (.deferred (some []))) (.loop (mk .ready none))
    rw [World.size_alloc, hW1] at this
    exact this
  have hK : W1.heap[w.heap.size]? = some (.deferred (some [])) := by
    rw [← hW1]
    exact (Below.heap_alloc _ _ _ hD).trans (World.alloc_heap_new w _)
  have hB1 : Boxed W1 Bs t v0 := by rw [← hW1]; exact (hB.alloc _).alloc _
  have hI1 : I [] W1 := by rw [← hW1]; exact h0 _
  have hcellne : ∀ {W : World} {k : Nat} {o : Obj}, W.heap[k]? = some o → o.isCells = false → ∀ v, Boxed W Bs t v → k ≠ Bs := fun h ho v hb e => by
    subst e
    have hb' : _ = _ := hb
    rw [h] at hb'
    cases hb'
    simp [Obj.isCells] at ho
  refine ⟨w.heap.size + 1, [{ target := .collected w.heap.size, args := #[] }], W1, { target := .fn (.func gf) lb, args := #[.func (.yield (w.heap.size + 1)) #[] #[]] }, W1, gf, #[.func (.yield (w.heap.size + 1)) #[] #[]] ++ lb, W1, ?_, ?_, ?_, ?_, fun _ => h1, ?_⟩
  · rw [← hW1, hmk]; exact run_enterLoop_outer _ _ _ _ _
  · simp only [resolve, hg]; simp [go_sem]
  · intro f' hf'
    simp [Target.leads] at hf'
    subst hf'
    exact hFg
  · simp [invoke, go_sem, eg]
  refine (hit (w.heap.size + 1) (fun pre W => I pre W ∧ W.heap[w.heap.size + 1]? = some (.loop (mk .ready none)) ∧ W.heap[w.heap.size]? = some (.deferred (some []))
      ∧ (∃ v, Boxed W Bs t v)) (fun pre W => Ix pre W ∧ W.heap[w.heap.size + 1]? = some (.loop (mk .done (some .ret))) ∧ W.heap[w.heap.size]? = some (.deferred (some []))) W1 ?_ ?_ ?_ hB1 ⟨hI1, hL, hK, v0, hB1⟩).mono ?_
  · rintro pre W v ⟨i1, i2, i3, u, i4⟩
    have e1 := hcellne i2 rfl u i4
    have e2 := hcellne i3 rfl u i4
    have hgs := grownBy_setCell' W Bs v
    refine ⟨hset _ _ _ i1, ?_, ?_, v, i4.set v⟩
    · rw [hgs.block _ (Array.getElem?_eq_some_iff.1 i2).1 (by simpa using e1)]; exact i2
    · rw [hgs.block _ (Array.getElem?_eq_some_iff.1 i3).1 (by simpa using e2)]; exact i3
  · rintro pre W W' ⟨i1, i2, i3, u, i4⟩ hgn
    exact ⟨hnew _ _ _ i1 hgn, by rw [hgn.block _ (Array.getElem?_eq_some_iff.1 i2).1 (by simp)]; exact i2, by rw [hgn.block _ (Array.getElem?_eq_some_iff.1 i3).1 (by simp)]; exact i3, u, (hgn.block _ i4.lt (by simp)).trans i4⟩
  · rintro pre x W ⟨i1, i2, i3, u, i4⟩ hpre
    have hlt := (Array.getElem?_eq_some_iff.1 i2).1
    have hy := run_yield (P := P) (args := encs x) i2 (by rw [hmk]; exact hps x)
    rw [hmk] at hy
    refine ⟨fn, _, assign, body, hy, roundIn_of_wpIn hfn (hassign _ x W _ ⟨_, run_beginRound i2 (by rw [hmk]), ?_⟩)⟩
    have j2 : (W.putObj (w.heap.size + 1) (.loop { mk .ready none with state := .busy })).heap[w.heap.size + 1]? = some (.loop { mk .ready none with state := .busy }) := World.putObj_heap_same hlt
    have j3 : (W.putObj (w.heap.size + 1) (.loop { mk .ready none with state := .busy })).heap[w.heap.size]? = some (.deferred (some [])) := (World.putObj_heap_other (by omega)).trans i3
    have j4 : ∀ v, Boxed W Bs t v → Boxed (W.putObj (w.heap.size + 1) (.loop { mk .ready none with state := .busy })) Bs t v := fun v h => (World.putObj_heap_other (fun e => hcellne i2 rfl v h e.symm)).trans h
    refine wpIn_mono (hbody _ pre x _ (hput _ _ _ _ _ i1 (by omega) i2 rfl) hpre) ?_
    rintro e a3 W3 hp
    cases e with
    | normal =>
      obtain ⟨k1, k2, k3⟩ := hp
      have l2 := k1 _ _ (by omega) j2 rfl
      have l3 := k1 _ _ (by omega) j3 rfl
      have hend := run_endRound (P := P) none l2
      rw [hmk] at hend l2
      have m4 : ∀ v, Boxed W3 Bs t v → Boxed (W3.putObj (w.heap.size + 1) (.loop (mk .ready none))) Bs t v := fun v h => (World.putObj_heap_other (fun e => hcellne l2 rfl v h e.symm)).trans h
      have m2 : (W3.putObj (w.heap.size + 1) (.loop (mk .ready none))).heap[w.heap.size + 1]? = some (.loop (mk .ready none)) := World.putObj_heap_same (Array.getElem?_eq_some_iff.1 l2).1
      have m1 : I (pre ++ [x]) (W3.putObj (w.heap.size + 1) (.loop (mk .ready none))) := hput _ _ _ _ _ k2 (by omega) l2 rfl
      rw [hmk] at m1 m2 m4
      refine ⟨_, _, hend, .inl ⟨rfl, ⟨m1, ?_, (World.putObj_heap_other (by omega)).trans l3, u, m4 u (k3 u (j4 u i4))⟩, fun v h => m4 v (k3 v (j4 v h))⟩⟩
      rw [hmk]; exact m2
    | ret =>
      obtain ⟨k1, k2⟩ := hp
      have l2 := k1 _ _ (by omega) j2 rfl
      have l3 := k1 _ _ (by omega) j3 rfl
      have hend := run_endRound (P := P) (some .ret) l2
      rw [hmk] at hend l2
      have m2 : (W3.putObj (w.heap.size + 1) (.loop (mk .done (some .ret)))).heap[w.heap.size + 1]? = some (.loop (mk .done (some .ret))) := World.putObj_heap_same (Array.getElem?_eq_some_iff.1 l2).1
      have m1 : Ix (pre ++ [x]) (W3.putObj (w.heap.size + 1) (.loop (mk .done (some .ret)))) := hputx _ _ _ _ _ k2 (by omega) l2 rfl
      rw [hmk] at m1 m2
      refine ⟨_, _, hend, .inr ⟨rfl, m1, ?_, (World.putObj_heap_other (by omega)).trans l3⟩⟩
      rw [hmk]; exact m2
    | exit id => exact hp.elim
    | goto t => exact hp.elim
    | panic ch => exact hp.elim
    | outgrown => exact hp.elim
  · rintro e W2 ⟨⟨v, rfl⟩, (⟨i1, i2, i3, _⟩ | ⟨pre, i1, i2, i3⟩)⟩
    · have hend := run_endLoop (P := P) i2 (by rw [hmk]; simp)
      rw [hmk] at hend
      exact ⟨none, _, hend, hdone _ _ (hput _ _ _ _ _ i1 (by omega) i2 rfl) (Nat.le_refl _) ((World.putObj_heap_other (by omega)).trans i3)⟩
    · have hend := run_endLoop (P := P) i2 (by rw [hmk]; simp)
      rw [hmk] at hend
      exact ⟨some .ret, _, hend, hstop _ _ _ (hputx _ _ _ _ _ i1 (by omega) i2 rfl) (Nat.le_refl _) ((World.putObj_heap_other (by omega)).trans i3)⟩
end Go.HL
