import Derived.Test.YtdjknikkiojfhaaDoorZHR
/- Readings of structs, taken apart. No program in sight. -/
set_option linter.unusedVariables false
set_option linter.unusedSimpArgs false
namespace Go.HL
open Go.RowKit
section
variable {H : Type} {enc : TypeId × Value → H} {P : Program} {w : World} {base : Nat} {sp : Nat → Bool} {held : Bool}

theorem trod_int {fuel : Nat} {t : TypeId} {k : IntKind} {cs : List Value} {x : DataW H × List MemPlace} (ht : P.underlying t = some (.int k)) (h : DataW.trod enc P w base sp held fuel t cs = some x) :
    ∃ n, cs = [.int k n] ∧ (Lit.int k n).wf = true ∧ x = (.lit (.int k n), []) := by
  cases fuel with
  | zero => simp [DataW.trod] at h
  | succ m =>
    unfold DataW.trod at h
    simp only [ht] at h
    split at h <;> simp_all
theorem trod_str {fuel : Nat} {t : TypeId} {cs : List Value} {x : DataW H × List MemPlace} (ht : P.underlying t = some .string) (h : DataW.trod enc P w base sp held fuel t cs = some x) :
    ∃ s, cs = [.string s] ∧ s.size ≤ maxLen ∧ x = (.lit (.string s.data.toList), []) := by
  cases fuel with
  | zero => simp [DataW.trod] at h
  | succ m =>
    unfold DataW.trod at h
    simp only [ht] at h
    split at h <;> simp_all
theorem trod_bool {fuel : Nat} {t : TypeId} {cs : List Value} {x : DataW H × List MemPlace} (ht : P.underlying t = some .bool) (h : DataW.trod enc P w base sp held fuel t cs = some x) :
    ∃ b, cs = [.bool b] ∧ x = (.lit (.bool b), []) := by
  cases fuel with
  | zero => simp [DataW.trod] at h
  | succ m =>
    unfold DataW.trod at h
    simp only [ht] at h
    split at h <;> simp_all
theorem trod_struct {fuel : Nat} {t : TypeId} {fs : Array Field} {cs : List Value} {x : DataW H × List MemPlace} (ht : P.underlying t = some (.struct fs)) (h : DataW.trod enc P w base sp held fuel t cs = some x) :
    ∃ m xs, fuel = m + 1 ∧ cs.length = P.cellsOf t ∧ (fs.toList.mapM fun f => DataW.trod enc P w base sp held m f.type ((cs.drop f.offset).take (P.cellsOf f.type))) = some xs ∧ x = (.agg (xs.map (·.1)), xs.flatMap (·.2)) := by
  cases fuel with
  | zero => simp [DataW.trod] at h
  | succ m =>
    unfold DataW.trod at h
    simp only [ht] at h
    split at h
    · rename_i hc
      simp only [Option.map_eq_some_iff] at h
      obtain ⟨xs, h2, h3⟩ := h
      exact ⟨m, xs, rfl, hc, h2, h3.symm⟩
    · cases h
theorem trod_array {fuel n : Nat} {t e : TypeId} {cs : List Value} {x : DataW H × List MemPlace} (ht : P.underlying t = some (.array n e)) (h : DataW.trod enc P w base sp held fuel t cs = some x) :
    ∃ m xs, fuel = m + 1 ∧ cs.length = P.cellsOf t ∧ ((List.range n).mapM fun i => DataW.trod enc P w base sp held m e ((cs.drop (i * P.cellsOf e)).take (P.cellsOf e))) = some xs ∧ x = (.agg (xs.map (·.1)), xs.flatMap (·.2)) := by
  cases fuel with
  | zero => simp [DataW.trod] at h
  | succ m =>
    unfold DataW.trod at h
    simp only [ht] at h
    split at h
    · rename_i hc
      simp only [Option.map_eq_some_iff] at h
      obtain ⟨xs, h2, h3⟩ := h
      exact ⟨m, xs, rfl, hc, h2, h3.symm⟩
    · cases h
theorem arr13 {α : Type} (cs : Array α) (h : cs.size = 13) : ∃ a b c d e f g i j k l m n, cs = #[a, b, c, d, e, f, g, i, j, k, l, m, n] := by
  obtain ⟨q⟩ := cs
  match q, h with
  | [a, b, c, d, e, f, g, i, j, k, l, m, n], _ => exact ⟨a, b, c, d, e, f, g, i, j, k, l, m, n, rfl⟩
theorem lst12 {α : Type} (q : List α) (h : q.length = 12) : ∃ a b c d e f g i j k l m, q = [a, b, c, d, e, f, g, i, j, k, l, m] := by
  match q, h with
  | [a, b, c, d, e, f, g, i, j, k, l, m], _ => exact ⟨a, b, c, d, e, f, g, i, j, k, l, m, rfl⟩
theorem mapM_cons_some {α β : Type} {f : α → Option β} {a : α} {l : List α} {ys : List β} (h : (a :: l).mapM f = some ys) : ∃ y r, f a = some y ∧ l.mapM f = some r ∧ ys = y :: r := by
  simp only [List.mapM_cons] at h
  cases hf : f a with
  | none => rw [hf] at h; cases h
  | some y =>
    cases hr : l.mapM f with
    | none => rw [hf, hr] at h; cases h
    | some r => rw [hf, hr] at h; cases h; exact ⟨y, r, rfl, rfl, rfl⟩
theorem mapM_nil_some {α β : Type} {f : α → Option β} {ys : List β} (h : ([] : List α).mapM f = some ys) : ys = [] := by
  simp at h; exact h
theorem arr5 {α : Type} (cs : Array α) (h : cs.size = 5) : ∃ a b c d e, cs = #[a, b, c, d, e] := by
  obtain ⟨l⟩ := cs
  match l, h with
  | [a, b, c, d, e], _ => exact ⟨a, b, c, d, e, rfl⟩
theorem mapM_get {α β : Type} {f : α → Option β} : ∀ {l : List α} {ys : List β}, l.mapM f = some ys → ys.length = l.length ∧ ∀ (i : Nat) a, l[i]? = some a → ∃ y, ys[i]? = some y ∧ f a = some y
  | [], ys, h => by
    obtain rfl := mapM_nil_some h
    exact ⟨rfl, fun i a hi => by simp at hi⟩
  | a :: l, ys, h => by
    obtain ⟨y, r, h1, h2, rfl⟩ := mapM_cons_some h
    obtain ⟨h3, h4⟩ := mapM_get h2
    refine ⟨by simp [h3], fun i b hi => ?_⟩
    cases i with
    | zero =>
      simp only [List.getElem?_cons_zero, Option.some.injEq] at hi
      subst hi
      exact ⟨y, rfl, h1⟩
    | succ i =>
      simp only [List.getElem?_cons_succ] at hi
      exact h4 i b hi
theorem cells_get {a : Addr} {n : Nat} {cs : List Value} (h : w.cells? base a n = some cs) : cs.length = n ∧ Cells w a cs := by
  unfold World.cells? at h
  split at h
  · obtain ⟨h1, h2⟩ := mapM_get h
    rw [List.length_range] at h1
    refine ⟨h1, fun j u hu => ?_⟩
    have hj : j < n := by have := (List.getElem?_eq_some_iff.1 hu).1; omega
    obtain ⟨y, h3, h4⟩ := h2 j j (by rw [List.getElem?_range hj])
    rw [hu] at h3
    cases h3
    exact h4
  · cases h
theorem trod_slice {fuel : Nat} {t e : TypeId} {cs : List Value} {x : DataW H × List MemPlace} (ht : P.underlying t = some (.slice e)) (h : DataW.trod enc P w base sp held fuel t cs = some x) :
    (cs = [.slice none 0 0] ∧ x.1 = .nil) ∨ ∃ m a len cap elems rest, fuel = m + 1 ∧ cs = [.slice (some a) len cap] ∧ len ≤ cap ∧
      ((List.range len).mapM fun i => (w.cells? base (a.add (i * P.cellsOf e)) (P.cellsOf e)).bind (DataW.trod enc P w base sp held m e)) = some elems ∧ x.1 = .slice (elems.map (·.1)) rest := by
  cases fuel with
  | zero => simp [DataW.trod] at h
  | succ m =>
    unfold DataW.trod at h
    simp only [ht] at h
    split at h <;> rename_i hx <;> (first | (cases hx; done) | skip)
    · simp only [Option.some.injEq] at h
      subst h
      exact .inl ⟨rfl, rfl⟩
    · cases hx
      split at h
      · rename_i hc
        obtain ⟨elems, h1, h2⟩ := Option.bind_eq_some_iff.1 h
        obtain ⟨rest, h3, h4⟩ := Option.map_eq_some_iff.1 h2
        exact .inr ⟨m, _, _, _, elems, rest.map (·.1), rfl, rfl, hc.2.1, h1, by rw [← h4]⟩
      · cases h
    all_goals (cases h; done)
theorem flat_get {α β : Type} (f : α → List β) (k : Nat) (hk : 0 < k) (hf : ∀ x, (f x).length = k) : ∀ (l : List α) (j : Nat), (l.flatMap f)[j]? = (l[j / k]?).bind fun x => (f x)[j % k]?
  | [], j => by simp
  | x :: l, j => by
    rw [List.flatMap_cons]
    by_cases hj : j < k
    · rw [List.getElem?_append_left (by rw [hf]; exact hj), Nat.div_eq_of_lt hj, Nat.mod_eq_of_lt hj]
      rfl
    · obtain ⟨q, rfl⟩ : ∃ q, j = q + k := ⟨j - k, by omega⟩
      rw [List.getElem?_append_right (by rw [hf]; omega), hf, Nat.add_sub_cancel, flat_get f k hk hf l q, Nat.add_div_right _ hk, Nat.add_mod_right]
      rfl
/-- A slice of structs, each read as an item. -/
theorem rd_items {R : Type} (f : R → List Value) (k : Nat) (hk : 0 < k) (hf : ∀ x, (f x).length = k) (Q : R → DataW H → Prop) {e : TypeId} (hc : P.cellsOf e = k) {m len cap : Nat} {a : Addr} {elems : List (DataW H × List MemPlace)} (hle : len ≤ cap)
    (hitem : ∀ cs x, DataW.trod enc P w base sp held m e cs = some x → ∃ r, cs = f r ∧ Q r x.1)
    (h : ((List.range len).mapM fun i => (w.cells? base (a.add (i * P.cellsOf e)) (P.cellsOf e)).bind (DataW.trod enc P w base sp held m e)) = some elems) :
    ∃ l : List R, Rd w k (some a) len cap (l.flatMap f) ∧ l.length = len ∧ elems.length = len ∧ ∀ r ∈ l, ∃ d ∈ elems.map (·.1), Q r d := by
  obtain ⟨h1, h2⟩ := mapM_get h
  rw [List.length_range] at h1
  have h3 : ∀ i : Fin len, ∃ r : R, Cells w (a.add (i.val * k)) (f r) ∧ ∃ d ∈ elems.map (·.1), Q r d := fun i => by
    obtain ⟨y, h4, h5⟩ := h2 i.val i.val (by rw [List.getElem?_range i.isLt])
    obtain ⟨cs, h6, h7⟩ := Option.bind_eq_some_iff.1 h5
    obtain ⟨r, rfl, hq⟩ := hitem _ _ h7
    rw [hc] at h6
    exact ⟨r, (cells_get h6).2, y.1, List.mem_map.2 ⟨y, List.mem_of_getElem? h4, rfl⟩, hq⟩
  obtain ⟨g, hg⟩ := Classical.axiomOfChoice h3
  refine ⟨List.ofFn g, ⟨?_, fun ha => (by cases ha), hle, fun b hb j u hu => ?_⟩, by simp, h1, fun r hr => ?_⟩
  · have : ∀ (l : List R), (l.flatMap f).length = l.length * k := by
      intro l
      induction l with
      | nil => simp
      | cons x l ih => rw [List.flatMap_cons, List.length_append, ih, hf, List.length_cons, Nat.add_mul]; omega
    rw [this, List.length_ofFn]
  · cases hb
    rw [flat_get f k hk hf] at hu
    obtain ⟨r, h4, h5⟩ := Option.bind_eq_some_iff.1 hu
    have hl := (List.getElem?_eq_some_iff.1 h4)
    obtain ⟨h6, h7⟩ := hl
    rw [List.length_ofFn] at h6
    rw [List.getElem_ofFn] at h7
    have h8 := (hg ⟨j / k, h6⟩).1
    rw [h7] at h8
    have := h8 (j % k) u h5
    rw [Addr.add_add, Nat.mul_comm, Nat.div_add_mod] at this
    exact this
  · obtain ⟨i, hi⟩ := List.getElem?_of_mem hr
    obtain ⟨h6, h7⟩ := List.getElem?_eq_some_iff.1 hi
    rw [List.length_ofFn] at h6
    rw [List.getElem_ofFn] at h7
    rw [← h7]
    exact (hg ⟨i, h6⟩).2
end
end Go.HL
