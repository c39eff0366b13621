/- A cache in memory: its map, its linked row; drop, sweep: contracts. -/
import Derived.Test.YtioehogncgloiaaCE
import Derived.DeepKeys4
import Derived.Maps.OwnSet
import Derived.Maps.Views
namespace Go.Proofs.Ytioehogncgloiaa
open Go.RowKit Go.HL Go.Maps
set_option linter.unusedVariables false
set_option linter.unusedSimpArgs false
theorem laidOutQ : laidOutB Try.prog = true := by kernel_rfl
theorem qlaw : Keyed Try.prog 25 := Keyed.of_law (deep_law_laid laidOutQ (m := 3) (by omega) (of_decide_eq_true (by kernel_rfl)) (by kernel_rfl) (by kernel_rfl))
theorem keyLits_q (d : Nat) (q : Qn) (h : q.ok) : Try.prog.keyLits (d + 2) 25 q.cells = some [.string q.nm.data.toList, .int .u16 q.ty, .int .u16 q.cl] := by
  have hc : Try.prog.cellsOf 25 = 3 := by kernel_rfl
  have h1 : Try.prog.cellsOf 22 = 1 := by kernel_rfl
  have h2 : Try.prog.cellsOf 23 = 1 := by kernel_rfl
  have w1 : (Lit.int .u16 q.ty).wf = true := by simp [Lit.wf, IntKind.min, IntKind.max, IntKind.signed, IntKind.bits]; exact ⟨h.ty.1, by have := h.ty.2; omega⟩
  have w2 : (Lit.int .u16 q.cl).wf = true := by simp [Lit.wf, IntKind.min, IntKind.max, IntKind.signed, IntKind.bits]; exact ⟨h.cl.1, by have := h.cl.2; omega⟩
  have hn := h.nm
  unfold Program.keyLits
  simp only [Try.underlying25, hc, Qn.cells]
  simp [h1, h2, Program.keyLits, Try.underlying22, Try.underlying23, w1, w2, hn]
/-- What a key reads as. -/
def kl (q : Qn) : Lit := .string (keyBytes [.string q.nm.data.toList, .int .u16 q.ty, .int .u16 q.cl])
theorem kl_spec (q : Qn) (h : q.ok) : keyOf Try.prog 25 q.val = some (kl q) := by
  have h1 : Try.prog.keyType 25 = true := by kernel_rfl
  have h2 : q.val.formed Try.prog 25 = true := by
    unfold Qn.val
    simp [Value.formed, Try.underlying25, show Try.prog.cellsOf 25 = 3 from by kernel_rfl]
  obtain ⟨d, hd⟩ : ∃ d, Try.prog.types.size + 1 = d + 2 := ⟨Try.prog.types.size - 1, by have : 1 ≤ Try.prog.types.size := of_decide_eq_true (by kernel_rfl); omega⟩
  have h3 := keyLits_q d q h
  unfold keyOf
  simp only [Try.underlying25]
  rw [h1, h2, hd]
  have h4 : q.val.cells.toList = q.cells := rfl
  rw [h4, h3]
  rfl
theorem qval_inj {p q : Qn} (h : p.val = q.val) : p = q := by
  unfold Qn.val at h
  cases p
  cases q
  simp at h
  simp [h]
theorem kl_inj {p q : Qn} (hp : p.ok) (hq : q.ok) (h : kl p = kl q) : p = q := qval_inj (qlaw.inj (kl_spec p hp) (by rw [h]; exact kl_spec q hq))
theorem kl_key {q : Qn} (h : q.ok) : WideAt.IsKeyLit (kl q) := qlaw.key (kl_spec q h)
/-- How a pointer to an entry reads. -/
def ptrEl : Value → Option (DataW Unit × List MemPlace)
  | .pointer none => some (.nil, [])
  | .pointer (some ⟨g, 0, none⟩) => some (.lit (.int .i64 (g : Int)), [])
  | _ => none
theorem ptrEl_some {v : Value} {g : Nat} {ps : List MemPlace} (h : ptrEl v = some (.lit (.int .i64 (g : Int)), ps)) : v = ptr (some g) := by
  unfold ptrEl at h
  split at h
  · cases h
  · rename_i g'
    simp at h
    have : g' = g := by omega
    subst this
    rfl
  · cases h
theorem ptrEl_nil {v : Value} {ps : List MemPlace} (h : ptrEl v = some (.nil, ps)) : v = ptr none := by
  unfold ptrEl at h
  split at h
  · rfl
  · cases h
  · cases h
/-- Block bm is a map that leads to just these entries. -/
def MapR (W : World) (bm : Nat) (row : List Ce) : Prop :=
  ∃ (D : DataW Unit) (n : Nat), W.ownsMap Try.prog 25 ptrEl bm n D ∧ Maps.size D = row.length ∧ (∀ c ∈ row, Maps.has D (kl c.e.key) = true ∧ D.atKey (kl c.e.key) .nil = .lit (.int .i64 (c.b : Int))) ∧ ∀ k, Maps.has D k = true → ∃ c ∈ row, kl c.e.key = k
theorem MapR.fr {S : Nat → Prop} {W W' : World} {bm : Nat} {row : List Ce} (h : MapR W bm row) (k : Fr S W W') (hn : ¬ S bm) : MapR W' bm row := by
  obtain ⟨D, n, ⟨es, clock, h1, h2⟩, h3⟩ := h
  exact ⟨D, n, ⟨es, clock, (k.block _ (Array.getElem?_eq_some_iff.1 h1).1 hn).trans h1, h2⟩, h3⟩
theorem MapR.noblk {W : World} {bm g : Nat} {row : List Ce} {t : TypeId} {cs : List Value} (h : MapR W bm row) (hb : Blk W g t cs) : g ≠ bm := fun e => by
  obtain ⟨D, n, ⟨es, clock, h1, h2⟩, h3⟩ := h
  have h' : W.heap[g]? = _ := hb
  rw [e, h1] at h'
  cases h'
theorem MapR.lt {W : World} {bm : Nat} {row : List Ce} (h : MapR W bm row) : bm < W.heap.size := by
  obtain ⟨D, n, h1, _⟩ := h
  exact h1.lt
theorem MapR.made (W : World) : MapR (W.alloc (.map #[] 0)) W.heap.size [] :=
  ⟨.map [], 0, World.ownsMap_made _ _ _ _, rfl, fun c h => (by cases h), fun k h => (by simp [Maps.has] at h)⟩
theorem zeroPtr (W : World) : (zeroValue 74).run Try.prog W = .ok (.pointer none) W := by
  have h : (Try.prog.info? 74).map (·.zero) = some (some (.pointer none)) := by kernel_rfl
  obtain ⟨i, hi, hz⟩ := Option.map_eq_some_iff.1 h
  simp [zeroValue, typeInfo, hi, hz]
theorem MapR.look {W : World} {bm : Nat} {row : List Ce} (h : MapR W bm row) (hok : ∀ c ∈ row, c.e.key.ok) (hnk : (row.map fun c => kl c.e.key).Nodup) (q : Qn) (hq : q.ok) :
    (∀ l1 e l2, row = l1 ++ e :: l2 → e.e.key = q → (Instr.lookup 73 (.map (some bm)) q.val false).run Try.prog W = .ok (ptr (some e.b)) W) ∧
    ((∀ c ∈ row, c.e.key ≠ q) → (Instr.lookup 73 (.map (some bm)) q.val false).run Try.prog W = .ok (ptr none) W) := by
  obtain ⟨D, n, h1, h2, h3, h4⟩ := h
  obtain ⟨v, ps, hrun, hv⟩ := h1.lookup qlaw Try.underlying73 (zeroPtr W) (zd := .nil) (zp := []) rfl (kl_spec q hq)
  refine ⟨fun l1 e l2 he hk => ?_, fun hno => ?_⟩
  · obtain ⟨_, h5⟩ := h3 e (by rw [he]; simp)
    rw [hk] at h5
    rw [h5] at hv
    rw [hrun, ptrEl_some hv]
  · have hh : Maps.has D (kl q) = false := by
      cases hx : Maps.has D (kl q) with
      | false => rfl
      | true =>
        obtain ⟨c, hc, hk⟩ := h4 _ hx
        exact absurd (kl_inj (hok c hc) hq hk) (hno c hc)
    rw [Maps.atKey_of_not_has hh] at hv
    rw [hrun, ptrEl_nil hv]
theorem MapR.shrink {W : World} {bm n : Nat} {D : DataW Unit} (h : W.ownsMap Try.prog 25 ptrEl bm n D) : W.ownsMap Try.prog 25 ptrEl bm (Maps.size D) D := by
  obtain ⟨es, clock, h1, h2, h3, rfl⟩ := h
  exact ⟨es, clock, h1, h2, by show es.size ≤ (_ : List _).length; rw [length_read]; exact Nat.le_refl _, rfl⟩
theorem MapR.put {W : World} {bm : Nat} {row : List Ce} (h : MapR W bm row) (hok : ∀ c ∈ row, c.e.key.ok) (e : Ce) (he : e.e.key.ok) (hno : ∀ c ∈ row, c.e.key ≠ e.e.key) (hlen : row.length < 100000) :
    ∃ W', (Instr.mapUpdate 73 (.map (some bm)) e.e.key.val (ptr (some e.b))).run Try.prog W = .ok () W' ∧ MapR W' bm (row ++ [e]) ∧ W.grownBy W' (some bm) := by
  obtain ⟨D, n, h1, h2, h3, h4⟩ := h
  have ht := h1.tidy qlaw
  have hm := ht.isMap
  obtain ⟨W', hrun, h5, h6⟩ := (MapR.shrink h1).update qlaw Try.underlying73 (by rw [h2]; simp only [maxLen]; omega) (kl_spec e.e.key he) (val := ptr (some e.b)) (d := .lit (.int .i64 (e.b : Int))) (ps := []) rfl
  have hh : Maps.has D (kl e.e.key) = false := by
    cases hx : Maps.has D (kl e.e.key) with
    | false => rfl
    | true =>
      obtain ⟨c, hc, hk⟩ := h4 _ hx
      exact absurd (kl_inj (hok c hc) he hk) (hno c hc)
  refine ⟨W', hrun, ⟨_, _, h5, ?_, fun c hc => ?_, fun k hk => ?_⟩, h6⟩
  · rw [Maps.size_put ht, hh, h2]; simp
  · rcases List.mem_append.1 hc with hc | hc
    · have hne : kl c.e.key ≠ kl e.e.key := fun x => hno c hc (kl_inj (hok c hc) he x)
      rw [Maps.has_put_other hne, Maps.atKey_put_other hne]
      exact h3 c hc
    · obtain rfl : c = e := by simpa using hc
      rw [Maps.has_put_same hm (kl_key he), Maps.atKey_put_same hm (kl_key he)]
      exact ⟨rfl, rfl⟩
  · by_cases hke : k = kl e.e.key
    · exact ⟨e, by simp, hke.symm⟩
    · rw [Maps.has_put_other hke] at hk
      obtain ⟨c, hc, hck⟩ := h4 k hk
      exact ⟨c, by simp [hc], hck⟩
theorem MapR.del {W : World} {bm : Nat} {l1 l2 : List Ce} {e : Ce} (h : MapR W bm (l1 ++ e :: l2)) (he : e.e.key.ok) (hnk : ((l1 ++ e :: l2).map fun c => kl c.e.key).Nodup) (ty : TypeId) :
    ∃ W', (Builtin.delete_ #[73, 25] ty #[.map (some bm), e.e.key.val]).run Try.prog W = .ok (.tuple #[]) W' ∧ MapR W' bm (l1 ++ l2) ∧ W.grownBy W' (some bm) := by
  obtain ⟨D, n, h1, h2, h3, h4⟩ := h
  have ht := h1.tidy qlaw
  obtain ⟨W', hrun, h5, h6⟩ := h1.drop qlaw Try.underlying73 (kl_spec e.e.key he) ty
  have hhe := (h3 e (by simp)).1
  have hne : ∀ c ∈ l1 ++ l2, kl c.e.key ≠ kl e.e.key := by
    intro c hc
    have := hnk
    simp [List.nodup_append] at this
    grind
  refine ⟨W', hrun, ⟨_, _, h5, ?_, fun c hc => ?_, fun k hk => ?_⟩, h6.grown⟩
  · have := Maps.size_del (k := kl e.e.key) ht
    rw [hhe, h2] at this
    simp at this ⊢
    omega
  · rw [Maps.has_del_other (hne c hc), Maps.atKey_del_other (hne c hc)]
    exact h3 c (by simp at hc ⊢; rcases hc with h | h <;> simp [h])
  · by_cases hke : k = kl e.e.key
    · subst hke
      rw [Maps.has_del_same] at hk
      cases hk
    · rw [Maps.has_del_other hke] at hk
      obtain ⟨c, hc, hck⟩ := h4 k hk
      refine ⟨c, ?_, hck⟩
      simp at hc ⊢
      rcases hc with h | h | h
      · exact .inl h
      · subst h; exact absurd hck.symm hke
      · exact .inr h
end Go.Proofs.Ytioehogncgloiaa
