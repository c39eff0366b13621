/- Readings of slices with their spare room; rows of bytes. No program in sight. -/
import Derived.Test.YtobfahafpmipfaaHT
set_option linter.unusedVariables false
set_option linter.unusedSimpArgs false
namespace Go.HL
open Go.RowKit
/-- A slice's reading, its spare room with it. -/
theorem trod_slice_w {H : Type} {enc : TypeId × Value → H} {P : Program} {w : World} {base : Nat} {held : Bool} {fuel : Nat} {t e : TypeId} {cs : List Value} {x : DataW H × List MemPlace} (ht : P.underlying t = some (.slice e)) (h : DataW.trod enc P w base (fun _ => true) held fuel t cs = some x) :
    (cs = [.slice none 0 0] ∧ x.1 = .nil) ∨ ∃ m a len cap elems rest, fuel = m + 1 ∧ cs = [.slice (some a) len cap] ∧ len ≤ cap ∧
      ((List.range len).mapM fun i => (w.cells? base (a.add (i * P.cellsOf e)) (P.cellsOf e)).bind (DataW.trod enc P w base (fun _ => true) held m e)) = some elems ∧ x.1 = .slice (elems.map (·.1)) rest ∧ rest.length = cap - len := by
  cases fuel with
  | zero => simp [DataW.trod] at h
  | succ m =>
    unfold DataW.trod at h
    simp only [ht] at h
    split at h <;> rename_i hx <;> (first | (cases hx; done) | skip)
    · simp only [Option.some.injEq] at h
      subst h
      exact .inl ⟨rfl, rfl⟩
    · cases hx
      split at h
      · rename_i hc
        obtain ⟨elems, h1, h2⟩ := Option.bind_eq_some_iff.1 h
        obtain ⟨rest, h3, h4⟩ := Option.map_eq_some_iff.1 h2
        simp only [if_true] at h3
        have h5 := (mapM_get h3).1
        rw [List.length_range] at h5
        exact .inr ⟨m, _, _, _, elems, rest.map (·.1), rfl, rfl, hc.2.1, h1, by rw [← h4], by simpa using h5⟩
      · cases h
    all_goals (cases h; done)
/-- Bytes in memory. -/
structure Hb where
  a : Option Addr
  n : Nat
  c : Nat
  l : List UInt8
def Hb.val (m : Hb) : Value := .slice m.a m.n m.c
def HbOk (W : World) (m : Hb) : Prop := Rd W 1 m.a m.n m.c (bs m.l)
/-- Rows of bytes that read as these. -/
structure Hbs (W : World) (A : Option Addr) (n c : Nat) (X : List Hb) : Prop where
  r : Rd W 1 A n c (X.map Hb.val)
  m : ∀ m ∈ X, HbOk W m
theorem weightsAll_mem {H : Type} {P : Program} {e : TypeId} {d : DataW H} {q : Nat} (hq : q ∈ d.weights P e) : ∀ {l : List (DataW H)}, d ∈ l → q ∈ DataW.weightsAll P e l
  | x :: r, h => by
    simp only [DataW.weightsAll, List.mem_append]
    rcases List.mem_cons.1 h with h1 | h1
    · subst h1; exact .inl hq
    · exact .inr (weightsAll_mem hq h1)
section
variable {H : Type} {enc : TypeId × Value → H} {P : Program} {W : World} {base : Nat} {held : Bool}
theorem bytes_item {t e : TypeId} (hu : P.underlying t = some (.slice e)) (he : P.underlying e = some (.int .u8)) (hc : P.cellsOf e = 1) (hb : P.bytesOf e = 1) (m : Nat) (cs : List Value) (x : DataW H × List MemPlace) (h : DataW.trod enc P W base (fun _ => true) held m t cs = some x) :
    ∃ r : Hb, cs = [r.val] ∧ HbOk W r ∧ ((∀ q ∈ x.1.weights P t, q ≤ reachBytes) → r.c ≤ 140737488351232) := by
  rcases trod_slice_w hu h with ⟨hcs, hx⟩ | ⟨m1, a, len, cap, elems, rest, rfl, hcs, hle, hm, hx, hrest⟩
  · exact ⟨⟨none, 0, 0, []⟩, hcs, Rd.nil W 1, fun _ => by show 0 ≤ _; omega⟩
  · have h' : DataW.Trod enc P W base (fun _ => true) held t (.slice (some a) len cap) x.1 x.2 := ⟨m1 + 1, by rw [hcs] at h; exact h⟩
    obtain ⟨l, hl⟩ := open_bytes hu he hc h'
    refine ⟨⟨some a, len, cap, l⟩, hcs, hl, fun hw => ?_⟩
    have h1 := hw ((elems.length + rest.length) * P.bytesOf e) (by rw [hx]; simp [DataW.weights, hu])
    obtain ⟨h2, _⟩ := mapM_get hm
    rw [List.length_range] at h2
    rw [hb, h2, hrest] at h1
    have h3 : reachBytes = 140737488351232 := rfl
    show cap ≤ _
    omega
/-- A [][]byte among the arguments. -/
theorem open_rows {t e b : TypeId} (hu : P.underlying t = some (.slice e)) (he : P.underlying e = some (.slice b)) (hb : P.underlying b = some (.int .u8)) (hce : P.cellsOf e = 1) (hcb : P.cellsOf b = 1) (hbb : P.bytesOf b = 1) {a : Option Addr} {len cap : Nat} {d : DataW H} {ps : List MemPlace}
    (h : DataW.Trod enc P W base (fun _ => true) held t (.slice a len cap) d ps) (hw : ∀ q ∈ d.weights P t, q ≤ reachBytes) : ∃ X : List Hb, Hbs W a len cap X ∧ ∀ m ∈ X, m.c ≤ 140737488351232 := by
  obtain ⟨fuel, hf⟩ := h
  rcases trod_slice_w hu hf with ⟨hcs, hx⟩ | ⟨m1, a', len', cap', elems, rest, rfl, hcs, hle, hm, hx, hrest⟩
  · simp [Value.cells] at hcs
    obtain ⟨rfl, rfl, rfl⟩ := hcs
    exact ⟨[], ⟨Rd.nil W 1, fun m hm => by cases hm⟩, fun m hm => by cases hm⟩
  · simp [Value.cells] at hcs
    obtain ⟨rfl, rfl, rfl⟩ := hcs
    obtain ⟨l, h1, h2, h3, h4⟩ := rd_items (fun m : Hb => [m.val]) 1 (by omega) (fun _ => rfl) (fun r d => HbOk W r ∧ ((∀ q ∈ d.weights P e, q ≤ reachBytes) → r.c ≤ 140737488351232)) hce hle (fun cs x h => bytes_item he hb hcb hbb m1 cs x h) hm
    refine ⟨l, ⟨?_, fun m hm => ?_⟩, fun m hm => ?_⟩
    · have : ∀ l : List Hb, l.flatMap (fun m : Hb => [m.val]) = l.map Hb.val := fun l => by
        induction l with
        | nil => rfl
        | cons x l ih => simp only [List.flatMap_cons, List.map_cons, ih]; rfl
      rwa [this] at h1
    · obtain ⟨_, _, h5, _⟩ := h4 m hm
      exact h5
    · obtain ⟨dd, hd, _, h6⟩ := h4 m hm
      refine h6 fun q hq => hw q ?_
      dsimp only at hx
      rw [hx]
      simp only [DataW.weights, hu, List.mem_cons, List.mem_append]
      exact .inr (.inl (weightsAll_mem hq hd))
end
end Go.HL
