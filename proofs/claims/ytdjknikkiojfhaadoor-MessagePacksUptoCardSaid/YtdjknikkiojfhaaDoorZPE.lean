import Derived.Test.YtdjknikkiojfhaaDoorZPC
import Derived.Test.YtdjknikkiojfhaaDoorZPD
import Derived.Maps.OwnIn
/- press: what holds while a name is written. -/
namespace Go.Proofs.YtdjknikkiojfhaaDoor
open Go.RowKit Go.HL Go.Maps
set_option linter.unusedVariables false
set_option linter.unusedSimpArgs false
theorem klaw : Keyed Tryd.prog 40 := string_keyed Tryd.underlying40
theorem kzero (w : World) : (zeroValue 3).run Tryd.prog w = .ok (.int .i64 0) w := by kernel_rfl
/-- Block b is a map that holds just what is remembered. -/
def Tbl (W : World) (b : Nat) (tab : Tb) : Prop := ∃ (D : DataW Unit) (n : Nat), W.ownsMap Tryd.prog 40 (plainElem Tryd.prog 3) b n D ∧ TabOk D tab ∧ n ≤ tab.length ∧ ∀ p ∈ tab, p.2 ≤ 16383
theorem Tbl.kept {W W' : World} {b : Nat} {tab : Tb} {row : Option Nat} (h : Tbl W b tab) (hg : W.grownBy W' row) (hne : some b ≠ row) : Tbl W' b tab := by
  obtain ⟨D, n, h1, h2⟩ := h
  exact ⟨D, n, h1.kept hg hne, h2⟩
theorem Tbl.lt {W : World} {b : Nat} {tab : Tb} (h : Tbl W b tab) : b < W.heap.size := by
  obtain ⟨D, n, h1, h2⟩ := h
  exact h1.lt
theorem Tbl.nocells {W : World} {b : Nat} {tab : Tb} (h : Tbl W b tab) (o : Obj) (ho : W.heap[b]? = some o) : o.isCells = false := by
  obtain ⟨D, n, ⟨es, clock, h1, _⟩, h2⟩ := h
  rw [ho] at h1
  cases h1
  rfl
theorem Tbl.made (W : World) : Tbl (W.alloc (.map #[] 0)) W.heap.size [] := ⟨_, 0, World.ownsMap_made _ _ _ _, TabOk.nil, Nat.le_refl _, fun p h => by cases h⟩

/-- While a name is written: what has come, what is still to come. -/
structure RowP (plain : Bool) (l : List UInt8) (ls : List (List UInt8)) (tab : Tb) (pre : List ByteArray) (out : List UInt8) (ls1 : List (List UInt8)) (tab1 : Tb) : Prop where
  fr : frs ls = pre ++ frs ls1
  ok : okL ls1
  en : en plain tab ls l.length = (out ++ (en plain tab1 ls1 (l.length + out.length)).1, (en plain tab1 ls1 (l.length + out.length)).2)
  len : out.length + (gl ls1).length = (gl ls).length
  cnt : tab1.length ≤ tab.length + pre.length
/-- .. as it lies in memory. -/
structure RowM (w : World) (B Bs gt bm : Nat) (plain : Bool) (l : List UInt8) (W : World) (v : Value) (out : List UInt8) (tab1 : Tb) : Prop where
  b0 : Boxed W w.heap.size 81 (.pointer (some ⟨gt, 0, none⟩))
  b1 : Boxed W (w.heap.size + 1) 4 (.bool plain)
  b2 : Boxed W (w.heap.size + 2) 27 (.slice none 0 0)
  b3 : Boxed W (w.heap.size + 3) 28 (.int .i64 0)
  bB : Boxed W B 27 v
  bS : ∃ u, Boxed W Bs 40 u
  own : W.ownsRow (w.heap.size + 4) 5 1 v (l.length + out.length) (bs (l ++ out))
  cell : W.cell? ⟨gt, 0, none⟩ = some (.map (some bm))
  tbl : Tbl W bm tab1
  gtl : gt < w.heap.size
  bml : bm < w.heap.size
  gb : gt ≠ bm
  BB : w.heap.size + 4 ≤ B
  BS : w.heap.size + 4 ≤ Bs
  ne : Bs ≠ B
  grown : w.grownBy W (some bm)
section
variable {w : World} {B Bs gt bm : Nat} {plain : Bool} {l : List UInt8} {W W' : World} {v : Value} {out : List UInt8} {tab1 : Tb}
theorem RowM.kept {row : Option Nat} (h : RowM w B Bs gt bm plain l W v out tab1) (hg : W.grownBy W' row) (h1 : ∀ k, row = some k → w.heap.size + 4 ≤ k ∧ k ≠ B ∧ v.ownBlock ≠ some k) (h2 : ∃ u, Boxed W' Bs 40 u) : RowM w B Bs gt bm plain l W' v out tab1 := by
  have hne : ∀ k, k < w.heap.size + 4 → some k ≠ row := fun k hk e => by have := (h1 k e.symm).1; omega
  have hgt := h.gtl
  have hbm := h.bml
  have hz := h.grown.size
  exact ⟨h.b0.kept hg (hne _ (by omega)), h.b1.kept hg (hne _ (by omega)), h.b2.kept hg (hne _ (by omega)), h.b3.kept hg (hne _ (by omega)), h.bB.kept hg (fun e => (h1 B e.symm).2.1 rfl), h2,
    h.own.kept hg (by
      cases hv : v.ownBlock with
      | none => exact .inl rfl
      | some k => exact .inr (fun e => by rw [hv] at h1; exact (h1 k e.symm).2.2 rfl)),
    hg.cell h.cell (hne _ (by show gt < _; omega)), h.tbl.kept hg (hne _ (by omega)), h.gtl, h.bml, h.gb, h.BB, h.BS, h.ne,
    ⟨hg.os.trans h.grown.os, hg.tape.trans h.grown.tape, hg.output.trans h.grown.output, Nat.le_trans hz hg.size, fun k hk hn => by
      rw [hg.block k (Nat.lt_of_lt_of_le hk hz) (hne k (by omega)), h.grown.block k hk hn]⟩⟩
theorem RowM.new (h : RowM w B Bs gt bm plain l W v out tab1) (hg : W.grownBy W' none) : RowM w B Bs gt bm plain l W' v out tab1 :=
  h.kept hg (fun k e => by cases e) (by obtain ⟨u, hu⟩ := h.bS; exact ⟨u, hu.kept hg (by simp)⟩)
theorem RowM.setS (h : RowM w B Bs gt bm plain l W v out tab1) (x : Value) : RowM w B Bs gt bm plain l (W.setCell ⟨Bs, 0, none⟩ x) v out tab1 := by
  obtain ⟨u, hu⟩ := h.bS
  exact h.kept (grownBy_setCell' W Bs x) (fun k e => by cases e; exact ⟨h.BS, h.ne, fun e => hu.not_row (by decide) h.own e.symm⟩) ⟨x, hu.set x⟩
theorem RowM.put (h : RowM w B Bs gt bm plain l W v out tab1) (k : Nat) (o o' : Obj) (hk : w.heap.size + 4 ≤ k) (ho : W.heap[k]? = some o) (hc : o.isCells = false) : RowM w B Bs gt bm plain l (W.putObj k o') v out tab1 := by
  have hb : ∀ (b : Nat) t u, Boxed W b t u → k ≠ b := fun b t u hu e => by
    subst e
    have h2 : W.heap[k]? = _ := hu
    rw [ho] at h2
    cases h2
    cases hc
  have hg := grownBy_putObj' W k o'
  obtain ⟨u, hu⟩ := h.bS
  refine h.kept hg (fun q e => ?_) ⟨u, hu.kept hg (fun e => hb _ _ _ hu (by cases e; rfl))⟩
  cases e
  refine ⟨hk, hb _ _ _ h.bB, fun e => ?_⟩
  rcases h.own.2 with ⟨h3, _⟩ | ⟨g, cap, cur, h3, _, h4, _⟩
  · rw [h3] at e; cases e
  · rw [h3] at e; cases e
    rw [ho] at h4
    cases h4
    cases hc
/-- A block of cells is not the map's. -/
theorem RowM.nomap (h : RowM w B Bs gt bm plain l W v out tab1) {k : Nat} {t : TypeId} {u : Value} (hk : Boxed W k t u) : k ≠ bm := fun e => by
  subst e
  have := h.tbl.nocells _ hk
  cases this
theorem RowM.map {tab2 : Tb} (h : RowM w B Bs gt bm plain l W v out tab1) (hg : W.grownBy W' (some bm)) (ht : Tbl W' bm tab2) : RowM w B Bs gt bm plain l W' v out tab2 := by
  have hz := h.grown.size
  obtain ⟨u, hu⟩ := h.bS
  have hn : ∀ {k : Nat} {t : TypeId} {u : Value}, Boxed W k t u → some k ≠ some bm := fun hk e => h.nomap hk (by simpa using e)
  refine ⟨h.b0.kept hg (hn h.b0), h.b1.kept hg (hn h.b1), h.b2.kept hg (hn h.b2), h.b3.kept hg (hn h.b3), h.bB.kept hg (hn h.bB), ⟨u, hu.kept hg (hn hu)⟩, h.own.kept hg ?_, hg.cell h.cell (by simp; exact h.gb), ht, h.gtl, h.bml, h.gb, h.BB, h.BS, h.ne,
    ⟨hg.os.trans h.grown.os, hg.tape.trans h.grown.tape, hg.output.trans h.grown.output, Nat.le_trans hz hg.size, fun k hk hn => by
      rw [hg.block k (Nat.lt_of_lt_of_le hk hz) hn, h.grown.block k hk hn]⟩⟩
  rcases h.own.2 with ⟨h3, _⟩ | ⟨g, cap, cur, h3, h5, _⟩
  · exact .inl (by rw [h3]; rfl)
  · exact .inr (fun e => by
      have h6 := h.bml
      rw [h3] at e
      have h7 : g = bm := by simpa [Value.ownBlock] using e
      omega)
/-- Bytes are put behind. -/
theorem RowM.push {W1 : World} {v' : Value} {out' : List UInt8} (h : RowM w B Bs gt bm plain l W v out tab1) (hg : W.grownBy W1 v.ownBlock) (ho : W1.ownsRow (w.heap.size + 4) 5 1 v' (l.length + out'.length) (bs (l ++ out'))) : RowM w B Bs gt bm plain l (W1.setCell ⟨B, 0, none⟩ v') v' out' tab1 := by
  have hz := h.grown.size
  obtain ⟨u, hu⟩ := h.bS
  have hn : ∀ {k : Nat} {t : TypeId} {u : Value}, Boxed W k t u → t ≠ 5 → some k ≠ v.ownBlock := fun hk ht => hk.not_row ht h.own
  have hlow : ∀ k, k < w.heap.size + 4 → some k ≠ v.ownBlock := fun k hk e => by have := (h.own.lt k e.symm).1; omega
  have hg2 := grownBy_setCell' W1 B v'
  have hbB1 := h.bB.kept hg (hn h.bB (by decide))
  have hBB := h.BB
  have hgt := h.gtl
  have hbm := h.bml
  have hne := h.ne
  refine ⟨(h.b0.kept hg (hn h.b0 (by decide))).kept hg2 (by simp; omega), (h.b1.kept hg (hn h.b1 (by decide))).kept hg2 (by simp; omega), (h.b2.kept hg (hn h.b2 (by decide))).kept hg2 (by simp; omega), (h.b3.kept hg (hn h.b3 (by decide))).kept hg2 (by simp; omega), hbB1.set v', ⟨u, (hu.kept hg (hn hu (by decide))).kept hg2 (by simp; omega)⟩, ho.kept hg2 ?_,
    hg2.cell (hg.cell h.cell (hlow _ (by show gt < _; omega))) (by simp; omega), (h.tbl.kept hg (hlow _ (by omega))).kept hg2 (by simp; omega), h.gtl, h.bml, h.gb, h.BB, h.BS, h.ne,
    ⟨hg2.os.trans (hg.os.trans h.grown.os), hg2.tape.trans (hg.tape.trans h.grown.tape), hg2.output.trans (hg.output.trans h.grown.output), Nat.le_trans hz (Nat.le_trans hg.size hg2.size), fun k hk hn => by
      rw [hg2.block k (Nat.lt_of_lt_of_le hk (Nat.le_trans hz hg.size)) (by simp; omega), hg.block k (Nat.lt_of_lt_of_le hk hz) (hlow k (by omega)), h.grown.block k hk hn]⟩⟩
  cases hv : v'.ownBlock with
  | none => exact .inl rfl
  | some k => exact .inr (fun e => hbB1.not_row (t := 27) (by decide) ho (by rw [hv, e]))
end
theorem RowP.next {plain : Bool} {l : List UInt8} {ls : List (List UInt8)} {tab : Tb} {pre : List ByteArray} {out : List UInt8} {x : List UInt8} {r : List (List UInt8)} {tab1 : Tb} (h : RowP plain l ls tab pre out (x :: r) tab1) (hc : ((HL.look tab1 (gl (x :: r))).isSome && !plain) = false) (tab2 : Tb)
    (ht : (if (HL.look tab1 (gl (x :: r))).isSome || decide (16383 < l.length + out.length) then tab1 else tab1 ++ [(gl (x :: r), l.length + out.length)]) = tab2) : RowP plain l ls tab (pre ++ [str (gl (x :: r))]) (out ++ (UInt8.ofNat x.length :: x)) r tab2 := by
  have he := h.en
  simp only [HL.en] at he
  rw [hc] at he
  simp only [Bool.false_eq_true, if_false] at he
  rw [ht] at he
  have hlen := h.len
  have hgl := gl_len x r
  refine ⟨by rw [h.fr]; simp [frs], h.ok.tail, ?_, by simp only [List.length_append, List.length_cons]; omega, ?_⟩
  rotate_left
  · have hct := h.cnt
    rw [← ht]
    simp only [List.length_append, List.length_cons, List.length_nil]
    split <;> (try simp only [List.length_append, List.length_cons, List.length_nil]) <;> omega
  rw [he]
  simp only [List.length_append, List.length_cons]
  rw [show l.length + (out.length + (x.length + 1)) = l.length + out.length + (1 + x.length) by omega]
  simp
theorem RowM.kos {w : World} {B Bs gt bm : Nat} {plain : Bool} {l : List UInt8} {W W1 : World} {v v' : Value} {out : List UInt8} {tab1 : Tb} (h : RowM w B Bs gt bm plain l W v out tab1) (s : Nat) (hB : B < s) (hg : W.grownBy W1 v.ownBlock) : KOs s W (W1.setCell ⟨B, 0, none⟩ v') := fun j o hj ho hc => by
  have hlt := (Array.getElem?_eq_some_iff.1 ho).1
  have h1 := (hg.block j hlt (fun e => by
    rcases h.own.2 with ⟨h3, _⟩ | ⟨g, cap, cur, h3, _, h4, _⟩
    · rw [h3] at e; cases e
    · rw [h3] at e
      cases e
      rw [ho] at h4
      cases h4
      cases hc)).trans ho
  exact ((grownBy_setCell' W1 B v').block j (Array.getElem?_eq_some_iff.1 h1).1 (by simp; omega)).trans h1
theorem RowM.kept1 {w : World} {B Bs gt bm : Nat} {plain : Bool} {l : List UInt8} {W W1 : World} {v v' : Value} {out : List UInt8} {tab1 : Tb} (h : RowM w B Bs gt bm plain l W v out tab1) (hg : W.grownBy W1 v.ownBlock) (u : Value) (hu : Boxed W Bs 40 u) : Boxed (W1.setCell ⟨B, 0, none⟩ v') Bs 40 u := by
  have hne := h.ne
  exact (hu.kept hg (hu.not_row (by decide) h.own)).kept (grownBy_setCell' W1 B v') (by simp; omega)
/-- The name is written. -/
def RowX (w : World) (bm : Nat) (plain : Bool) (l : List UInt8) (ls : List (List UInt8)) (tab : Tb) (pre : List ByteArray) (W : World) : Prop :=
  ∃ v2, Boxed W (w.heap.size + 2) 27 v2 ∧ Boxed W (w.heap.size + 3) 28 (.int .i64 0) ∧ W.ownsRow (w.heap.size + 4) 5 1 v2 (l.length + (en plain tab ls l.length).1.length) (bs (l ++ (en plain tab ls l.length).1)) ∧ Tbl W bm (en plain tab ls l.length).2 ∧ bm < w.heap.size ∧ w.grownBy W (some bm)
theorem RowX.put {w : World} {bm : Nat} {plain : Bool} {l : List UInt8} {ls : List (List UInt8)} {tab : Tb} {pre : List ByteArray} {W : World} (h : RowX w bm plain l ls tab pre W) (k : Nat) (o o' : Obj) (hk : w.heap.size + 4 ≤ k) (ho : W.heap[k]? = some o) (hc : o.isCells = false) : RowX w bm plain l ls tab pre (W.putObj k o') := by
  obtain ⟨v2, h1, h2, h3, h4, h5, h6⟩ := h
  have hg := grownBy_putObj' W k o'
  have hz := h6.size
  refine ⟨v2, h1.kept hg (by simp; omega), h2.kept hg (by simp; omega), h3.kept hg ?_, h4.kept hg (by simp; omega), h5,
    ⟨hg.os.trans h6.os, hg.tape.trans h6.tape, hg.output.trans h6.output, Nat.le_trans hz hg.size, fun j hj hn => by
      rw [hg.block j (Nat.lt_of_lt_of_le hj hz) (by simp; omega), h6.block j hj hn]⟩⟩
  rcases h3.2 with ⟨h7, _⟩ | ⟨g, cap, cur, h7, _, h8, _⟩
  · exact .inl (by rw [h7]; rfl)
  · refine .inr (fun e => ?_)
    rw [h7] at e
    cases e
    rw [ho] at h8
    cases h8
    cases hc
end Go.Proofs.YtdjknikkiojfhaaDoor
