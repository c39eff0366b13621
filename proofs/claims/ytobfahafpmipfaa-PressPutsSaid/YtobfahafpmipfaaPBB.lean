/- PressPuts: what holds of its rounds. -/
import Derived.Test.YtobfahafpmipfaaPAA
import Derived.Laws.MakeOwn
import Derived.Laws.CopyOwn
namespace Go.Proofs.Ytobfahafpmipfaa
open Go.RowKit Go.HL
set_option linter.unusedVariables false
set_option linter.unusedSimpArgs false
section
variable {ops : Array Oper} {rest : List Oper} {o : Oper} {a : Act} {Q : Exit → Act → World → Prop}
theorem wpList_zeros (w : World) (base : Nat) (hgd : o.guard = none) (s x : Operand) (ho : o.op = .call { callee := .builtin .append, args := #[s, x], argTypes := #[22, 3] })
    (v : Value) (n : Nat) (xs : List Value) (hs : a.eval s = v) (hown : w.ownsRow base 5 1 v n xs) (k : Nat) (hx : a.eval x = .int .i64 (k : Int)) (h0 : 0 < k) (hb : n + k ≤ 1000000) (hbase : base ≤ w.heap.size)
    (h : ∀ v1 w1, w1.ownsRow base 5 1 v1 (n + k) (xs ++ List.replicate k (.int .u8 0)) → w.grownBy w1 v.ownBlock → (v1.ownBlock = v.ownBlock ∨ ∀ q, v1.ownBlock = some q → w.heap.size ≤ q) → wpList Try.prog ops Q rest (a.put o.dst v1) w1) : wpList Try.prog ops Q (o :: rest) a w := by
  obtain ⟨v1, w1, hr, h1, h2, h3⟩ := own_zeros w base o.type v n xs hown k h0 hb hbase
  exact Lib.wpList_append_run w hgd s x 22 3 ho v (.int .i64 (k : Int)) hs hx v1 w1 hr (h v1 w1 h1 h2 h3)
end
theorem splice_head {α : Type} (cur cs : List α) : splice cur 0 cs = cs ++ cur.drop cs.length := by simp [splice]
structure PkW (w W : World) (va vb : Value) (L : List UInt8) (tab : Tb) : Prop where
  made : Made W (w.heap.size + 1) w.heap.size tab
  ref : ∃ vn vp, RefT W (w.heap.size + 2) vn vp tab
  ra : W.ownsRow (w.heap.size + 3) 5 1 va L.length (bs L)
  rb : W.ownsRow (w.heap.size + 3) 5 1 vb L.length (bs L)
  ap : ∀ q, va.ownBlock = some q → vb.ownBlock ≠ some q
  bel : Below w.heap.size w W
  top : w.heap.size + 3 ≤ W.heap.size
theorem PkW.below {w W W' : World} {va vb : Value} {L : List UInt8} {tab : Tb} (h : PkW w W va vb L tab) (hb : Below W.heap.size W W') : PkW w W' va vb L tab := by
  obtain ⟨vn, vp, hT⟩ := h.ref
  exact ⟨h.made.kept (below_none hb) (by simp) (by simp), ⟨vn, vp, hT.below hb⟩, own_below h.ra hb, own_below h.rb hb, h.ap, h.bel.trans (hb.mono h.bel.size), Nat.le_trans h.top hb.size⟩
theorem PkW.new (w : World) : PkW w (((w.alloc (.map #[] 0)).alloc (.cells #[.map (some w.heap.size)] 58)).alloc (.cells #[.slice none 0 0, .slice none 0 0] 37)) (.slice none 0 0) (.slice none 0 0) [] [] := by
  have hz : ((w.alloc (.map #[] 0)).alloc (.cells #[.map (some w.heap.size)] 58)).heap.size = w.heap.size + 2 := by rw [World.size_alloc, World.size_alloc]
  have hb := below_new ((w.alloc (.map #[] 0)).alloc (.cells #[.map (some w.heap.size)] 58)) (.cells #[.slice none 0 0, .slice none 0 0] 37)
  refine ⟨(Made.new w).kept (below_none hb) (by simp) (by simp), ⟨.slice none 0 0, .slice none 0 0, ⟨?_, World.ownsRow_nil _ _ _ _, World.ownsRow_nil _ _ _ _⟩⟩, World.ownsRow_nil _ _ _ _, World.ownsRow_nil _ _ _ _, (fun q hq => by cases hq), (Made.below w).trans (hb.mono (by rw [hz]; omega)), by rw [World.size_alloc, hz]; omega⟩
  have := heap_alloc_new ((w.alloc (.map #[] 0)).alloc (.cells #[.map (some w.heap.size)] 58)) (.cells #[.slice none 0 0, .slice none 0 0] 37)
  rw [hz] at this
  exact this
/-- Two rows of bytes that are kept apart: the one grows, the other stays. -/
theorem own_apart {W W' : World} {base base2 n m s s2 : Nat} {e e2 : TypeId} {va vb : Value} {xs ys : List Value} (h : W.ownsRow base e s vb n xs) (hap : ∀ q, va.ownBlock = some q → vb.ownBlock ≠ some q) (hg : W.grownBy W' va.ownBlock) : W'.ownsRow base e s vb n xs := by
  refine h.kept hg ?_
  cases hv : vb.ownBlock with
  | none => exact .inl rfl
  | some q => exact .inr (fun e => hap q e.symm hv)
theorem PkW.zeros {w W W1 W2 : World} {va vb va1 vb1 : Value} {L : List UInt8} {tab : Tb} (h : PkW w W va vb L tab) (k : Nat)
    (o1 : W1.ownsRow (w.heap.size + 3) 5 1 va1 (L.length + k) (bs L ++ List.replicate k (.int .u8 0))) (g1 : W.grownBy W1 va.ownBlock) (f1 : va1.ownBlock = va.ownBlock ∨ ∀ q, va1.ownBlock = some q → W.heap.size ≤ q)
    (o2 : W2.ownsRow (w.heap.size + 3) 5 1 vb1 (L.length + k) (bs L ++ List.replicate k (.int .u8 0))) (g2 : W1.grownBy W2 vb.ownBlock) (f2 : vb1.ownBlock = vb.ownBlock ∨ ∀ q, vb1.ownBlock = some q → W1.heap.size ≤ q) :
    PkW w W2 va1 vb1 (L ++ List.replicate k 0) tab := by
  obtain ⟨vn, vp, hT⟩ := h.ref
  have e1 : bs (L ++ List.replicate k 0) = bs L ++ List.replicate k (.int .u8 0) := by simp [bs]
  have e2 : (L ++ List.replicate k (0 : UInt8)).length = L.length + k := by simp
  have ka : ∀ q, va.ownBlock = some q → w.heap.size + 3 ≤ q ∧ q < W.heap.size := fun q hq => h.ra.lt q hq
  have kb : ∀ q, vb.ownBlock = some q → w.heap.size + 3 ≤ q ∧ q < W.heap.size := fun q hq => h.rb.lt q hq
  have z1 := g1.size
  have hap1 : ∀ q, vb.ownBlock = some q → va1.ownBlock ≠ some q := fun q hq hv => by
    rcases f1 with f1 | f1
    · rw [f1] at hv; exact h.ap q hv hq
    · have := f1 q hv; have := kb q hq; omega
  have hT1 := hT.grow h.ra (by omega) g1
  have rb1 := own_apart (base2 := 0) (m := 0) (s2 := 0) (e2 := 5) (ys := []) h.rb h.ap g1
  have hT2 := hT1.grow rb1 (by omega) g2
  have m1 := h.made.kept g1 (fun e => by have := ka _ e; omega) (fun e => by have := ka _ e; omega)
  have m2 := m1.kept g2 (fun e => by have := kb _ e; omega) (fun e => by have := kb _ e; omega)
  have b1 := h.bel.grown g1 h.bel.size (fun q hq => by have := ka _ hq; omega)
  have b2 := b1.grown g2 b1.size (fun q hq => by have := kb _ hq; omega)
  refine ⟨m2, ⟨vn, vp, hT2⟩, by rw [e1, e2]; exact own_apart (base2 := 0) (m := 0) (s2 := 0) (e2 := 5) (ys := []) o1 hap1 g2, by rw [e1, e2]; exact o2, fun q hq hv => ?_, b2, Nat.le_trans h.top (Nat.le_trans z1 g2.size)⟩
  have q1 := (o1.lt q hq)
  rcases f2 with f2 | f2
  · rw [f2] at hv; exact hap1 q hv hq
  · have := f2 q hv; omega
theorem RefT.low {X X' : World} {rt bm : Nat} {vn vp : Value} {tab : Tb} (h : RefT X rt vn vp tab) (hg : X.grownBy X' (some bm)) (hb : bm < rt) : RefT X' rt vn vp tab :=
  ⟨(hg.block rt h.lt (fun e => by cases e; omega)).trans h.box, own_kept_low h.rn (by omega) hg, own_kept_low h.rp (by omega) hg⟩
/-- The room: what was copied, and noughts behind it. -/
theorem room_own {W : World} {g base m q : Nat} {L : List UInt8} (hL : L.length = m) (hb : base ≤ g) (hm : m + q ≤ 2000000) (h : W.heap[g]? = some (.cells (bs (L ++ List.replicate q 0)).toArray 5 (0, 0))) (j : Nat) (hj : j ≤ m + q) :
    W.ownsRow base 5 1 (.slice (some ⟨g, 0, none⟩) j (m + q)) j (bs ((L ++ List.replicate q 0).take j)) := by
  refine ⟨by rw [bs_length, List.length_take, List.length_append, List.length_replicate, hL]; omega, .inr ⟨g, m + q, _, rfl, hb, h, hj, by simp only [maxLen]; omega, ?_, ?_⟩⟩
  · simp only [List.size_toArray, bs_length, List.length_append, List.length_replicate, hL]; omega
  · rw [Nat.mul_one]
    show (bs (L ++ List.replicate q 0)).take j = _
    rw [bs_take]
/-- Both wrote the name. -/
theorem PkW.puts {w W3 W4 W5 : World} {va vb x y b1 b2 : Value} {L : List UInt8} {tab : Tb} {plain : Bool} {ls : List (List UInt8)} (h : PkW w W3 va vb L tab)
    (hs : SomeB W3 w.heap.size plain L ls tab x b1 W4) (hr : RefR W4 (w.heap.size + 2) plain L ls tab y b2 W5) :
    b1 = .int .i64 0 ∧ b2 = .int .i64 0 ∧ PkW w W5 x y (L ++ (en plain tab ls L.length).1) (en plain tab ls L.length).2 ∧ (∀ {base n s : Nat} {v : Value} {cs : List Value}, w.heap.size < base → W3.ownsRow base 5 s v n cs → W5.ownsRow base 5 s v n cs) := by
  obtain ⟨h1, h2, h3, h4⟩ := hs
  obtain ⟨k1, k2, vn, vp, k3, k4⟩ := hr
  have z4 := h4.size
  have z5 := k4.1.size
  have b4 := h.bel.grown h4 h.bel.size (fun k hk => by cases hk; exact Nat.le_refl _)
  have m4 := h.made.next h4 h3
  refine ⟨h1, k1, ⟨⟨?_, m4.ne, ?_⟩, ⟨vn, vp, k3⟩, ?_, ?_, fun q hq hv => ?_, b4.trans (k4.1.mono (by omega)), by have := h.top; omega⟩, fun hb ho => k4.own (own_kept_low ho hb h4)⟩
  · have := m4.cell
    have hlt := World.block_lt_of_cell? _ _ this
    rw [← this]
    exact k4.1.cell (by show w.heap.size + 1 < w.heap.size + 2; omega)
  · obtain ⟨D, n, ⟨es, clock, d0, d1⟩, d2⟩ := m4.tbl
    exact ⟨D, n, ⟨es, clock, (k4.1.block _ (by omega)).trans d0, d1⟩, d2⟩
  · rw [List.length_append]; exact k4.own (own_lower h2 h.top)
  · rw [List.length_append]; exact own_lower k2 (by have := h.top; omega)
  · have q1 := (h2.lt q hq)
    have q2 := (k2.lt q hv)
    omega
end Go.Proofs.Ytobfahafpmipfaa
