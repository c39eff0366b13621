import Derived.Test.YtdjknikkiojfhaaDoorZPS
import Derived.Deep.DeepAppendWide
import Derived.Test.YtdjknikkiojfhaaDoorZRDF
/- PressBack: what holds of its rounds. -/
namespace Go.Proofs.YtdjknikkiojfhaaDoor
open Go.RowKit Go.HL
set_option linter.unusedVariables false
set_option linter.unusedSimpArgs false
section
variable {P : Program} {ops : Array Oper} {rest : List Oper} {o : Oper} {a : Act} {Q : Exit → Act → World → Prop}
/-- append of a row to a row of the call's own, at the operation, up to what growing lets. -/
theorem wpList_app_wide {w0 : World} (w : World) (base : Nat) (hgd : o.guard = none) (s x : Operand) (t e : TypeId) (z : Value) (size bytes : Nat)
    (ho : o.op = .call { callee := .builtin .append, args := #[s, x], argTypes := #[t, t] })
    (ht : P.underlying t = some (.slice e)) (hinfo : (P.info? e).map (fun i => (i.zero, i.size, i.bytes)) = some (some z, size, bytes)) (hz : z.cells.size = size) (hs0 : 0 < size) (hb0 : 0 < bytes)
    (v : Value) (n : Nat) (cs : List Value) (hs : a.eval s = v) (hown : w.ownsRow base e size v n cs) (A : Option Addr) (m c : Nat) (news : List Value) (hx : a.eval x = .slice A m c) (hr : Rd w size A m c news) (h1 : ∀ u ∈ news, u.oneCell' = true)
    (HB : Below base w0 w) (hbase : base ≤ w.heap.size) (hn : n * bytes ≤ 140737488355328) (hbytes : ((n + m) + (n + m) / 4 + 192) * bytes ≤ 281474976710656)
    (h : ∀ v1 w1, w1.ownsRow base e size v1 (n + m) (cs ++ news) → Below base w0 w1 → w.grownBy w1 v.ownBlock → wpList P ops Q rest (a.put o.dst v1) w1) :
    wpList P ops Q (o :: rest) a w := by
  cases A with
  | none =>
    obtain ⟨rfl, hc⟩ := hr.nil_ rfl
    refine wpList_app (w0 := w0) w base hgd s x t t e z size bytes ho ht hinfo hz hs0 hb0 v n cs hs (.own hown) _ 0 news hx (.slice hr h1) HB hbase (by rw [Nat.add_zero]; exact hn) ?_
    intro v1 w1 _ ho1 hb1 hg1
    exact h v1 w1 (ho1 (.inr hown)) hb1 hg1
  | some ad =>
    refine wpList_plain hgd fun K hK => ?_
    obtain ⟨i0, hi, hzz⟩ := Option.map_eq_some_iff.1 hinfo
    simp only [Prod.mk.injEq] at hzz
    obtain ⟨hz0, hz1, hz2⟩ := hzz
    have h63 : n + m ≤ maxLen := by
      have h2 : (n + m) * 1 ≤ ((n + m) + (n + m) / 4 + 192) * bytes := Nat.mul_le_mul (by omega) hb0
      simp only [maxLen]; omega
    obtain ⟨v1, w1, hr1, h2, h3, _⟩ := run_append_own_wide (P := P) w base t o.type e i0 z size bytes ht hi hz0 hz1 hz2 hz hs0 v n cs hown ad m c news hr.len (hr.cells ad rfl) h1 h63 hbytes hbase
    unfold Oper.wp execOp
    simp only [ho, resolve, invoke, builtin, Sem.run_bind, Sem.run_pure, Result.andThen_ok, List.map_toArray, List.map_cons, List.map_nil, hs, hx, hr1]
    exact hK _ _ (h v1 w1 h2 (HB.grown h3 hbase (own_base hown)) h3)
end
/-- What was written, and where. -/
structure Bk (N : List (List (List UInt8))) (P : List Nat) (b : List UInt8) (tab : Tb) : Prop where
  ok : ∀ ls ∈ N, okL ls ∧ (gl ls).length ≤ 255
  len : N.length = P.length
  tok : TOk b tab
  rd : ∀ (k : Nat) ls p e, N[k]? = some ls → P[k]? = some p → (P ++ [b.length])[k + 1]? = some e → Sq b p p ls e ∧ p < b.length
theorem Bk.nil : Bk [] [] [] [] := ⟨fun ls h => (by cases h), rfl, fun m q h => (by cases h), fun k ls p e h => by simp at h⟩
theorem Bk.next {N : List (List (List UInt8))} {P : List Nat} {b : List UInt8} {tab : Tb} (h : Bk N P b tab) (plain : Bool) (ls : List (List UInt8)) (hok : okL ls) (hl : (gl ls).length ≤ 255) :
    Bk (N ++ [ls]) (P ++ [b.length]) (b ++ (en plain tab ls b.length).1) (en plain tab ls b.length).2 := by
  obtain ⟨h1, h2⟩ := en_back plain ls tab b hok h.tok
  have hsz := (en_size plain ls tab b.length).1
  refine ⟨fun l hm => ?_, by rw [List.length_append, List.length_append, h.len]; rfl, h2, fun k l p e hN hP hE => ?_⟩
  · rcases List.mem_append.1 hm with hm | hm
    · exact h.ok l hm
    · rw [List.mem_singleton.1 hm]; exact ⟨hok, hl⟩
  · by_cases hk : k < N.length
    · have hkP : k < P.length := by rw [← h.len]; exact hk
      rw [List.getElem?_append_left hk] at hN
      rw [List.getElem?_append_left hkP] at hP
      rw [List.getElem?_append_left (by rw [List.length_append]; simp; omega)] at hE
      obtain ⟨h3, h4⟩ := h.rd k l p e hN hP hE
      exact ⟨h3.app _, by rw [List.length_append]; omega⟩
    · have hk2 : k = N.length := by
        have := (List.getElem?_eq_some_iff.1 hN).1
        rw [List.length_append] at this
        simp at this
        omega
      subst hk2
      rw [List.getElem?_append_right (Nat.le_refl _), Nat.sub_self] at hN
      rw [h.len, List.getElem?_append_right (Nat.le_refl _), Nat.sub_self] at hP
      rw [h.len, List.getElem?_append_right (by rw [List.length_append]; simp)] at hE
      simp at hN hP hE
      subst hN
      subst hP
      rw [← hE]
      exact ⟨h1, by rw [List.length_append]; omega⟩
theorem own_kept_other {W W' : World} {base1 base2 m1 m2 s1 s2 : Nat} {e1 e2 : TypeId} {v1 v2 : Value} {x1 x2 : List Value} (h1 : W.ownsRow base1 e1 s1 v1 m1 x1) (h2 : W.ownsRow base2 e2 s2 v2 m2 x2) (hne : e1 ≠ e2) (hg : W.grownBy W' v2.ownBlock) : W'.ownsRow base1 e1 s1 v1 m1 x1 := by
  refine h1.kept hg ?_
  rcases h1.2 with ⟨rfl, _⟩ | ⟨g, cap, cur, rfl, _, hh, _⟩
  · exact .inl rfl
  · right
    intro e
    rcases h2.2 with ⟨rfl, _⟩ | ⟨g2, cap2, cur2, rfl, _, hh2, _⟩
    · simp [Value.ownBlock] at e
    · simp [Value.ownBlock] at e
      subst e
      rw [hh] at hh2
      simp only [Option.some.injEq, Obj.cells.injEq] at hh2
      exact hne hh2.2.1
theorem own_kept_low {W W' : World} {base m s b : Nat} {e : TypeId} {v : Value} {x : List Value} (h : W.ownsRow base e s v m x) (hb : b < base) (hg : W.grownBy W' (some b)) : W'.ownsRow base e s v m x :=
  h.kept hg (.inr fun e1 => by have := (h.lt b e1).1; omega)
end Go.Proofs.YtdjknikkiojfhaaDoor

/- rdata.Put: what holds while data are written. -/
namespace Go.Proofs.YtdjknikkiojfhaaDoor
open Go.RowKit Go.HL Go.Maps
set_option linter.unusedVariables false
set_option linter.unusedSimpArgs false
theorem grown_of_below {w w' : World} (h : Below w.heap.size w w') (row : Option Nat) : w.grownBy w' row := ⟨h.os, h.tape, h.output, h.size, fun i hi _ => h.block i hi⟩
theorem grown_below' {w a b : World} {n : Nat} {row : Option Nat} (h : w.grownBy a row) (k : Below n a b) (hn : w.heap.size ≤ n) : w.grownBy b row :=
  ⟨k.os.trans h.os, k.tape.trans h.tape, k.output.trans h.output, Nat.le_trans h.size k.size, fun i hi hne => (k.block i (by omega)).trans (h.block i hi hne)⟩
/-- What is read stays where but a map changes. -/
theorem rd_mapped {w w' : World} {size n c bm : Nat} {A : Option Addr} {cs : List Value} {tab : Tb} (h : Rd w size A n c cs) (hT : Tbl w bm tab) (hg : w.grownBy w' (some bm)) : Rd w' size A n c cs :=
  ⟨h.len, h.nil_, h.le, fun a ha j u hu => by
    have hc := h.cells a ha j u hu
    refine hg.cell hc ?_
    intro e
    have e' : (a.add j).block = bm := by simpa using e
    have hb := World.block_lt_of_cell? w _ hc
    unfold World.cell? at hc
    rw [e'] at hc
    cases ho : w.heap[bm]? with
    | none => rw [ho] at hc; simp at hc
    | some o =>
      have hnc := hT.nocells o ho
      rw [ho] at hc
      cases o <;> simp_all [Obj.isCells]⟩
/-- What holds while data are written. -/
structure Pt (W : World) (S : Nat) (d : Dt) (gt bm : Nat) (s : ByteArray) (i : Nat) (A : Option Addr) (n : Nat) (l0 : List UInt8) (l : List UInt8) (tab : Tb) (v : Value) (wr : World) : Prop where
  D : Blk wr W.heap.size 44 d.cells
  I : wr.heap[S]? = some (.stringIter s i)
  M : Made wr gt bm tab
  G : W.grownBy wr (some bm)
  S1 : W.heap.size < S
  B1 : bm < W.heap.size
  T1 : gt < W.heap.size
  V : (v = .slice A n n ∧ l = l0) ∨ wr.ownsRow (S + 1) 5 1 v l.length (bs l)
section
variable {W : World} {S : Nat} {d : Dt} {gt bm : Nat} {s : ByteArray} {i : Nat} {A : Option Addr} {n : Nat} {l0 l l' : List UInt8} {tab tab' : Tb} {v v' : Value} {wr w' : World}
theorem Pt.size (h : Pt W S d gt bm s i A n l0 l tab v wr) : S + 1 ≤ wr.heap.size := (Array.getElem?_eq_some_iff.1 h.I).1
theorem Tbl.at {W W' : World} {b : Nat} {tab : Tb} (h : Tbl W b tab) (e : W'.heap[b]? = W.heap[b]?) : Tbl W' b tab := by
  obtain ⟨D, n, ⟨es, clock, h1, h3⟩, h2⟩ := h
  exact ⟨D, n, ⟨es, clock, e.trans h1, h3⟩, h2⟩
theorem Made.at (h : Made wr gt bm tab) (h1 : w'.heap[gt]? = wr.heap[gt]?) (h2 : w'.heap[bm]? = wr.heap[bm]?) : Made w' gt bm tab := by
  refine ⟨?_, h.ne, h.tbl.at h2⟩
  have hc := h.cell
  unfold World.cell? at *
  rw [h1]
  exact hc
theorem Pt.new (W W' : World) (hb : Below W.heap.size W W') (hD : Blk W' W.heap.size 44 d.cells) (hM : Made W gt bm tab) (s : ByteArray) (A : Option Addr) (n : Nat) (l : List UInt8) : Pt W W'.heap.size d gt bm s 0 A n l l tab (.slice A n n) (W'.iter s 0) := by
  have hgl : gt < W.heap.size := World.block_lt_of_cell? W _ hM.cell
  have hbl := hM.tbl.lt
  have hb2 : Below W.heap.size W (W'.iter s 0) := below_alloc hb _
  exact ⟨hD.alloc _, World.iter_heap W' s 0, hM.at (hb2.block _ hgl) (hb2.block _ hbl), grown_of_below hb2 _, hD.lt, hbl, hgl, .inl ⟨rfl, rfl⟩⟩
theorem Pt.iter (h : Pt W S d gt bm s i A n l0 l tab v wr) (j : Nat) : Pt W S d gt bm s j A n l0 l tab v (wr.iterAt S s j) := by
  have hf := fr_iter wr S s j
  have h1 := h.S1
  have h2 := h.B1
  have h3 := h.T1
  have hz := h.size
  exact ⟨h.D.fr hf (by omega), Go.Lib.iterAt_heap wr _ _ _ _ h.I, h.M.at (hf.block _ (by omega) (by omega)) (hf.block _ (by omega) (by omega)),
    ⟨hf.os.trans h.G.os, hf.tape.trans h.G.tape, hf.output.trans h.G.output, Nat.le_trans h.G.size hf.size, fun k hk hn => (hf.block k (by have := h.G.size; omega) (by omega)).trans (h.G.block k hk hn)⟩, h1, h2, h3, by
      rcases h.V with hv | hv
      · exact .inl hv
      · exact .inr (own_fr hv hf (fun k hk e => by have := (hv.lt k hk).1; have e' : k = S := e; omega))⟩
/-- A call that makes memory of its own wrote on. -/
theorem Pt.below (h : Pt W S d gt bm s i A n l0 l tab v wr) (hb : Below (S + 1) wr w') (hv : (v' = .slice A n n ∧ l' = l0) ∨ w'.ownsRow (S + 1) 5 1 v' l'.length (bs l')) : Pt W S d gt bm s i A n l0 l' tab v' w' := by
  have h1 := h.S1
  have h2 := h.B1
  have h3 := h.T1
  have hz := h.size
  exact ⟨(hb.block _ (by omega)).trans h.D, (hb.block _ (by omega)).trans h.I, h.M.at (hb.block _ (by omega)) (hb.block _ (by omega)), grown_below' h.G hb (by omega), h1, h2, h3, hv⟩
/-- A name was written. -/
theorem Pt.named (h : Pt W S d gt bm s i A n l0 l tab v wr) (hg : wr.grownBy w' (some bm)) (ht : Tbl w' bm tab') (ho : w'.ownsRow wr.heap.size 5 1 v' l'.length (bs l')) : Pt W S d gt bm s i A n l0 l' tab' v' w' := by
  have h1 := h.S1
  have h2 := h.B1
  have hz := h.size
  exact ⟨h.D.grown hg (by simp; omega), (hg.block _ (by omega) (by simp; omega)).trans h.I, h.M.next hg ht, grownBy_then h.G hg, h1, h2, h.T1, .inr (own_lower ho hz)⟩
theorem Pt.app (h : Pt W S d gt bm s i A n l0 l tab v wr) (hr : Rd W 1 A n n (bs l0)) (hT : Tbl W bm tab') : App wr (S + 1) 5 1 v l.length (bs l) := by
  rcases h.V with ⟨rfl, rfl⟩ | hv
  · refine .inl ⟨A, ?_, ?_⟩
    · rw [hr.blen]
    · rw [hr.blen]; exact rd_mapped hr hT h.G
  · exact .inr hv
end
/-- What writing data tells: no error; the row that was handed in, or one of one's own; what is remembered. -/
def PutD (W : World) (bm : Nat) (A : Option Addr) (n : Nat) (l0 l : List UInt8) (tab : Tb) (v er : Value) (w' : World) : Prop :=
  er = .int .i64 0 ∧ ((v = .slice A n n ∧ l = l0) ∨ w'.ownsRow W.heap.size 5 1 v l.length (bs l)) ∧ Tbl w' bm tab ∧ W.grownBy w' (some bm)
end Go.Proofs.YtdjknikkiojfhaaDoor
