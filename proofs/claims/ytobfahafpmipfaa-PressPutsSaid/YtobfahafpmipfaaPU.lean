/- PressBack: what holds of its rounds. -/
import Derived.Test.YtobfahafpmipfaaPS
import Derived.Test.YtobfahafpmipfaaPT
import Derived.Deep.DeepAppendWide
namespace Go.Proofs.Ytobfahafpmipfaa
open Go.RowKit Go.HL
set_option linter.unusedVariables false
set_option linter.unusedSimpArgs false
section
variable {P : Program} {ops : Array Oper} {rest : List Oper} {o : Oper} {a : Act} {Q : Exit → Act → World → Prop}
/-- append of a row to a row of the call's own, at the operation, up to what growing lets. -/
theorem wpList_app_wide {w0 : World} (w : World) (base : Nat) (hgd : o.guard = none) (s x : Operand) (t e : TypeId) (z : Value) (size bytes : Nat)
    (ho : o.op = .call { callee := .builtin .append, args := #[s, x], argTypes := #[t, t] })
    (ht : P.underlying t = some (.slice e)) (hinfo : (P.info? e).map (fun i => (i.zero, i.size, i.bytes)) = some (some z, size, bytes)) (hz : z.cells.size = size) (hs0 : 0 < size) (hb0 : 0 < bytes)
    (v : Value) (n : Nat) (cs : List Value) (hs : a.eval s = v) (hown : w.ownsRow base e size v n cs) (A : Option Addr) (m c : Nat) (news : List Value) (hx : a.eval x = .slice A m c) (hr : Rd w size A m c news) (h1 : ∀ u ∈ news, u.oneCell' = true)
    (HB : Below base w0 w) (hbase : base ≤ w.heap.size) (hn : n * bytes ≤ 140737488355328) (hbytes : ((n + m) + (n + m) / 4 + 192) * bytes ≤ 281474976710656)
    (h : ∀ v1 w1, w1.ownsRow base e size v1 (n + m) (cs ++ news) → Below base w0 w1 → w.grownBy w1 v.ownBlock → wpList P ops Q rest (a.put o.dst v1) w1) :
    wpList P ops Q (o :: rest) a w := by
  cases A with
  | none =>
    obtain ⟨rfl, hc⟩ := hr.nil_ rfl
    refine wpList_app (w0 := w0) w base hgd s x t t e z size bytes ho ht hinfo hz hs0 hb0 v n cs hs (.own hown) _ 0 news hx (.slice hr h1) HB hbase (by rw [Nat.add_zero]; exact hn) ?_
    intro v1 w1 _ ho1 hb1 hg1
    exact h v1 w1 (ho1 (.inr hown)) hb1 hg1
  | some ad =>
    refine wpList_plain hgd fun K hK => ?_
    obtain ⟨i0, hi, hzz⟩ := Option.map_eq_some_iff.1 hinfo
    simp only [Prod.mk.injEq] at hzz
    obtain ⟨hz0, hz1, hz2⟩ := hzz
    have h63 : n + m ≤ maxLen := by
      have h2 : (n + m) * 1 ≤ ((n + m) + (n + m) / 4 + 192) * bytes := Nat.mul_le_mul (by omega) hb0
      simp only [maxLen]; omega
    obtain ⟨v1, w1, hr1, h2, h3, _⟩ := run_append_own_wide (P := P) w base t o.type e i0 z size bytes ht hi hz0 hz1 hz2 hz hs0 v n cs hown ad m c news hr.len (hr.cells ad rfl) h1 h63 hbytes hbase
    unfold Oper.wp execOp
    simp only [ho, resolve, invoke, builtin, Sem.run_bind, Sem.run_pure, Result.andThen_ok, List.map_toArray, List.map_cons, List.map_nil, hs, hx, hr1]
    exact hK _ _ (h v1 w1 h2 (HB.grown h3 hbase (own_base hown)) h3)
end
/-- What was written, and where. -/
structure Bk (N : List (List (List UInt8))) (P : List Nat) (b : List UInt8) (tab : Tb) : Prop where
  ok : ∀ ls ∈ N, okL ls ∧ (gl ls).length ≤ 255
  len : N.length = P.length
  tok : TOk b tab
  rd : ∀ (k : Nat) ls p e, N[k]? = some ls → P[k]? = some p → (P ++ [b.length])[k + 1]? = some e → Sq b p p ls e ∧ p < b.length
theorem Bk.nil : Bk [] [] [] [] := ⟨fun ls h => (by cases h), rfl, fun m q h => (by cases h), fun k ls p e h => by simp at h⟩
theorem Bk.next {N : List (List (List UInt8))} {P : List Nat} {b : List UInt8} {tab : Tb} (h : Bk N P b tab) (plain : Bool) (ls : List (List UInt8)) (hok : okL ls) (hl : (gl ls).length ≤ 255) :
    Bk (N ++ [ls]) (P ++ [b.length]) (b ++ (en plain tab ls b.length).1) (en plain tab ls b.length).2 := by
  obtain ⟨h1, h2⟩ := en_back plain ls tab b hok h.tok
  have hsz := (en_size plain ls tab b.length).1
  refine ⟨fun l hm => ?_, by rw [List.length_append, List.length_append, h.len]; rfl, h2, fun k l p e hN hP hE => ?_⟩
  · rcases List.mem_append.1 hm with hm | hm
    · exact h.ok l hm
    · rw [List.mem_singleton.1 hm]; exact ⟨hok, hl⟩
  · by_cases hk : k < N.length
    · have hkP : k < P.length := by rw [← h.len]; exact hk
      rw [List.getElem?_append_left hk] at hN
      rw [List.getElem?_append_left hkP] at hP
      rw [List.getElem?_append_left (by rw [List.length_append]; simp; omega)] at hE
      obtain ⟨h3, h4⟩ := h.rd k l p e hN hP hE
      exact ⟨h3.app _, by rw [List.length_append]; omega⟩
    · have hk2 : k = N.length := by
        have := (List.getElem?_eq_some_iff.1 hN).1
        rw [List.length_append] at this
        simp at this
        omega
      subst hk2
      rw [List.getElem?_append_right (Nat.le_refl _), Nat.sub_self] at hN
      rw [h.len, List.getElem?_append_right (Nat.le_refl _), Nat.sub_self] at hP
      rw [h.len, List.getElem?_append_right (by rw [List.length_append]; simp)] at hE
      simp at hN hP hE
      subst hN
      subst hP
      rw [← hE]
      exact ⟨h1, by rw [List.length_append]; omega⟩
theorem own_kept_other {W W' : World} {base1 base2 m1 m2 s1 s2 : Nat} {e1 e2 : TypeId} {v1 v2 : Value} {x1 x2 : List Value} (h1 : W.ownsRow base1 e1 s1 v1 m1 x1) (h2 : W.ownsRow base2 e2 s2 v2 m2 x2) (hne : e1 ≠ e2) (hg : W.grownBy W' v2.ownBlock) : W'.ownsRow base1 e1 s1 v1 m1 x1 := by
  refine h1.kept hg ?_
  rcases h1.2 with ⟨rfl, _⟩ | ⟨g, cap, cur, rfl, _, hh, _⟩
  · exact .inl rfl
  · right
    intro e
    rcases h2.2 with ⟨rfl, _⟩ | ⟨g2, cap2, cur2, rfl, _, hh2, _⟩
    · simp [Value.ownBlock] at e
    · simp [Value.ownBlock] at e
      subst e
      rw [hh] at hh2
      simp only [Option.some.injEq, Obj.cells.injEq] at hh2
      exact hne hh2.2.1
theorem own_kept_low {W W' : World} {base m s b : Nat} {e : TypeId} {v : Value} {x : List Value} (h : W.ownsRow base e s v m x) (hb : b < base) (hg : W.grownBy W' (some b)) : W'.ownsRow base e s v m x :=
  h.kept hg (.inr fun e1 => by have := (h.lt b e1).1; omega)
def ints (P : List Nat) : List Value := P.map fun p : Nat => .int .i64 (p : Int)
def nms (N : List (List (List UInt8))) : List Value := N.map fun ls => .string (str (gl ls))
structure BkW (w W : World) (vb vat vnm : Value) (N : List (List (List UInt8))) (P : List Nat) (b : List UInt8) (tab : Tb) : Prop where
  made : Made W (w.heap.size + 1) w.heap.size tab
  rb : W.ownsRow (w.heap.size + 2) 5 1 vb b.length (bs b)
  rat : W.ownsRow (w.heap.size + 2) 3 1 vat P.length (ints P)
  rnm : W.ownsRow (w.heap.size + 2) 23 1 vnm N.length (nms N)
  bel : Below w.heap.size w W
  top : w.heap.size + 2 ≤ W.heap.size
  bk : Bk N P b tab
  lb : b.length ≤ 255 * N.length
  lt : tab.length ≤ 255 * N.length
theorem BkW.new (w : World) : BkW w ((w.alloc (.map #[] 0)).alloc (.cells #[.map (some w.heap.size)] 58)) (.slice none 0 0) (.slice none 0 0) (.slice none 0 0) [] [] [] [] :=
  ⟨Made.new w, World.ownsRow_nil _ _ _ _, World.ownsRow_nil _ _ _ _, World.ownsRow_nil _ _ _ _, Made.below w, by rw [World.size_alloc, World.size_alloc]; omega, Bk.nil, by simp, by simp⟩
theorem BkW.below {w W W' : World} {vb vat vnm : Value} {N : List (List (List UInt8))} {P : List Nat} {b : List UInt8} {tab : Tb} (h : BkW w W vb vat vnm N P b tab) (hb : Below W.heap.size W W') : BkW w W' vb vat vnm N P b tab := by
  have hg : W.grownBy W' none := below_none hb
  exact ⟨h.made.kept hg (by simp) (by simp), own_below h.rb hb, own_below h.rat hb, own_below h.rnm hb, h.bel.trans (hb.mono h.bel.size), Nat.le_trans h.top hb.size, h.bk, h.lb, h.lt⟩
/-- A name is put behind. -/
theorem BkW.put {w W W' : World} {vb vat vnm v2 er : Value} {N : List (List (List UInt8))} {P : List Nat} {b : List UInt8} {tab : Tb} (h : BkW w W vb vat vnm N P b tab) (plain : Bool) (ls : List (List UInt8)) (hok : okL ls) (hl : (gl ls).length ≤ 255) (hs : SomeB W w.heap.size plain b ls tab v2 er W') :
    er = .int .i64 0 ∧ W'.ownsRow (w.heap.size + 2) 5 1 v2 (b ++ (en plain tab ls b.length).1).length (bs (b ++ (en plain tab ls b.length).1)) ∧ Made W' (w.heap.size + 1) w.heap.size (en plain tab ls b.length).2 ∧ W'.ownsRow (w.heap.size + 2) 3 1 vat P.length (ints P) ∧ W'.ownsRow (w.heap.size + 2) 23 1 vnm N.length (nms N) ∧ Below w.heap.size w W' ∧ w.heap.size + 2 ≤ W'.heap.size := by
  obtain ⟨h1, h2, h3, h4⟩ := hs
  rw [← List.length_append] at h2
  exact ⟨h1, own_lower h2 h.top, h.made.next h4 h3, own_kept_low h.rat (by omega) h4, own_kept_low h.rnm (by omega) h4, h.bel.grown h4 h.bel.size (fun k hk => by cases hk; exact Nat.le_refl _), Nat.le_trans h.top h4.size⟩
/-- And what was told of it is kept. -/
theorem BkW.step {w W1 W2 W3 : World} {vat vnm v2 vat2 vnm2 : Value} {N : List (List (List UInt8))} {P : List Nat} {b b' : List UInt8} {tab : Tb} {x : List (List UInt8)}
    (hm : Made W1 (w.heap.size + 1) w.heap.size tab) (r2 : W1.ownsRow (w.heap.size + 2) 5 1 v2 b'.length (bs b')) (rat : W1.ownsRow (w.heap.size + 2) 3 1 vat P.length (ints P)) (rnm : W1.ownsRow (w.heap.size + 2) 23 1 vnm N.length (nms N))
    (hb : Below w.heap.size w W1) (ht : w.heap.size + 2 ≤ W1.heap.size)
    (o2 : W2.ownsRow (w.heap.size + 2) 3 1 vat2 (P.length + 1) (ints P ++ [.int .i64 (b.length : Int)])) (g2 : W1.grownBy W2 vat.ownBlock)
    (o3 : W3.ownsRow (w.heap.size + 2) 23 1 vnm2 (N.length + 1) (nms N ++ [.string (str (gl x))])) (g3 : W2.grownBy W3 vnm.ownBlock)
    (bk : Bk (N ++ [x]) (P ++ [b.length]) b' tab) (lb : b'.length ≤ 255 * (N.length + 1)) (lt : tab.length ≤ 255 * (N.length + 1)) :
    BkW w W3 v2 vat2 vnm2 (N ++ [x]) (P ++ [b.length]) b' tab := by
  have hk1 : ∀ k, vat.ownBlock = some k → w.heap.size + 2 ≤ k := fun k hk => own_base rat k hk
  have hk2 : ∀ k, vnm.ownBlock = some k → w.heap.size + 2 ≤ k := fun k hk => own_base rnm k hk
  have n1 : vat.ownBlock ≠ some w.heap.size := fun e => by have := hk1 _ e; omega
  have n2 : vat.ownBlock ≠ some (w.heap.size + 1) := fun e => by have := hk1 _ e; omega
  have n3 : vnm.ownBlock ≠ some w.heap.size := fun e => by have := hk2 _ e; omega
  have n4 : vnm.ownBlock ≠ some (w.heap.size + 1) := fun e => by have := hk2 _ e; omega
  have rnm2 := own_kept_other rnm rat (by decide) g2
  have b2 : Below w.heap.size w W2 := hb.grown g2 hb.size (fun k hk => by have := hk1 k hk; omega)
  refine ⟨(hm.kept g2 n1 n2).kept g3 n3 n4, own_kept_other (own_kept_other r2 rat (by decide) g2) rnm2 (by decide) g3, ?_, ?_, b2.grown g3 b2.size (fun k hk => by have := hk2 k hk; omega), Nat.le_trans ht (Nat.le_trans g2.size g3.size), bk, by rw [List.length_append]; exact lb, by rw [List.length_append]; exact lt⟩
  · have o2' : W2.ownsRow (w.heap.size + 2) 3 1 vat2 (P ++ [b.length]).length (ints (P ++ [b.length])) := by
      rw [List.length_append, ints, List.map_append]; exact o2
    exact own_kept_other o2' rnm2 (by decide) g3
  · rw [List.length_append, nms, List.map_append]; exact o3
def InvB (w : World) (n : Nat) (vb vat vnm i : Value) (W : World) : Prop := ∃ k N P b tab, i = .int .i64 (k : Nat) ∧ k ≤ n ∧ N.length ≤ k ∧ BkW w W vb vat vnm N P b tab
theorem Rd.it {w : World} {ad : Addr} {n c : Nat} {X : List It} (h : Rd w 3 (some ad) n c (its X)) (i : Nat) (r : It) (hr : X[i]? = some r) (j : Nat) (hj : j < 3) (v : Value) (hv : r.cells[j]? = some v) : w.cell? (ad.add (i * 3 + j)) = some v :=
  h.cells ad rfl (i * 3 + j) v (by rw [its_get X i j r hr hj]; exact hv)
theorem Rd.it' {w : World} {ad : Addr} {n c : Nat} {X : List It} (h : Rd w 3 (some ad) n c (its X)) (i : Nat) (r : It) (hr : X[i]? = some r) (j : Nat) (hj : j + 1 < 3) (v : Value) (hv : r.cells[j + 1]? = some v) : w.cell? { block := (ad.add (i * 3)).block, off := (ad.add (i * 3)).off + (j + 1), spot := none } = some v := by
  have := Rd.it h i r hr (j + 1) hj v hv
  rwa [← Addr.add_add, Addr.add_succ'] at this
end Go.Proofs.Ytobfahafpmipfaa
