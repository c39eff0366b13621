/- A row of numbers that is cut from ahead and appended to behind: words. No program in sight. -/
import Derived.Test.YtbcpnjgmbdhdkaaDS
import Derived.ArgAppend
namespace Go.HL
open Go.RowKit Go.ChangeShapes
set_option linter.unusedVariables false
set_option linter.unusedSimpArgs false

/-- A slice whose spare room is its own: it reads as these cells (one an element), and its block has room for its capacity. -/
structure Tail (w : World) (e : TypeId) (A : Option Addr) (n c : Nat) (cs : List Value) : Prop where
  rd : Rd w 1 A n c cs
  room : ∀ a, A = some a → a.spot = none ∧ ∃ cur, w.heap[a.block]? = some (.cells cur e (0, 0)) ∧ a.off + c ≤ cur.size
theorem Tail.nil (w : World) (e : TypeId) : Tail w e none 0 0 [] := ⟨Rd.nil _ _, fun a ha => by cases ha⟩
theorem Tail.grown {w w1 : World} {e : TypeId} {A : Option Addr} {n c : Nat} {cs : List Value} {row : Option Nat} (h : Tail w e A n c cs) (hg : w.grownBy w1 row) (hne : ∀ a, A = some a → some a.block ≠ row) : Tail w1 e A n c cs :=
  ⟨h.rd.grown hg hne, fun a ha => by
    obtain ⟨h1, cur, h2, h3⟩ := h.room a ha
    exact ⟨h1, cur, by rw [hg.block _ (Array.getElem?_eq_some_iff.1 h2).1 (hne a ha)]; exact h2, h3⟩⟩
theorem Tail.lt {w : World} {e : TypeId} {A : Option Addr} {n c : Nat} {cs : List Value} (h : Tail w e A n c cs) (a : Addr) (ha : A = some a) : a.block < w.heap.size := by
  obtain ⟨_, cur, h2, _⟩ := h.room a ha
  exact (Array.getElem?_eq_some_iff.1 h2).1
theorem own_tail {w : World} {base : Nat} {e : TypeId} {n : Nat} {v : Value} {cs : List Value} (h : w.ownsRow base e 1 v n cs) : ∃ A c, v = .slice A n c ∧ Tail w e A n c cs ∧ ∀ a, A = some a → base ≤ a.block := by
  obtain ⟨A, c, rfl, hr⟩ := own_rd h
  refine ⟨A, c, rfl, ⟨hr, fun a ha => ?_⟩, fun a ha => (h.lt a.block (by rw [ha]; rfl)).1⟩
  rcases h.2 with ⟨h1, _⟩ | ⟨g, cap, cur, h1, _, h3, _, _, h5, _⟩
  · cases h1; cases ha
  · cases h1; cases ha
    exact ⟨rfl, cur, h3, by simp only [Nat.zero_add]; omega⟩
/-- s[1:]. -/
theorem Tail.rest {w : World} {e : TypeId} {ad : Addr} {n c : Nat} {x : Value} {cs : List Value} (h : Tail w e (some ad) n c (x :: cs)) (hc : c ≠ 1) : Tail w e (some (ad.add 1)) (n - 1) (c - 1) cs := by
  have hl := h.rd.len
  rw [List.length_cons] at hl
  have hle := h.rd.le
  obtain ⟨h1, cur, h2, h3⟩ := h.room ad rfl
  refine ⟨?_, fun a ha => ?_⟩
  · have := h.rd.cut 1 n (by omega) (Nat.le_refl _)
    rw [show 1 * 1 = 1 from rfl, List.drop_succ_cons, List.drop_zero, List.take_of_length_le (by omega)] at this
    exact this
  · cases ha
    obtain ⟨b, o, s⟩ := ad
    cases h1
    rw [Addr.add_lit]
    exact ⟨rfl, cur, h2, by simp only at h3 ⊢; omega⟩
theorem Tail.rest0 {w : World} {e : TypeId} {ad : Addr} {n : Nat} {x : Value} {cs : List Value} (h : Tail w e (some ad) n 1 (x :: cs)) : n = 1 ∧ cs = [] ∧ Tail w e (some ad) 0 0 [] := by
  have hl := h.rd.len
  rw [List.length_cons] at hl
  have hle := h.rd.le
  obtain ⟨h1, cur, h2, h3⟩ := h.room ad rfl
  refine ⟨by omega, List.eq_nil_of_length_eq_zero (by omega), Rd.empty _ _ _ _, fun a ha => ?_⟩
  cases ha
  exact ⟨h1, cur, h2, by omega⟩
theorem set_row {w : World} {b o : Nat} {cur : Array Value} {e : TypeId} (h : w.heap[b]? = some (.cells cur e (0, 0))) (u : Value) : (w.setCell ⟨b, o, none⟩ u).heap[b]? = some (.cells (cur.setIfInBounds o u) e (0, 0)) := by
  simp [World.setCell, Array.getElem?_modify, h]

section
variable {P : Program} {ops : Array Oper} {rest : List Oper} {o : Oper} {a : Act} {Q : Exit → Act → World → Prop}
/-- append(s, y), s a row whose spare room is its own: the run. -/
theorem run_tail1 {w : World} (t ty e : TypeId) (z : Value) (bytes : Nat)
    (ht : P.underlying t = some (.slice e)) (hinfo : (P.info? e).map (fun i => (i.zero, i.size, i.bytes)) = some (some z, 1, bytes)) (hz : z.cells.size = 1)
    (A : Option Addr) (n c : Nat) (cs : List Value) (y : Value) (htl : Tail w e A n c cs) (h1 : y.oneCell' = true)
    (ad : Addr) (cm : Nat) (hsrc : Rd w 1 (some ad) 1 cm [y]) (hmax : n + 1 ≤ maxLen) (hbytes : (n + 1) * bytes ≤ 140737488355328) :
    ∃ A1 c1 w1, (Builtin.append_ #[t, t] ty #[.slice A n c, .slice (some ad) 1 cm]).run P w = .ok (.slice A1 (n + 1) c1) w1 ∧ Tail w1 e A1 (n + 1) c1 (cs ++ [y]) ∧ w.grownBy w1 (A.map (·.block)) ∧ (∀ b, A1 = some b → some b.block = A.map (·.block) ∨ w.heap.size ≤ b.block) := by
  obtain ⟨i, hi, hzz⟩ := Option.map_eq_some_iff.1 hinfo
  simp only [Prod.mk.injEq] at hzz
  obtain ⟨hz0, hz1, hz2⟩ := hzz
  have hlen := htl.rd.len
  have hnew : ∀ j u, [y][j]? = some u → w.cell? (ad.add j) = some u := hsrc.cells ad rfl
  have hgn : ∀ (w1 : World), w.grownBy w1 none → w.grownBy w1 (A.map (·.block)) := fun w1 hg => ⟨hg.os, hg.tape, hg.output, hg.size, fun k hk _ => hg.block k hk (by simp)⟩
  have hgrow : ∀ v1 w1, (Builtin.append_ #[t, t] ty #[.slice A n c, .slice (some ad) 1 cm]).run P w = .ok v1 w1 → w1.ownsRow w.heap.size e 1 v1 (n + 1) (cs ++ [y]) → w.grownBy w1 none → ∃ A1 c1 w1, (Builtin.append_ #[t, t] ty #[.slice A n c, .slice (some ad) 1 cm]).run P w = .ok (.slice A1 (n + 1) c1) w1 ∧ Tail w1 e A1 (n + 1) c1 (cs ++ [y]) ∧ w.grownBy w1 (A.map (·.block)) ∧ (∀ b, A1 = some b → some b.block = A.map (·.block) ∨ w.heap.size ≤ b.block) := by
    intro v1 w1 hr ho1 hg1
    obtain ⟨A1, c1, rfl, ht1, hb1⟩ := own_tail ho1
    exact ⟨A1, c1, w1, hr, ht1, hgn _ hg1, fun b hb => .inr (hb1 b hb)⟩
  cases A with
  | none =>
    obtain ⟨rfl, rfl⟩ := htl.rd.nil_ rfl
    obtain rfl : cs = [] := List.eq_nil_of_length_eq_zero (by simpa using hlen)
    obtain ⟨v', w', hrun, r1, r2, _⟩ := run_append_own (P := P) w w.heap.size t ty e i z 1 bytes ht hi hz0 hz1 hz2 hz (by omega) (.slice none 0 0) 0 [] (World.ownsRow_nil w _ e 1) ad 1 cm [y] rfl hnew (by simpa using h1) hmax hbytes (Nat.le_refl _)
    exact hgrow v' w' hrun r1 r2
  | some d =>
    by_cases hr : n + 1 ≤ c
    · obtain ⟨b, off, sp⟩ := d
      obtain ⟨h2, cur, h3, h4⟩ := htl.room _ rfl
      simp only at h2 h3 h4
      subst h2
      have hcl : ∀ k, k < cur.size → w.cell? ⟨b, k, none⟩ = some (cur.getD k undef) := fun k hk => by
        rw [cell_of_row _ b k _ _ _ h3]
        simp [hk]
      have hset : (w.setCell ⟨b, off + n, none⟩ y).heap[b]? = some (.cells (cur.setIfInBounds (off + n) y) e (0, 0)) := set_row h3 y
      have hrun := run_append_room_cells (P := P) w t ty e i ht hi b off n c ad 1 cm [y] (by rw [hz1]; rfl) hnew (by simpa using h1) hr (fun j hj => by
        simp only [List.length_cons, List.length_nil] at hj
        rw [hz1, hcl _ (by omega)]; rfl) (fun j _ => free_row h3 _)
      rw [hz1, Nat.mul_one] at hrun
      refine ⟨_, _, _, hrun, ⟨⟨?_, fun ha => (by cases ha), hr, fun a1 ha1 j u hu => ?_⟩, fun a1 ha1 => ?_⟩, grownBy_set w b _ y, fun b1 hb1 => .inl (by cases hb1; rfl)⟩
      · rw [List.length_append, hlen]; simp
      · cases ha1
        show (w.setCell ⟨b, off + n, none⟩ y).cell? _ = _
        rw [Addr.add_lit, cell_of_row _ b _ _ _ _ hset]
        rcases Nat.lt_or_ge j cs.length with hj | hj
        · rw [List.getElem?_append_left hj] at hu
          have := htl.rd.cells _ rfl j u hu
          rw [Addr.add_lit, cell_of_row _ b _ _ _ _ h3] at this
          rw [← this]
          simp only [Array.getElem?_setIfInBounds]
          rw [if_neg (by omega)]
        · rw [List.getElem?_append_right hj] at hu
          have hj0 : j - cs.length = 0 := by
            cases hq : j - cs.length with
            | zero => rfl
            | succ m => rw [hq] at hu; simp at hu
          rw [hj0] at hu
          simp only [List.getElem?_cons_zero, Option.some.injEq] at hu
          subst hu
          have hjn : j = n := by omega
          subst hjn
          rw [Array.getElem?_setIfInBounds, if_pos rfl, if_pos (by omega)]
      · cases ha1
        exact ⟨rfl, _, hset, by simp only [Array.size_setIfInBounds]; omega⟩
    · obtain ⟨v', w', hrun, r1, r2⟩ := run_append_arg_grows (P := P) w t ty e i z 1 bytes ht hi hz0 hz1 hz2 hz (by omega) d n c cs hlen (htl.rd.cells d rfl) ad 1 cm [y] rfl hnew (by omega) hmax hbytes
      exact hgrow v' w' hrun r1 r2
/-- .. as one step of a region that draws. -/
theorem step_tail1 {K : Act → World → Prop} {E : Prop} (w : World) (hgd : o.guard = none) (s x : Operand) (t e : TypeId) (z : Value) (bytes : Nat)
    (ho : o.op = .call { callee := .builtin .append, args := #[s, x], argTypes := #[t, t] })
    (ht : P.underlying t = some (.slice e)) (hinfo : (P.info? e).map (fun i => (i.zero, i.size, i.bytes)) = some (some z, 1, bytes)) (hz : z.cells.size = 1)
    (A : Option Addr) (n c : Nat) (cs : List Value) (y : Value) (hs : a.eval s = .slice A n c) (htl : Tail w e A n c cs) (h1 : y.oneCell' = true)
    (ad : Addr) (cm : Nat) (hx : a.eval x = .slice (some ad) 1 cm) (hsrc : Rd w 1 (some ad) 1 cm [y]) (hmax : n + 1 ≤ maxLen) (hbytes : (n + 1) * bytes ≤ 140737488355328)
    (hK : ∀ A1 c1 w1, Tail w1 e A1 (n + 1) c1 (cs ++ [y]) → w.grownBy w1 (A.map (·.block)) → (∀ b, A1 = some b → some b.block = A.map (·.block) ∨ w.heap.size ≤ b.block) → K (a.put o.dst (.slice A1 (n + 1) c1)) w1) :
    if Region.wanted o (yielded ops a.tmps) = true then Oper.wp P o a w K Q else E := by
  have hw : Region.wanted o (yielded ops a.tmps) = true := by simp [Region.wanted, hgd]
  rw [if_pos hw]
  obtain ⟨A1, c1, w1, hr, h2, h3, h4⟩ := run_tail1 (P := P) t o.type e z bytes ht hinfo hz A n c cs y htl h1 ad cm hsrc hmax hbytes
  unfold Oper.wp execOp
  simp only [ho, resolve, invoke, builtin, Sem.run_bind, Sem.run_pure, Result.andThen_ok, List.map_toArray, List.map_cons, List.map_nil, hs, hx, hr]
  exact hK A1 c1 w1 h2 h3 h4
/-- .. at the operation. -/
theorem wpList_tail1 {w : World} (hgd : o.guard = none) (s x : Operand) (t e : TypeId) (z : Value) (bytes : Nat)
    (ho : o.op = .call { callee := .builtin .append, args := #[s, x], argTypes := #[t, t] })
    (ht : P.underlying t = some (.slice e)) (hinfo : (P.info? e).map (fun i => (i.zero, i.size, i.bytes)) = some (some z, 1, bytes)) (hz : z.cells.size = 1)
    (A : Option Addr) (n c : Nat) (cs : List Value) (y : Value) (hs : a.eval s = .slice A n c) (htl : Tail w e A n c cs) (h1 : y.oneCell' = true)
    (ad : Addr) (cm : Nat) (hx : a.eval x = .slice (some ad) 1 cm) (hsrc : Rd w 1 (some ad) 1 cm [y]) (hmax : n + 1 ≤ maxLen) (hbytes : (n + 1) * bytes ≤ 140737488355328)
    (h : ∀ A1 c1 w1, Tail w1 e A1 (n + 1) c1 (cs ++ [y]) → w.grownBy w1 (A.map (·.block)) → (∀ b, A1 = some b → some b.block = A.map (·.block) ∨ w.heap.size ≤ b.block) → wpList P ops Q rest (a.put o.dst (.slice A1 (n + 1) c1)) w1) :
    wpList P ops Q (o :: rest) a w := by
  refine wpList_plain hgd fun K hK => ?_
  obtain ⟨A1, c1, w1, hr, h2, h3, h4⟩ := run_tail1 (P := P) t o.type e z bytes ht hinfo hz A n c cs y htl h1 ad cm hsrc hmax hbytes
  unfold Oper.wp execOp
  simp only [ho, resolve, invoke, builtin, Sem.run_bind, Sem.run_pure, Result.andThen_ok, List.map_toArray, List.map_cons, List.map_nil, hs, hx, hr]
  exact hK _ _ (h A1 c1 w1 h2 h3 h4)
end

/-! ### What a call may write -/
/-- Only these blocks have been written, and new ones made. -/
structure Mod (S : Nat → Prop) (w w' : World) : Prop where
  os : w'.os = w.os
  tape : w'.tape = w.tape
  output : w'.output = w.output
  size : w.heap.size ≤ w'.heap.size
  block : ∀ k, k < w.heap.size → ¬ S k → w'.heap[k]? = w.heap[k]?
theorem Mod.refl (S : Nat → Prop) (w : World) : Mod S w w := ⟨rfl, rfl, rfl, Nat.le_refl _, fun _ _ _ => rfl⟩
theorem Mod.grown {S : Nat → Prop} {w w1 w2 : World} {row : Option Nat} (h : Mod S w w1) (hg : w1.grownBy w2 row) (hs : ∀ k, row = some k → S k ∨ w.heap.size ≤ k) : Mod S w w2 :=
  ⟨hg.os.trans h.os, hg.tape.trans h.tape, hg.output.trans h.output, Nat.le_trans h.size hg.size, fun k hk hn => by
    rw [hg.block k (Nat.lt_of_lt_of_le hk h.size) (fun e => by rcases hs k e.symm with h1 | h1; exact hn h1; omega), h.block k hk hn]⟩
theorem Mod.then {S S' : Nat → Prop} {w w1 w2 : World} (h : Mod S w w1) (hg : Mod S' w1 w2) (hs : ∀ k, S' k → S k ∨ w.heap.size ≤ k) : Mod S w w2 :=
  ⟨hg.os.trans h.os, hg.tape.trans h.tape, hg.output.trans h.output, Nat.le_trans h.size hg.size, fun k hk hn => by
    rw [hg.block k (Nat.lt_of_lt_of_le hk h.size) (fun e => by rcases hs k e with h1 | h1; exact hn h1; omega), h.block k hk hn]⟩
theorem Mod.ofGrown {S : Nat → Prop} {w w1 : World} {row : Option Nat} (hg : w.grownBy w1 row) (hs : ∀ k, row = some k → S k ∨ w.heap.size ≤ k) : Mod S w w1 := (Mod.refl S w).grown hg hs
theorem Mod.below {S : Nat → Prop} {w w1 w2 : World} (h : Mod S w w1) (hb : Below w1.heap.size w1 w2) : Mod S w w2 :=
  ⟨hb.os.trans h.os, hb.tape.trans h.tape, hb.output.trans h.output, Nat.le_trans h.size hb.size, fun k hk hn => by rw [hb.block k (Nat.lt_of_lt_of_le hk h.size), h.block k hk hn]⟩
theorem Mod.belowAll {S : Nat → Prop} {w w1 w2 : World} {B : Nat} (h : Below B w w1) (hm : Mod S w1 w2) (hB : B ≤ w1.heap.size) (hs : ∀ k, S k → B ≤ k) : Below B w w2 :=
  ⟨hm.os.trans h.os, hm.tape.trans h.tape, hm.output.trans h.output, Nat.le_trans h.size hm.size, fun k hk => by rw [hm.block k (by omega) (fun e => by have := hs k e; omega), h.block k hk]⟩
theorem Rd.mod {S : Nat → Prop} {w w1 : World} {size : Nat} {A : Option Addr} {n c : Nat} {cs : List Value} (h : Rd w size A n c cs) (hm : Mod S w w1) (hn : ∀ a, A = some a → ¬ S a.block) : Rd w1 size A n c cs :=
  ⟨h.len, h.nil_, h.le, fun a ha j u hu => by
    have hc := h.cells a ha j u hu
    rw [World.cell?_of_block (hm.block _ (World.block_lt_of_cell? w _ hc) (by rw [block_add]; exact hn a ha))]
    exact hc⟩
theorem Tail.mod {S : Nat → Prop} {w w1 : World} {e : TypeId} {A : Option Addr} {n c : Nat} {cs : List Value} (h : Tail w e A n c cs) (hm : Mod S w w1) (hn : ∀ a, A = some a → ¬ S a.block) : Tail w1 e A n c cs :=
  ⟨h.rd.mod hm hn, fun a ha => by
    obtain ⟨h1, cur, h2, h3⟩ := h.room a ha
    exact ⟨h1, cur, by rw [hm.block _ (Array.getElem?_eq_some_iff.1 h2).1 (hn a ha)]; exact h2, h3⟩⟩
theorem SrcAt.mod {T : TypeId} {ok S : Nat → Prop} {w w1 : World} {g : Nat} {l : List Int} {last : Int} (h : SrcAt T ok w g l last) (hm : Mod S w w1) (hg : ¬ S g) (hok : ∀ k, ok k → ¬ S k) : SrcAt T ok w1 g l last := by
  obtain ⟨A, n, c, h1, h2, h3⟩ := h
  exact ⟨A, n, c, by rw [hm.block g (Array.getElem?_eq_some_iff.1 h1).1 hg]; exact h1, h2.mod hm (fun a ha => hok _ (h3 a ha).2), h3⟩
theorem us_get (l : List Int) (j : Nat) (h : j < l.length) : (us l)[j]? = some (.int .u32 (l.getD j 0)) := by
  simp [us, List.getElem?_eq_getElem h, List.getD_eq_getElem?_getD]
theorem Rd.usAt {w : World} {ad : Addr} {n c : Nat} {l : List Int} (h : Rd w 1 (some ad) n c (us l)) (j : Nat) (hj : j < n) : w.cell? (ad.add j) = some (.int .u32 (l.getD j 0)) := by
  refine h.cells ad rfl j _ (us_get l j ?_)
  have := h.len
  rw [us_length] at this
  omega
theorem take_snocZ (l : List Int) (k : Nat) (h : k < l.length) : l.take (k + 1) = l.take k ++ [l.getD k 0] := by
  rw [List.take_succ_eq_append_getElem h, List.getD_eq_getElem?_getD, List.getElem?_eq_getElem h]; rfl
end Go.HL
