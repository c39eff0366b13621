import Derived.WalkKit
import Derived.WalkSpells
import Derived.WalkLawsBesides
import Derived.ArgAppend
import Derived.Lib.AppendStr
import Derived.Deep.AppendLies
import Derived.Deep.AppendSrc
import Derived.Laws.AppendOwnNone
import Derived.Laws.BytesArg
import Derived.DataElems
import Derived.Deep.QuietTactic
import Derived.BigQuiet
import Derived.Lib.QuietBelow
import Derived.Deep.DeepMust
import Derived.Lib.Hide
import Derived.Lib.EndianBits
/- General words of the session's own: slices that read as rows of cells, appends, what a call leaves below. No program in sight. -/
set_option linter.unusedVariables false
set_option linter.unusedSimpArgs false
namespace Go.HL
open Go.RowKit

/-! ### 1. Bytes -/
/-- A byte as a cell. -/
abbrev B (u : UInt8) : Value := .int .u8 (u.toNat : Int)
/-- Bytes as cells. -/
def bs (l : List UInt8) : List Value := l.map B
theorem bs_length (l : List UInt8) : (bs l).length = l.length := by simp [bs]
theorem bs_append (l m : List UInt8) : bs (l ++ m) = bs l ++ bs m := by simp [bs]
theorem bs_nil : bs [] = [] := rfl
theorem bs_one (l : List UInt8) : ∀ u ∈ bs l, u.oneCell' = true := by
  intro u hu
  simp only [bs, List.mem_map] at hu
  obtain ⟨b, _, rfl⟩ := hu
  rfl
theorem bs_str (s : ByteArray) : Lib.strCells s = bs s.data.toList := rfl
theorem bs_get (l : List UInt8) (j : Nat) (h : j < l.length) : (bs l)[j]? = some (.int .u8 ((l.getD j 0).toNat : Int)) := by
  simp [bs, List.getElem?_eq_getElem h, List.getD_eq_getElem?_getD]

/-- Byte number k (from behind) of a number. -/
def byteAt (v : Int) (k : Nat) : UInt8 := UInt8.ofNat (v / 256 ^ k % 256).toNat
/-- The last k bytes of a number, the greatest first. -/
def be : Nat → Int → List UInt8
  | 0, _ => []
  | k + 1, v => byteAt v k :: be k v
theorem be_length (k : Nat) (v : Int) : (be k v).length = k := by
  induction k with
  | zero => rfl
  | succ k ih => simp [be, ih]
theorem byteAt_toNat (v : Int) (k : Nat) : ((byteAt v k).toNat : Int) = v / 256 ^ k % 256 := by
  unfold byteAt
  have h1 : 0 ≤ v / 256 ^ k % 256 := Int.emod_nonneg _ (by decide)
  have h2 : v / 256 ^ k % 256 < 256 := Int.emod_lt_of_pos _ (by decide)
  rw [UInt8.toNat_ofNat', Nat.mod_eq_of_lt (by omega)]
  omega

theorem be_take : ∀ (k : Nat) (v : Int) (i : Nat), i < k → (be k v).take (k - i) = (be k v).take (k - (i + 1)) ++ [byteAt v i]
  | 0, _, _, h => absurd h (by omega)
  | k + 1, v, i, h => by
    rcases Nat.lt_or_ge i k with h1 | h1
    · rw [show k + 1 - i = (k - i) + 1 by omega, show k + 1 - (i + 1) = (k - (i + 1)) + 1 by omega]
      simp only [be, List.take_succ_cons, List.cons_append]
      rw [be_take k v i h1]
    · obtain rfl : i = k := by omega
      rw [show i + 1 - i = 1 by omega, show i + 1 - (i + 1) = 0 by omega]
      simp [be]

/-! ### 2. Rows that are read -/
/-- From an address on there stand these cells. -/
def Cells (w : World) (a : Addr) (cs : List Value) : Prop := ∀ j u, cs[j]? = some u → w.cell? (a.add j) = some u
/-- A slice of n elements (size cells each) that reads as these cells. -/
structure Rd (w : World) (size : Nat) (A : Option Addr) (n c : Nat) (cs : List Value) : Prop where
  len : cs.length = n * size
  nil_ : A = none → n = 0 ∧ c = 0
  le : n ≤ c
  cells : ∀ a, A = some a → Cells w a cs

theorem Rd.below {w w1 : World} {size : Nat} {A : Option Addr} {n c : Nat} {cs : List Value} (h : Rd w size A n c cs) (hb : Below w.heap.size w w1) : Rd w1 size A n c cs :=
  ⟨h.len, h.nil_, h.le, fun a ha j u hu => by
    have := h.cells a ha j u hu
    rw [hb.cell (World.block_lt_of_cell? w _ this)]
    exact this⟩
theorem Rd.nil (w : World) (size : Nat) : Rd w size none 0 0 [] := ⟨by simp, fun _ => ⟨rfl, rfl⟩, Nat.le_refl _, fun a ha => by cases ha⟩
theorem Rd.full {w : World} {size : Nat} {A : Option Addr} {n c : Nat} {cs : List Value} (h : Rd w size A n c cs) : Rd w size A n n cs :=
  ⟨h.len, fun ha => ⟨(h.nil_ ha).1, (h.nil_ ha).1⟩, Nat.le_refl _, h.cells⟩
theorem Rd.alloc {w : World} {size : Nat} {A : Option Addr} {n c : Nat} {cs : List Value} (h : Rd w size A n c cs) (o : Obj) : Rd (w.alloc o) size A n c cs :=
  h.below ((Below.refl _ _).alloc (Nat.le_refl _) _)
theorem below_drewN {B : Nat} {w W : World} (h : Below B w W) (n : Nat) : Below B w (W.drewN n) := ⟨h.os, h.tape, h.output, h.size, h.block⟩
theorem Rd.drewN {w : World} {size : Nat} {A : Option Addr} {n c : Nat} {cs : List Value} (h : Rd w size A n c cs) (k : Nat) : Rd (w.drewN k) size A n c cs :=
  h.below (below_drewN (Below.refl _ _) _)
theorem Rd.drew {w : World} {size : Nat} {A : Option Addr} {n c : Nat} {cs : List Value} (h : Rd w size A n c cs) : Rd w.drew size A n c cs :=
  h.below (Below.refl _ _).drew

theorem own_base {w : World} {base : Nat} {e : TypeId} {size n : Nat} {v : Value} {xs : List Value} (h : w.ownsRow base e size v n xs) (k : Nat) (hk : v.ownBlock = some k) : base ≤ k := (h.lt k hk).1
theorem add_plain (g j : Nat) : (⟨g, 0, none⟩ : Addr).add j = ⟨g, j, none⟩ := by unfold Addr.add; split <;> simp_all

/-- What is owned can be read. -/
theorem own_rd {w : World} {base n size : Nat} {e : TypeId} {v : Value} {cs : List Value} (h : w.ownsRow base e size v n cs) : ∃ A c, v = .slice A n c ∧ Rd w size A n c cs := by
  rcases h.2 with ⟨rfl, rfl⟩ | ⟨g, cap, cur, rfl, _, _, hle, _⟩
  · exact ⟨none, 0, rfl, ⟨h.1, fun _ => ⟨rfl, rfl⟩, Nat.le_refl _, fun a ha => (by cases ha)⟩⟩
  · exact ⟨some ⟨g, 0, none⟩, cap, rfl, ⟨h.1, fun ha => (by cases ha), hle, fun a ha j u hu => (by cases ha; exact h.cells (g := g) rfl j u hu)⟩⟩
theorem own_lower {w : World} {base base' n size : Nat} {e : TypeId} {v : Value} {cs : List Value} (h : w.ownsRow base e size v n cs) (hb : base' ≤ base) : w.ownsRow base' e size v n cs := by
  obtain ⟨h1, h2⟩ := h
  refine ⟨h1, ?_⟩
  rcases h2 with h2 | ⟨g, cap, cur, hv, hg, r⟩
  · exact .inl h2
  · exact .inr ⟨g, cap, cur, hv, by omega, r⟩
theorem own_below {w w1 : World} {base : Nat} {e : TypeId} {size n : Nat} {v : Value} {xs : List Value} (h : w.ownsRow base e size v n xs) (hb : Below w.heap.size w w1) : w1.ownsRow base e size v n xs :=
  h.kept ⟨hb.os, hb.tape, hb.output, hb.size, fun i hi _ => hb.block i hi⟩ (by cases v.ownBlock <;> simp : v.ownBlock = none ∨ v.ownBlock ≠ none)

/-- What an append may begin at: a slice without room that reads as these cells, or a row of the call's own. -/
def App (w : World) (base : Nat) (e : TypeId) (size : Nat) (v : Value) (n : Nat) (cs : List Value) : Prop :=
  (∃ A, v = .slice A n n ∧ Rd w size A n n cs) ∨ w.ownsRow base e size v n cs
theorem App.own {w : World} {base : Nat} {e : TypeId} {size : Nat} {v : Value} {n : Nat} {cs : List Value} (h : w.ownsRow base e size v n cs) : App w base e size v n cs := .inr h
theorem App.full {w : World} {base : Nat} {e : TypeId} {size : Nat} {A : Option Addr} {n c : Nat} {cs : List Value} (h : Rd w size A n c cs) : App w base e size (.slice A n n) n cs := .inl ⟨A, rfl, h.full⟩
theorem App.below {w w1 : World} {base : Nat} {e : TypeId} {size : Nat} {v : Value} {n : Nat} {cs : List Value} (h : App w base e size v n cs) (hb : Below w.heap.size w w1) : App w1 base e size v n cs := by
  rcases h with ⟨A, hv, h⟩ | h
  · exact .inl ⟨A, hv, h.below hb⟩
  · exact .inr (own_below h hb)
theorem App.rd {w : World} {base : Nat} {e : TypeId} {size : Nat} {v : Value} {n : Nat} {cs : List Value} (h : App w base e size v n cs) : ∃ A c, v = .slice A n c ∧ Rd w size A n c cs := by
  rcases h with ⟨A, hv, h⟩ | h
  · exact ⟨A, n, hv, h⟩
  · exact own_rd h

/-! ### 3. What is appended: a slice that reads, or a string -/
inductive Add (P : Program) (w : World) (size : Nat) (t : TypeId) : TypeId → Value → Nat → List Value → Prop
  | slice {A : Option Addr} {m c : Nat} {news : List Value} (h : Rd w size A m c news) (h1 : ∀ u ∈ news, u.oneCell' = true) : Add P w size t t (.slice A m c) m news
  | str {u e : TypeId} (hu : P.underlying u = some .string) (ht : P.underlying t = some (.slice e)) (he : (P.info? e).map (fun i => (i.zero, i.size, i.bytes)) = some (some (.int .u8 0), 1, 1)) (hs : size = 1) (s : ByteArray) : Add P w size t u (.string s) s.size (bs s.data.toList)

theorem Add.src {P : Program} {w : World} {size : Nat} {t e tx : TypeId} {x : Value} {m : Nat} {news : List Value} (h : Add P w size t tx x m news) (ht : P.underlying t = some (.slice e)) : Src P size tx x m news w := by
  cases h with
  | @slice A _ c _ h h1 =>
    cases A with
    | none =>
      obtain ⟨rfl, rfl⟩ := h.nil_ rfl
      obtain rfl : news = [] := List.eq_nil_of_length_eq_zero (by have := h.len; omega)
      exact Src.ofNil w ht 0
    | some a => exact Src.ofSlice w ht a m c news h.len (h.cells a rfl) h1
  | str hu _ _ hs s => subst hs; exact Src.ofString w hu s

section
variable {P : Program} {ops : Array Oper} {rest : List Oper} {o : Oper} {a : Act} {Q : Exit → Act → World → Prop}

/-- append, whatever is appended to whatever: the run. -/
theorem run_app {w0 : World} (w : World) (base : Nat) (t tx e ty : TypeId) (z : Value) (size bytes : Nat)
    (ht : P.underlying t = some (.slice e)) (hinfo : (P.info? e).map (fun i => (i.zero, i.size, i.bytes)) = some (some z, size, bytes)) (hz : z.cells.size = size) (hs0 : 0 < size) (hb0 : 0 < bytes)
    (v : Value) (n : Nat) (cs : List Value) (happ : App w base e size v n cs) (x : Value) (m : Nat) (news : List Value) (hadd : Add P w size t tx x m news)
    (HB : Below base w0 w) (hbase : base ≤ w.heap.size) (hbytes : (n + m) * bytes ≤ 140737488355328) :
    ∃ v1 w1, (Builtin.append_ #[t, tx] ty #[v, x]).run P w = .ok v1 w1 ∧ ((m = 0 ∧ v1 = v ∧ w1 = w) ∨ w1.ownsRow base e size v1 (n + m) (cs ++ news)) ∧ (0 < m ∨ w.ownsRow base e size v n cs → w1.ownsRow base e size v1 (n + m) (cs ++ news)) ∧ Below base w0 w1 ∧ w.grownBy w1 v.ownBlock := by
  obtain ⟨i0, hi, hzz⟩ := Option.map_eq_some_iff.1 hinfo
  simp only [Prod.mk.injEq] at hzz
  obtain ⟨hz0, hz1, hz2⟩ := hzz
  have hlen : n + m ≤ maxLen := by
    have := Nat.le_trans (Nat.le_mul_of_pos_right (n + m) hb0) hbytes
    simp only [maxLen]; omega
  rcases happ with ⟨A, rfl, hr⟩ | hown
  · rcases Nat.eq_zero_or_pos m with hm | hm
    · subst hm
      have hsrc := hadd.src ht
      obtain rfl : news = [] := List.eq_nil_of_length_eq_zero (by have := hsrc.newsLen; omega)
      refine ⟨.slice A n n, w, ?_, .inl ⟨rfl, rfl, rfl⟩, fun h => ?_, HB, ⟨rfl, rfl, rfl, Nat.le_refl _, fun _ _ _ => rfl⟩⟩
      · have hc := hsrc.cells
        subst hz1
        cases A with
        | none => rcases hsrc.kind with ⟨e', hk⟩ | hk <;> simp [Builtin.append_, run_underlying ht, run_underlying hk, sizeOf, typeInfo, hi, hsrc.len, hc]
        | some ad => rcases hsrc.kind with ⟨e', hk⟩ | hk <;> simp [Builtin.append_, run_underlying ht, run_underlying hk, sizeOf, typeInfo, hi, hsrc.len, hc, storeCells]
      · rcases h with h | h
        · omega
        · simpa using h
    · have hsrc := hadd.src ht
      have hs2 := hsrc
      subst hz1
      have hold : (Builtin.firstCells i0.size n (.slice A n n)).run P w.drew = .ok cs.toArray w.drew := by
        cases A with
        | none =>
          obtain ⟨rfl, _⟩ := hr.nil_ rfl
          obtain rfl : cs = [] := List.eq_nil_of_length_eq_zero (by have := hr.len; omega)
          rfl
        | some ad => exact run_firstCells_some w.drew i0.size n ad n n cs hr.len (fun j u hu => by simpa using hr.cells ad rfl j u hu)
      subst hz2
      have hrun := run_append_grow_src (P := P) w t tx ty e i0 z ht hi hz0 A n n cs hold x m news hs2 (by omega) (by simp only [maxLen] at hlen; omega) (growslice_fits (by omega) hbytes)
      have hlen2 : (cs ++ news).length = (n + m) * i0.size := by rw [List.length_append, hr.len, hs2.newsLen, Nat.add_mul]
      have hge := grownCap_ge w (n + m) n e
      have hcm : grownCap w (n + m) n e ≤ maxLen := grownCap_le_maxLen w (n + m) n e hlen
      have hgr : w.grownBy (w.drew.alloc (.cells ((cs ++ news).toArray ++ Builtin.zeroCells z.cells (grownCap w (n + m) n e - (n + m))) e)) none := ⟨rfl, rfl, rfl, by simp, fun k hk _ => heap_alloc_old w.drew _ hk⟩
      have hown : (w.drew.alloc (.cells ((cs ++ news).toArray ++ Builtin.zeroCells z.cells (grownCap w (n + m) n e - (n + m))) e)).ownsRow base e i0.size (.slice (some ⟨w.heap.size, 0, none⟩) (n + m) (grownCap w (n + m) n e)) (n + m) (cs ++ news) := by
        refine ⟨hlen2, .inr ⟨w.heap.size, _, _, rfl, hbase, heap_alloc_new w.drew _, hge, hcm, ?_, ?_⟩⟩
        · simp only [Array.size_append, List.size_toArray, size_zeroCells, hz, hr.len, hs2.newsLen, ← Nat.add_mul, List.length_append]
          congr 1
          omega
        · simp only [Array.toList_append]
          rw [← hlen2]
          exact List.take_left
      exact ⟨_, _, hrun, .inr hown, fun _ => hown, HB.grown hgr hbase (fun k hk => by cases hk), ⟨hgr.os, hgr.tape, hgr.output, hgr.size, fun k hk _ => hgr.block k hk (by simp)⟩⟩
  · cases hadd with
    | @slice A _ c _ h h1 =>
      cases A with
      | none =>
        obtain ⟨rfl, rfl⟩ := h.nil_ rfl
        obtain rfl : news = [] := List.eq_nil_of_length_eq_zero (by have := h.len; omega)
        have hr := run_append_owned_none (P := P) (w := w) base t ty e i0 size ht hi v n cs hown
        exact ⟨v, w, hr, .inr (by simpa using hown), fun _ => by simpa using hown, HB, ⟨rfl, rfl, rfl, Nat.le_refl _, fun _ _ _ => rfl⟩⟩
      | some ad =>
        obtain ⟨v1, w1, hr, h2, h3, _⟩ := run_append_own (P := P) w base t ty e i0 z size bytes ht hi hz0 hz1 hz2 hz hs0 v n cs hown ad m c news h.len (h.cells ad rfl) h1 hlen hbytes hbase
        exact ⟨v1, w1, hr, .inr h2, fun _ => h2, HB.grown h3 hbase (own_base hown), h3⟩
    | @str u e' hu ht' he hs s =>
      subst hs
      rw [ht] at ht'
      simp only [Option.some.injEq, TypeDesc.slice.injEq] at ht'
      subst ht'
      rw [hinfo] at he
      simp only [Option.some.injEq, Prod.mk.injEq] at he
      obtain ⟨rfl, _, rfl⟩ := he
      obtain ⟨v1, w1, hr, h2, h3, _⟩ := Lib.run_append_own_string (P := P) w base t tx ty e i0 ht hu hi hz0 hz1 hz2 v n cs hown s hlen (by omega) hbase
      exact ⟨v1, w1, hr, .inr h2, fun _ => h2, HB.grown h3 hbase (own_base hown), h3⟩

/-- append, at the operation. -/
theorem wpList_app {w0 : World} (w : World) (base : Nat) (hgd : o.guard = none) (s x : Operand) (t tx e : TypeId) (z : Value) (size bytes : Nat)
    (ho : o.op = .call { callee := .builtin .append, args := #[s, x], argTypes := #[t, tx] })
    (ht : P.underlying t = some (.slice e)) (hinfo : (P.info? e).map (fun i => (i.zero, i.size, i.bytes)) = some (some z, size, bytes)) (hz : z.cells.size = size) (hs0 : 0 < size) (hb0 : 0 < bytes)
    (v : Value) (n : Nat) (cs : List Value) (hs : a.eval s = v) (happ : App w base e size v n cs) (y : Value) (m : Nat) (news : List Value) (hx : a.eval x = y) (hadd : Add P w size t tx y m news)
    (HB : Below base w0 w) (hbase : base ≤ w.heap.size) (hbytes : (n + m) * bytes ≤ 140737488355328)
    (h : ∀ v1 w1, ((m = 0 ∧ v1 = v ∧ w1 = w) ∨ w1.ownsRow base e size v1 (n + m) (cs ++ news)) → (0 < m ∨ w.ownsRow base e size v n cs → w1.ownsRow base e size v1 (n + m) (cs ++ news)) → Below base w0 w1 → w.grownBy w1 v.ownBlock → wpList P ops Q rest (a.put o.dst v1) w1) :
    wpList P ops Q (o :: rest) a w := by
  refine wpList_plain hgd fun K hK => ?_
  obtain ⟨v1, w1, hr, h1, h2, h3, h4⟩ := run_app (P := P) (w0 := w0) w base t tx e o.type z size bytes ht hinfo hz hs0 hb0 v n cs happ y m news hadd HB hbase hbytes
  unfold Oper.wp execOp
  simp only [ho, resolve, invoke, builtin, Sem.run_bind, Sem.run_pure, Result.andThen_ok, List.map_toArray, List.map_cons, List.map_nil, hs, hx, hr]
  exact hK _ _ (h v1 w1 h1 h2 h3 h4)

/-- append of one element of one cell: the goal's world is 'w' with the box laid. -/
theorem wpList_app1 {w0 w : World} (base : Nat) (hgd : o.guard = none) (s x : Operand) (t e : TypeId) (z : Value) (bytes : Nat)
    (ho : o.op = .call { callee := .builtin .append, args := #[s, x], argTypes := #[t, t] })
    (ht : P.underlying t = some (.slice e)) (hinfo : (P.info? e).map (fun i => (i.zero, i.size, i.bytes)) = some (some z, 1, bytes)) (hz : z.cells.size = 1) (hb0 : 0 < bytes)
    (v : Value) (n : Nat) (cs : List Value) (y : Value) (hs : a.eval s = v) (happ : App w base e 1 v n cs) (h1 : y.oneCell' = true)
    (hx : a.eval x = .slice (some ⟨w.heap.size, 0, none⟩) 1 1)
    (HB : Below base w0 w) (hbase : base ≤ w.heap.size) (hbytes : (n + 1) * bytes ≤ 140737488355328)
    (h : ∀ v1 w1, w1.ownsRow base e 1 v1 (n + 1) (cs ++ [y]) → Below base w0 w1 → w.grownBy w1 v.ownBlock → wpList P ops Q rest (a.put o.dst v1) w1) :
    wpList P ops Q (o :: rest) a (w.alloc (.cells #[y] e)) := by
  refine wpList_app (w0 := w0) (w.alloc (.cells #[y] e)) base hgd s x t t e z 1 bytes ho ht hinfo hz (by omega) hb0 v n cs hs (happ.below ((Below.refl _ _).alloc (Nat.le_refl _) _)) _ 1 [y] hx
    (.slice ⟨rfl, fun h => by (cases h), Nat.le_refl _, fun ad had => by cases had; exact World.news_of_block (cs := #[y]) (t := e) (fr := (0, 0)) (heap_alloc_new w _)⟩ (by simpa using h1)) (HB.alloc hbase _) (by simp; omega) hbytes ?_
  intro v1 w1 _ ho1 hb1 hg
  exact h v1 w1 (ho1 (.inl (by omega))) hb1 (World.grownBy.trans (World.grownBy_alloc w _ _) hg)

end

/-! ### 4. A byte of a row -/
theorem Rd.at {w : World} {ad : Addr} {n c : Nat} {l : List UInt8} (h : Rd w 1 (some ad) n c (bs l)) (j : Nat) (hj : j < n) : w.cell? (ad.add j) = some (.int .u8 ((l.getD j 0).toNat : Int)) := by
  refine h.cells ad rfl j _ (bs_get l j ?_)
  have := h.len
  rw [bs_length] at this
  omega
theorem Rd.blen {w : World} {A : Option Addr} {n c : Nat} {l : List UInt8} (h : Rd w 1 A n c (bs l)) : l.length = n := by
  have := h.len
  rw [bs_length] at this
  omega
/-- The same as the walk spells it inside a cut 's[i:]', at a place of its own. -/
theorem Rd.at' {w : World} {ad : Addr} {n c : Nat} {l : List UInt8} (h : Rd w 1 (some ad) n c (bs l)) (i k : Nat) (hj : i + (k + 1) < n) :
    w.cell? { block := (ad.add i).block, off := (ad.add i).off + (k + 1), spot := none } = some (.int .u8 ((l.getD (i + (k + 1)) 0).toNat : Int)) := by
  have := h.at (i + (k + 1)) hj
  rwa [← Addr.add_add, Addr.add_succ'] at this

/-- The number that bytes tell, the greatest first. -/
def val (l : List UInt8) : Int := l.foldl (fun a b => a * 256 + (b.toNat : Int)) 0

theorem val_nil : val [] = 0 := rfl
theorem val_snoc (l : List UInt8) (b : UInt8) : val (l ++ [b]) = val l * 256 + (b.toNat : Int) := by simp [val]
theorem take_one (l : List UInt8) (i k : Nat) (h : i + k < l.length) : (l.drop i).take (k + 1) = (l.drop i).take k ++ [l.getD (i + k) 0] := by
  have h1 : k < (l.drop i).length := by simp; omega
  rw [List.take_succ_eq_append_getElem h1, List.getElem_drop, List.getD_eq_getElem?_getD, List.getElem?_eq_getElem h]
  rfl
theorem val_take1 (l : List UInt8) (i : Nat) (h : i + 1 ≤ l.length) : val ((l.drop i).take 1) = ((l.getD i 0).toNat : Int) := by
  rw [take_one l i 0 (by omega), val_snoc]; simp [val]
theorem val_take2 (l : List UInt8) (i : Nat) (h : i + 2 ≤ l.length) : val ((l.drop i).take 2) = ((l.getD i 0).toNat : Int) * 256 + ((l.getD (i + 1) 0).toNat : Int) := by
  rw [take_one l i 1 (by omega), val_snoc, val_take1 l i (by omega)]
theorem val_take4 (l : List UInt8) (i : Nat) (h : i + 4 ≤ l.length) : val ((l.drop i).take 4) = ((((l.getD i 0).toNat : Int) * 256 + ((l.getD (i + 1) 0).toNat : Int)) * 256 + ((l.getD (i + 2) 0).toNat : Int)) * 256 + ((l.getD (i + 3) 0).toNat : Int) := by
  rw [take_one l i 3 (by omega), val_snoc, take_one l i 2 (by omega), val_snoc, val_take2 l i (by omega)]
theorem val_nonneg (l : List UInt8) : 0 ≤ val l := by
  have : ∀ (l : List UInt8) (a : Int), 0 ≤ a → 0 ≤ l.foldl (fun a b => a * 256 + (b.toNat : Int)) a := by
    intro l
    induction l with
    | nil => intro a h; exact h
    | cons b l ih => intro a h; exact ih (a * 256 + (b.toNat : Int)) (by omega)
  exact this l 0 (by omega)
theorem val_lt (l : List UInt8) : val l < 256 ^ l.length := by
  have : ∀ (l : List UInt8) (a : Int) (k : Nat), 0 ≤ a → a < 256 ^ k → l.foldl (fun a b => a * 256 + (b.toNat : Int)) a < 256 ^ (k + l.length) := by
    intro l
    induction l with
    | nil => intro a k _ h; simpa using h
    | cons b l ih =>
      intro a k h0 h
      have hb := b.toNat_lt
      have := ih (a * 256 + (b.toNat : Int)) (k + 1) (by omega) (by rw [Int.pow_succ]; omega)
      rw [List.length_cons, show k + (l.length + 1) = k + 1 + l.length by omega]
      exact this
  have := this l 0 0 (by omega) (by simp)
  rw [Nat.zero_add] at this
  exact this

/-- 'x<<8 | y', y a byte. -/
theorem or_byte (x y : Int) (h0 : 0 ≤ x) (h1 : x < 16777216) (h2 : 0 ≤ y) (h3 : y < 256) : bits .or .u32 (x * 256) y = x * 256 + y :=
  bits_join .u32 32 (by decide) (fun n h0 h1 => wraps_u32 n h0 h1) 8 (x * 256) y (by omega) (by omega) (by omega) h2 (by omega) (by omega)
theorem or_zero (y : Int) (h2 : 0 ≤ y) (h3 : y < 4294967296) : bits .or .u32 0 y = y := by
  have := bits_join .u32 32 (by decide) (fun n h0 h1 => wraps_u32 n h0 h1) 32 0 y (by omega) (by omega) (by omega) h2 (by omega) (by omega)
  rw [this]; omega

/-- What reading a number of k bytes tells: the number, the place behind it, the error. -/
def takeR (k : Nat) (l : List UInt8) (i : Int) : Int × Int × Int :=
  if i < 0 ∨ (l.length : Int) < i then (0, 0, 1) else if (l.length : Int) - i < k then (0, 0, 6) else (val ((l.drop i.toNat).take k), i + k, 0)
/-- b is later than a. -/
def later (a b : Int) : Bool := decide (1 ≤ (b - a) % 4294967296 ∧ (b - a) % 4294967296 < 2147483648)

/-! ### 5. Bytes as a string; a cut of a row -/
/-- Bytes as a string. -/
def str (l : List UInt8) : ByteArray := ⟨l.toArray⟩
theorem str_toList (l : List UInt8) : (str l).data.toList = l := by simp [str]
theorem str_size (l : List UInt8) : (str l).size = l.length := by simp [str, ByteArray.size]
@[go_sem] theorem str_toL (l : List UInt8) : (str l).toList = l := ByteArray.toList_mk l
theorem str_inj {l m : List UInt8} (h : str l = str m) : l = m := by rw [← str_toList l, h, str_toList]

theorem bs_nums (l : List UInt8) : bs l = (l.map fun b => (b.toNat : Int)).map (Value.int .u8) := by simp [bs]

theorem run_conv_str {P : Program} (w : World) {src dst e : TypeId} (hs : P.underlying src = some (.slice e)) (he : P.underlying e = some (.int .u8)) (hd : P.underlying dst = some .string)
    {A : Option Addr} {n c : Nat} {l : List UInt8} (hr : Rd w 1 A n c (bs l)) : (convert src dst (.slice A n c)).run P w = .ok (.string (str l)) w := by
  cases A with
  | none =>
    obtain ⟨rfl, rfl⟩ := hr.nil_ rfl
    obtain rfl : l = [] := List.eq_nil_of_length_eq_zero hr.blen
    rw [run_convert_bytes_nil w src e hs he 0 0 dst hd]
    rfl
  | some ad =>
    have hl : (loadCells ad n).run P w = .ok ((l.map fun b => (b.toNat : Int)).map (Value.int .u8)).toArray w := by
      have := run_loadCells_list (P := P) w ad (bs l) (hr.cells ad rfl)
      rw [bs_length, hr.blen, bs_nums] at this
      exact this
    rw [run_convert_bytes_string w src dst e _ n c hs he hd, run_bytesToString w _ n c _ hl, foldl_push_bytes]
    have e1 : List.map (fun n : Int => UInt8.ofNat n.toNat) (l.map fun b => (b.toNat : Int)) = l := by
      rw [List.map_map]
      conv => rhs; rw [← List.map_id l]
      apply List.map_congr_left
      intro b _
      simp
    rw [e1]
    have e2 : (⟨ByteArray.empty.data ++ l.toArray⟩ : ByteArray) = str l := by
      have : ByteArray.empty.data = #[] := rfl
      rw [this, str]
      congr 1
      apply Array.ext'
      simp
    rw [e2]

section
variable {P : Program} {ops : Array Oper} {rest : List Oper} {o : Oper} {a : Act} {Q : Exit → Act → World → Prop}
/-- string(b), at the operation. -/
theorem wpList_conv_str {w : World} (hgd : o.guard = none) (s : Operand) (src dst e : TypeId) (ho : o.op = .convert src dst s)
    (hs : P.underlying src = some (.slice e)) (he : P.underlying e = some (.int .u8)) (hd : P.underlying dst = some .string)
    (A : Option Addr) (n c : Nat) (l : List UInt8) (hx : a.eval s = .slice A n c) (hr : Rd w 1 A n c (bs l)) (h : wpList P ops Q rest (a.put o.dst (.string (str l))) w) : wpList P ops Q (o :: rest) a w := by
  refine wpList_plain hgd fun K hK => ?_
  have hrun := run_conv_str (P := P) w hs he hd hr
  unfold Oper.wp execOp
  simp only [ho, Sem.run_bind, Sem.run_pure, Result.andThen_ok, hx, hrun]
  exact hK _ _ h
end

theorem Cells.drop {w : World} {a : Addr} {cs : List Value} (h : Cells w a cs) (k : Nat) : Cells w (a.add k) (cs.drop k) := by
  intro j u hu
  rw [Addr.add_add]
  exact h (k + j) u (by simpa using hu)
theorem Cells.take {w : World} {a : Addr} {cs : List Value} (h : Cells w a cs) (k : Nat) : Cells w a (cs.take k) := by
  intro j u hu
  rw [List.getElem?_take] at hu
  split at hu
  · exact h j u hu
  · cases hu
theorem Cells.nil (w : World) (a : Addr) : Cells w a [] := fun j u hu => by simp at hu

/-- s[lo:hi] (the address where something of the capacity is left). -/
theorem Rd.cut {w : World} {ad : Addr} {size n c : Nat} {cs : List Value} (h : Rd w size (some ad) n c cs) (lo hi : Nat) (h1 : lo ≤ hi) (h2 : hi ≤ n) :
    Rd w size (some (ad.add (lo * size))) (hi - lo) (c - lo) ((cs.drop (lo * size)).take ((hi - lo) * size)) := by
  refine ⟨?_, fun ha => by (cases ha), by have := h.le; omega, fun a ha => ?_⟩
  · rw [List.length_take, List.length_drop, h.len, ← Nat.sub_mul]
    exact Nat.min_eq_left (Nat.mul_le_mul_right _ (by omega))
  · cases ha
    exact ((h.cells ad rfl).drop _).take _
/-- An empty cut, whatever its address. -/
theorem Rd.empty (w : World) (size : Nat) (ad : Addr) (c : Nat) : Rd w size (some ad) 0 c [] := ⟨by simp, fun ha => by (cases ha), Nat.zero_le _, fun a _ => Cells.nil w a⟩
theorem bs_drop (l : List UInt8) (k : Nat) : (bs l).drop k = bs (l.drop k) := by simp [bs]
theorem bs_take (l : List UInt8) (k : Nat) : (bs l).take k = bs (l.take k) := by simp [bs]
theorem Rd.bcut {w : World} {ad : Addr} {n c : Nat} {l : List UInt8} (h : Rd w 1 (some ad) n c (bs l)) (lo hi : Nat) (h1 : lo ≤ hi) (h2 : hi ≤ n) :
    Rd w 1 (some (ad.add lo)) (hi - lo) (c - lo) (bs ((l.drop lo).take (hi - lo))) := by
  have := h.cut lo hi h1 h2
  simpa [bs_drop, bs_take] using this
/-- The same at a place that is not 0, the address as the walk writes it. -/
theorem Rd.bcutS {w : World} {ad : Addr} {n c : Nat} {l : List UInt8} (h : Rd w 1 (some ad) n c (bs l)) (i k : Nat) (h1 : i + 1 + k ≤ n) :
    Rd w 1 (some { block := ad.block, off := ad.off + (i + 1), spot := none }) k (c - (i + 1)) (bs ((l.drop (i + 1)).take k)) := by
  have := h.bcut (i + 1) (i + 1 + k) (by omega) h1
  rw [Addr.add_succ', show i + 1 + k - (i + 1) = k by omega] at this
  exact this
/-- What reading a short text tells. -/
def textR (l : List UInt8) (i : Int) : List UInt8 × Int × Int :=
  if i < 0 ∨ (l.length : Int) < i then ([], 0, 1) else if (l.length : Int) - i < 1 then ([], 0, 6)
  else if (l.length : Int) - (i + 1) < val ((l.drop i.toNat).take 1) then ([], 0, 6)
  else ((l.drop (i.toNat + 1)).take (val ((l.drop i.toNat).take 1)).toNat, i + 1 + val ((l.drop i.toNat).take 1), 0)
theorem val1_lt (l : List UInt8) : val (l.take 1) < 256 := by
  have h := val_lt (l.take 1)
  have : (l.take 1).length ≤ 1 := by simp; omega
  have : (256 : Int) ^ (l.take 1).length ≤ 256 ^ 1 := by
    rcases Nat.lt_or_ge (l.take 1).length 1 with h | h
    · rw [show (l.take 1).length = 0 by omega]; decide
    · rw [show (l.take 1).length = 1 by omega]; decide
  omega
/-- A literal row of one cell, as it has just been laid. -/
theorem Rd.lit (w : World) (cs : Array Value) (e : TypeId) : Rd (w.alloc (.cells cs e)) 1 (some ⟨w.heap.size, 0, none⟩) cs.size cs.size cs.toList :=
  ⟨by simp, fun ha => by (cases ha), Nat.le_refl _, fun a ha => by cases ha; exact World.news_of_block (cs := cs) (t := e) (fr := (0, 0)) (heap_alloc_new w _)⟩
/-- Two calls one behind the other. -/
theorem below_trans {w w1 w2 : World} (h : Below w.heap.size w w1) (k : Below w1.heap.size w1 w2) : Below w.heap.size w w2 :=
  h.trans ⟨k.os, k.tape, k.output, k.size, fun i hi => k.block i (Nat.lt_of_lt_of_le hi h.size)⟩
theorem below_alloc {w w1 : World} (h : Below w.heap.size w w1) (o : Obj) : Below w.heap.size w (w1.alloc o) := h.alloc h.size o
theorem below_new (w : World) (o : Obj) : Below w.heap.size w (w.alloc o) := (Below.refl _ _).alloc (Nat.le_refl _) o
theorem takeR_lt (k : Nat) (l : List UInt8) (i : Int) (hk : k ≤ 4) : 0 ≤ (takeR k l i).1 ∧ (takeR k l i).1 < 256 ^ k := by
  have hp : (0 : Int) < 256 ^ k := Int.pow_pos (by decide)
  unfold takeR
  split
  · exact ⟨by simp, by simpa using hp⟩
  · split
    · exact ⟨by simp, by simpa using hp⟩
    · refine ⟨val_nonneg _, ?_⟩
      have h := val_lt ((l.drop i.toNat).take k)
      have : ((l.drop i.toNat).take k).length = k := by simp; omega
      rw [this] at h
      exact h
theorem bs_len1 (n : Nat) (h : n ≤ 255) : ([.int .u8 (n : Int)] : List Value) = bs [UInt8.ofNat n] := by
  simp only [bs, List.map_cons, List.map_nil, B]
  rw [UInt8.toNat_ofNat', Nat.mod_eq_of_lt (by omega)]
section
variable {P : Program} {ops : Array Oper} {rest : List Oper} {o : Oper} {a : Act} {Q : Exit → Act → World → Prop}
/-- append(nil, x...): a row of the call's own. -/
theorem wpList_app_nil (w0 w : World) (base : Nat) (hgd : o.guard = none) (s x : Operand) (t tx e : TypeId) (z : Value) (size bytes : Nat)
    (ho : o.op = .call { callee := .builtin .append, args := #[s, x], argTypes := #[t, tx] })
    (ht : P.underlying t = some (.slice e)) (hinfo : (P.info? e).map (fun i => (i.zero, i.size, i.bytes)) = some (some z, size, bytes)) (hz : z.cells.size = size) (hs0 : 0 < size) (hb0 : 0 < bytes)
    (hs : a.eval s = .slice none 0 0) (y : Value) (m : Nat) (news : List Value) (hx : a.eval x = y) (hadd : Add P w size t tx y m news)
    (HB : Below base w0 w) (hbase : base ≤ w.heap.size) (hbytes : m * bytes ≤ 140737488355328)
    (h : ∀ v1 w1, w1.ownsRow base e size v1 m news → Below base w0 w1 → w.grownBy w1 none → wpList P ops Q rest (a.put o.dst v1) w1) :
    wpList P ops Q (o :: rest) a w := by
  refine wpList_app (w0 := w0) w base hgd s x t tx e z size bytes ho ht hinfo hz hs0 hb0 (.slice none 0 0) 0 [] hs (.own (World.ownsRow_nil _ _ _ _)) y m news hx hadd HB hbase (by rw [Nat.zero_add]; exact hbytes) ?_
  intro v1 w1 _ ho1 hb1 hg1
  have ho := ho1 (.inr (World.ownsRow_nil _ _ _ _))
  rw [Nat.zero_add, List.nil_append] at ho
  exact h v1 w1 ho hb1 hg1
end
theorem mid_take {α : Type} (p m q : List α) (i k : Nat) (hi : p.length = i) (hk : m.length = k) : ((p ++ m ++ q).drop i).take k = m := by
  subst hi hk
  rw [List.append_assoc, List.drop_left, List.take_left]
theorem val_append (l m : List UInt8) : val (l ++ m) = val l * 256 ^ m.length + val m := by
  have key : ∀ (m : List UInt8) (a : Int), m.foldl (fun a b => a * 256 + (b.toNat : Int)) a = a * 256 ^ m.length + val m := by
    intro m
    induction m with
    | nil => intro a; simp [val]
    | cons b m ih =>
      intro a
      have h1 := ih (a * 256 + (b.toNat : Int))
      have h2 := ih (0 * 256 + (b.toNat : Int))
      simp only [List.foldl_cons, List.length_cons, val] at h1 h2 ⊢
      rw [h1, h2, Int.pow_succ]
      simp only [Int.add_mul, Int.mul_assoc, Int.mul_comm (256 : Int)]
      omega
  rw [val, List.foldl_append]
  exact key m _
theorem val_be : ∀ (k : Nat) (v : Int), val (be k v) = v % 256 ^ k
  | 0, v => by simp [be, val]
  | k + 1, v => by
    have h : be (k + 1) v = [byteAt v k] ++ be k v := rfl
    rw [h, val_append, val_be k v, be_length]
    have hb : val [byteAt v k] = v / 256 ^ k % 256 := by simp only [val, List.foldl_cons, List.foldl_nil]; rw [byteAt_toNat]; omega
    rw [hb, Int.pow_succ]
    have h1 := Int.emod_add_mul_ediv v (256 ^ k)
    have h2 := Int.emod_add_mul_ediv (v / 256 ^ k) 256
    have hp : (0 : Int) < 256 ^ k := Int.pow_pos (by decide)
    generalize hq : v / 256 ^ k = q at *
    generalize hp2 : (256 : Int) ^ k = p at *
    have h3 : v = (v % p + p * (q % 256)) + (p * 256) * (q / 256) := by
      have : p * q = p * (q % 256) + p * 256 * (q / 256) := by
        rw [Int.mul_assoc, ← Int.mul_add, h2]
      omega
    have hr0 := Int.emod_nonneg v (show p ≠ 0 by omega)
    have hr1 := Int.emod_lt_of_pos v hp
    have hs0 := Int.emod_nonneg q (show (256 : Int) ≠ 0 by decide)
    have hs1 := Int.emod_lt_of_pos q (show (0 : Int) < 256 by decide)
    have h4 : v % (p * 256) = v % p + p * (q % 256) := by
      conv => lhs; rw [h3]
      rw [Int.add_mul_emod_self_left]
      apply Int.emod_eq_of_lt
      · have := Int.mul_nonneg (Int.le_of_lt hp) hs0
        omega
      · have : p * (q % 256) ≤ p * 255 := Int.mul_le_mul_of_nonneg_left (by omega) (by omega)
        omega
    rw [h4, Int.mul_comm (q % 256) p]
    omega
/-- s[:k]. -/
theorem Rd.pre {w : World} {size : Nat} {A : Option Addr} {n c : Nat} {cs : List Value} (h : Rd w size A n c cs) (k : Nat) (hk : k ≤ n) : Rd w size A k c (cs.take (k * size)) := by
  refine ⟨?_, fun ha => ?_, by have := h.le; omega, fun a ha => (h.cells a ha).take _⟩
  · rw [List.length_take, h.len]
    exact Nat.min_eq_left (Nat.mul_le_mul_right _ hk)
  · have := h.nil_ ha; omega
theorem Rd.bpre {w : World} {A : Option Addr} {n c : Nat} {l : List UInt8} (h : Rd w 1 A n c (bs l)) (k : Nat) (hk : k ≤ n) : Rd w 1 A k c (bs (l.take k)) := by
  have := h.pre k hk
  rwa [Nat.mul_one, bs_take] at this

end Go.HL
