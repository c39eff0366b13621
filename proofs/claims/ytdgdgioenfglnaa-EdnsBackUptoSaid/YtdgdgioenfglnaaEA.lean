/- edns: what is added to the options that were told so far. -/
import Derived.Test.YtdgdgioenfglnaaEE
namespace Go.HL
open Go.RowKit
/-- Two rows of unlike elements are no one row. -/
theorem own_kept_other {W W' : World} {base1 base2 m1 m2 s1 s2 : Nat} {e1 e2 : TypeId} {v1 v2 : Value} {x1 x2 : List Value} (h1 : W.ownsRow base1 e1 s1 v1 m1 x1) (h2 : W.ownsRow base2 e2 s2 v2 m2 x2) (hne : e1 ≠ e2) (hg : W.grownBy W' v2.ownBlock) : W'.ownsRow base1 e1 s1 v1 m1 x1 := by
  refine h1.kept hg ?_
  rcases h1.2 with ⟨rfl, _⟩ | ⟨g, cap, cur, rfl, _, hh, _⟩
  · exact .inl rfl
  · refine .inr fun e => ?_
    rcases h2.2 with ⟨rfl, _⟩ | ⟨g', cap', cur', rfl, _, hh', _⟩
    · cases e
    · have : g = g' := by simpa [Value.ownBlock] using e
      subst this
      rw [hh] at hh'
      cases hh'
      exact hne rfl
theorem own_kept_low {W W' : World} {base m s b : Nat} {e : TypeId} {v : Value} {x : List Value} (h : W.ownsRow base e s v m x) (hb : b < base) (hg : W.grownBy W' (some b)) : W'.ownsRow base e s v m x := by
  refine h.kept hg (.inr fun e => ?_)
  have := own_base h b e
  omega
theorem own_kept_new {W W' : World} {base m s : Nat} {e : TypeId} {v : Value} {x : List Value} (h : W.ownsRow base e s v m x) (hg : W.grownBy W' none) : W'.ownsRow base e s v m x :=
  h.kept hg (by cases v.ownBlock <;> simp : v.ownBlock = none ∨ v.ownBlock ≠ none)
theorem own_tmp (W : World) (base : Nat) (e : TypeId) (y : Value) (hb : base ≤ W.heap.size) : (W.alloc (.cells #[y] e)).ownsRow base e 1 (.slice (some ⟨W.heap.size, 0, none⟩) 1 1) 1 [y] :=
  ⟨rfl, .inr ⟨W.heap.size, 1, #[y], rfl, hb, heap_alloc_new W _, Nat.le_refl _, by decide, rfl, rfl⟩⟩
theorem own_cells {W : World} {base m s : Nat} {e : TypeId} {v : Value} {x : List Value} (h : W.ownsRow base e s v m x) (j : Nat) (o : Obj) (hj : v.ownBlock = some j) (ho : W.heap[j]? = some o) : o.isCells = true := by
  rcases h.2 with ⟨rfl, _⟩ | ⟨g, cap, cur, rfl, _, hh, _⟩
  · cases hj
  · have : g = j := by simpa [Value.ownBlock] using hj
    subst this
    rw [hh] at ho
    cases ho
    rfl
/-- What lies below a base stays, but for some blocks; what is no cells stays wherever it lies. -/
structure KeepB (base : Nat) (bs : List Nat) (w W : World) : Prop where
  os : W.os = w.os
  tape : W.tape = w.tape
  output : W.output = w.output
  oth : KeepsOthers w W
  block : ∀ k, k < base → k < w.heap.size → k ∉ bs → W.heap[k]? = w.heap[k]?
theorem KeepB.refl (base : Nat) (bs : List Nat) (w : World) : KeepB base bs w w := ⟨rfl, rfl, rfl, KeepsOthers.refl w, fun _ _ _ _ => rfl⟩
theorem KeepB.step {base : Nat} {bs : List Nat} {w W W' : World} {row : Option Nat} (h : KeepB base bs w W) (hg : W.grownBy W' row) (hrow : ∀ j, row = some j → (base ≤ j ∨ j ∈ bs)) (hc : ∀ (j : Nat) (o : Obj), row = some j → W.heap[j]? = some o → o.isCells = true) : KeepB base bs w W' :=
  ⟨hg.os.trans h.os, hg.tape.trans h.tape, hg.output.trans h.output, h.oth.trans (KeepsOthers.of_grownBy hg hc), fun k h1 h2 h3 => by
    rw [hg.block k (Nat.lt_of_lt_of_le h2 h.oth.size) (fun e => by rcases hrow k e.symm with h4 | h4; omega; exact h3 h4)]
    exact h.block k h1 h2 h3⟩
theorem KeepB.drew {base : Nat} {bs : List Nat} {w W : World} (h : KeepB base bs w W) : KeepB base bs w W.drew := ⟨h.os, h.tape, h.output, h.oth.trans (KeepsOthers.drew W), h.block⟩
theorem grown_drew (W : World) : W.grownBy W.drew none := ⟨rfl, rfl, rfl, Nat.le_refl _, fun _ _ _ => rfl⟩
theorem boxed_cells {W : World} {B : Nat} {t : TypeId} {v : Value} (h : Boxed W B t v) (j : Nat) (o : Obj) (hj : some B = some j) (ho : W.heap[j]? = some o) : o.isCells = true := by
  cases hj
  have h' : W.heap[B]? = _ := h
  rw [h'] at ho
  cases ho
  rfl
end Go.HL
namespace Go.Proofs.Ytdgdgioenfglnaa
open Go.RowKit Go.HL Go.Shelf
set_option linter.unusedVariables false
set_option linter.unusedSimpArgs false

theorem info_u16 : (Try.prog.info? 22).map (fun i => (i.zero, i.size, i.bytes)) = some (some (.int .u16 0), 1, 2) := by kernel_rfl
theorem info_str : (Try.prog.info? 9).map (fun i => (i.zero, i.size, i.bytes)) = some (some (.string ByteArray.empty), 1, 16) := by kernel_rfl
/-- While 'n, l = append(n, k), append(l, t)' is under way: which of the appends and stores are done. -/
structure AddP (w : World) (base Bn Bl Bt m : Nat) (ns ls : List Value) (y z : Value) (x : Int) (vn vl : Value) (b3 b7 b8 b9 : Bool) (W : World) : Prop where
  keep : KeepB base [Bn, Bl, Bt] w W
  left : Boxed W Bt 3 (.int .i64 x)
  on : b3 = false → W.ownsRow base 22 1 vn m ns
  ol : b7 = false → W.ownsRow base 9 1 vl m ls
  n0 : b8 = false → Boxed W Bn 38 vn
  l0 : b9 = false → Boxed W Bl 39 vl
  n1 : b8 = true → ∃ v, Boxed W Bn 38 v ∧ W.ownsRow base 22 1 v (m + 1) (ns ++ [y])
  l1 : b9 = true → ∃ v, Boxed W Bl 39 v ∧ W.ownsRow base 9 1 v (m + 1) (ls ++ [z])
def addG (base m : Nat) (ns ls : List Value) (y z vn vl : Value) : Nat → Value → World → Prop
  | 2, u, W => W.ownsRow base 22 1 u 1 [y] ∧ ∀ g, u.ownBlock = some g → vn.ownBlock ≠ some g
  | 3, u, W => W.ownsRow base 22 1 u (m + 1) (ns ++ [y])
  | 6, u, W => W.ownsRow base 9 1 u 1 [z] ∧ ∀ g, u.ownBlock = some g → vl.ownBlock ≠ some g
  | 7, u, W => W.ownsRow base 9 1 u (m + 1) (ls ++ [z])
  | _, _, _ => True
def addc (y z vn vl : Value) : List (Option Value) := [some vn, some y, none, none, some vl, some z, none, none, some undef, some undef]
/-- What a turn of one row leaves of what is known. -/
theorem addG_kept {base m : Nat} {ns ls : List Value} {y z vn vl : Value} {W W' : World} {row : Option Nat} (hg : W.grownBy W' row) (j : Nat) (u : Value)
    (h : ∀ g, u.ownBlock = some g → (j = 2 ∨ j = 3 ∨ j = 6 ∨ j = 7) → addG base m ns ls y z vn vl j u W → row ≠ some g) (h0 : VV (addc y z vn vl) (addG base m ns ls y z vn vl) j u W) : VV (addc y z vn vl) (addG base m ns ls y z vn vl) j u W' := by
  have hk : ∀ {e : TypeId} {k : Nat} {xs : List Value}, W.ownsRow base e 1 u k xs → (∀ g, u.ownBlock = some g → row ≠ some g) → W'.ownsRow base e 1 u k xs := fun ho hn => ho.kept hg (by
    cases hb : u.ownBlock with
    | none => exact .inl rfl
    | some g => exact .inr (fun e => hn g hb e.symm))
  unfold VV at *
  split
  · rename_i e he; rw [he] at h0; exact h0
  · rename_i he
    have h1 : addG base m ns ls y z vn vl j u W := by rw [he] at h0; exact h0
    show addG base m ns ls y z vn vl j u W'
    by_cases e2 : j = 2
    · subst e2; exact ⟨hk h1.1 (fun g hb => h g hb (.inl rfl) h1), h1.2⟩
    by_cases e3 : j = 3
    · subst e3; exact hk (k := m + 1) (xs := ns ++ [y]) h1 (fun g hb => h g hb (.inr (.inl rfl)) h1)
    by_cases e6 : j = 6
    · subst e6; exact ⟨hk h1.1 (fun g hb => h g hb (.inr (.inr (.inl rfl))) h1), h1.2⟩
    by_cases e7 : j = 7
    · subst e7; exact hk (k := m + 1) (xs := ls ++ [z]) h1 (fun g hb => h g hb (.inr (.inr (.inr rfl))) h1)
    · unfold addG
      split
      · exact absurd rfl e2
      · exact absurd rfl e3
      · exact absurd rfl e6
      · exact absurd rfl e7
      · trivial

theorem own_blk_ne {W : World} {base1 base2 m1 m2 s1 s2 : Nat} {e1 e2 : TypeId} {v1 v2 : Value} {x1 x2 : List Value} (h1 : W.ownsRow base1 e1 s1 v1 m1 x1) (h2 : W.ownsRow base2 e2 s2 v2 m2 x2) (hne : e1 ≠ e2) (g : Nat) (hg : v1.ownBlock = some g) : v2.ownBlock ≠ some g := fun e => by
  rcases h1.2 with ⟨rfl, _⟩ | ⟨g1, cap, cur, rfl, _, hh, _⟩
  · cases hg
  · rcases h2.2 with ⟨rfl, _⟩ | ⟨g', cap', cur', rfl, _, hh', _⟩
    · cases e
    · have h3 : g1 = g := by simpa [Value.ownBlock] using hg
      have h4 : g' = g := by simpa [Value.ownBlock] using e
      subst h3 h4
      rw [hh] at hh'
      cases hh'
      exact hne rfl
/-- What adding leaves. -/
def Added (w : World) (base Bn Bl Bt m : Nat) (ns ls : List Value) (x : Int) (e : Ending) (w' : World) : Prop :=
  e = .returned (.tuple #[]) ∧ ∃ vn vl, Boxed w' Bn 38 vn ∧ w'.ownsRow base 22 1 vn m ns ∧ Boxed w' Bl 39 vl ∧ w'.ownsRow base 9 1 vl m ls ∧ Boxed w' Bt 3 (.int .i64 x) ∧ KeepB base [Bn, Bl, Bt] w w'
set_option maxHeartbeats 4000000 in
theorem add_ (w : World) (base Bn Bl Bt m : Nat) (k : Int) (t : ByteArray) (ns ls : List Value) (x : Int) (vn vl : Value) (h1 : Bn < base) (h2 : Bl < base) (h3 : Bt < base) (hb : base ≤ w.heap.size) (h12 : Bn ≠ Bl) (h13 : Bn ≠ Bt) (h23 : Bl ≠ Bt)
    (hn : Boxed w Bn 38 vn) (hl : Boxed w Bl 39 vl) (ht : Boxed w Bt 3 (.int .i64 x)) (hon : w.ownsRow base 22 1 vn m ns) (hol : w.ownsRow base 9 1 vl m ls)
    (hm : (m + 1) * 16 ≤ 140737488355328) (hts : t.size ≤ 140737488351232) (hx0 : -140737488351232 ≤ x) (hx1 : x ≤ 140737488351232) :
    Calls Try.prog 20 #[.int .u16 k, .string t, .pointer (some ⟨Bn, 0, none⟩), .pointer (some ⟨Bl, 0, none⟩), .pointer (some ⟨Bt, 0, none⟩)] w
      (Added w base Bn Bl Bt (m + 1) (ns ++ [.int .u16 k]) (ls ++ [.string t]) (x - (4 + t.size))) := by
  go_enter Try.func20, Try.ntmps20
  go_wp2_with (fail)
  refine wp_region_loud (by kernel_rfl) (by kernel_rfl) ?fr ?hfr [2, 3, 6, 7, 8, 9] (VV (addc (.int .u16 k) (.string t) vn vl) (addG base m ns ls (.int .u16 k) (.string t) vn vl))
    (fun q => AddP w base Bn Bl Bt m ns ls (.int .u16 k) (.string t) x vn vl (q.getD 1 false) (q.getD 3 false) (q.getD 4 false) (q.getD 5 false)) ?h0 ?hob ?hQ (by decide)
  case hfr =>
    intro xs
    simp only [fillL]
    go_simp
    exact rfl
  case h0 =>
    exact ⟨(KeepB.refl _ _ _).drew, ht, fun _ => own_kept_new hon (grown_drew w), fun _ => own_kept_new hol (grown_drew w), fun _ => hn, fun _ => hl, fun h => (by cases h), fun h => by cases h⟩
  case hob =>
    refine ⟨?_, ?_, ?_, ?_, ?_, ?_, ?_, ?_, ?_, ?_, trivial⟩
    · intro xs d W hd hno hI hV
      have d8 : d 8 = false := hno 8 _ rfl (by decide)
      have hc := (hI.n0 d8).cell
      rw [if_neg (by decide)]
      clear hV hd hno hI
      go_simp
      exact rfl
    · intro xs d W hd hno hI hV
      rw [if_neg (by decide)]
      clear hV hd hno hI
      go_simp
      exact rfl
    · intro xs d W hd hno hI hV
      have x1 : xs 1 = .int .u16 k := hV 1 (hd 1 (by decide))
      have d3 : d 3 = false := hno 3 _ rfl (by decide)
      have hI' : AddP w base Bn Bl Bt m ns ls (.int .u16 k) (.string t) x vn vl (d 3) (d 7) (d 8) (d 9) W := hI
      have hzW : base ≤ W.heap.size := Nat.le_trans hb hI'.keep.oth.size
      have hvn := hI'.on d3
      have hV' := hV
      rw [if_pos (by decide)]
      intro d2
      clear hV hd hno hI
      go_simp
      have hg := World.grownBy_alloc W (.cells #[.int .u16 k] 22) none
      refine ⟨?_, ⟨own_tmp W base _ _ hzW, fun g hg' => ?_⟩, fun j hj => addG_kept hg j _ (by simp) (hV' j hj)⟩
      · show AddP w base Bn Bl Bt m ns ls (.int .u16 k) (.string t) x vn vl (d 3) (d 7) (d 8) (d 9) _
        exact ⟨hI'.keep.step hg (by simp) (by simp), hI'.left.alloc _, fun h => own_kept_new (hI'.on h) hg, fun h => own_kept_new (hI'.ol h) hg, fun h => (hI'.n0 h).alloc _, fun h => (hI'.l0 h).alloc _, fun h => let ⟨v, a, b⟩ := hI'.n1 h; ⟨v, a.alloc _, own_kept_new b hg⟩, fun h => let ⟨v, a, b⟩ := hI'.l1 h; ⟨v, a.alloc _, own_kept_new b hg⟩⟩
      · intro e
        have := (hvn.lt g e).2
        have : W.heap.size = g := by simpa [Value.ownBlock] using hg'
        omega
    · intro xs d W hd hno hI hV
      have x0 : xs 0 = vn := hV 0 (hd 0 (by decide))
      have g2 : addG base m ns ls (.int .u16 k) (.string t) vn vl 2 (xs 2) W := hV 2 (hd 2 (by decide))
      have e8 : d 8 = false := hno 8 _ rfl (by decide)
      have e9 : d 9 = false := hno 9 _ rfl (by decide)
      have hI' : AddP w base Bn Bl Bt m ns ls (.int .u16 k) (.string t) x vn vl (d 3) (d 7) (d 8) (d 9) W := hI
      have hzW : base ≤ W.heap.size := Nat.le_trans hb hI'.keep.oth.size
      obtain ⟨A2, c2, e2, hr2⟩ := own_rd g2.1
      rw [if_pos (by decide)]
      intro d3
      have hvn := hI'.on d3
      refine ⟨gives_app W W base (.tmp 7) (.tmp 9) 38 38 22 (.int .u16 0) 1 2 rfl Try.underlying38 info_u16 rfl (by omega) (by omega) vn m ns x0 (.own hvn) (.slice A2 1 c2) 1 [.int .u16 k] e2 (.slice hr2 (by simp [Value.oneCell'])) (Below.refl _ _) hzW (by omega) ?_, rfl⟩
      intro v1 w1 _ ho1 _ hg1
      have hbk : ∀ {B : Nat} {q : TypeId} {v : Value}, B < base → Boxed W B q v → Boxed w1 B q v := fun hB h => h.kept hg1 (fun e => by have := own_base hvn _ e.symm; omega)
      refine ⟨?_, ho1 (.inl (by omega)), fun j hj => addG_kept hg1 j _ (fun g hbg hjj hG => ?_) (hV j hj)⟩
      · show AddP w base Bn Bl Bt m ns ls (.int .u16 k) (.string t) x vn vl true (d 7) (d 8) (d 9) _
        exact ⟨hI'.keep.step hg1 (fun j hj => .inl (own_base hvn _ hj)) (own_cells hvn), hbk h3 hI'.left, fun h => (by cases h), fun h => own_kept_other (hI'.ol h) hvn (by decide) hg1, fun h => hbk h1 (hI'.n0 h), fun h => hbk h2 (hI'.l0 h), fun h => absurd (e8.symm.trans h) (by decide), fun h => absurd (e9.symm.trans h) (by decide)⟩
      · rcases hjj with rfl | rfl | rfl | rfl
        · exact hG.2 g hbg
        · exact absurd (d3.symm.trans hj) (by decide)
        · exact own_blk_ne hG.1 hvn (by decide) g hbg
        · exact own_blk_ne (show W.ownsRow base 9 1 _ (m + 1) (ls ++ [.string t]) from hG) hvn (by decide) g hbg
    · intro xs d W hd hno hI hV
      have d9 : d 9 = false := hno 9 _ rfl (by decide)
      have hc := (hI.l0 d9).cell
      rw [if_neg (by decide)]
      clear hV hd hno hI
      go_simp
      exact rfl
    · intro xs d W hd hno hI hV
      rw [if_neg (by decide)]
      clear hV hd hno hI
      go_simp
      exact rfl
    · intro xs d W hd hno hI hV
      have x1 : xs 5 = .string t := hV 5 (hd 5 (by decide))
      have d3 : d 7 = false := hno 7 _ rfl (by decide)
      have hI' : AddP w base Bn Bl Bt m ns ls (.int .u16 k) (.string t) x vn vl (d 3) (d 7) (d 8) (d 9) W := hI
      have hzW : base ≤ W.heap.size := Nat.le_trans hb hI'.keep.oth.size
      have hvn := hI'.ol d3
      have hV' := hV
      rw [if_pos (by decide)]
      intro d2
      clear hV hd hno hI
      go_simp
      have hg := World.grownBy_alloc W (.cells #[.string t] 9) none
      refine ⟨?_, ⟨own_tmp W base _ _ hzW, fun g hg' => ?_⟩, fun j hj => addG_kept hg j _ (by simp) (hV' j hj)⟩
      · show AddP w base Bn Bl Bt m ns ls (.int .u16 k) (.string t) x vn vl (d 3) (d 7) (d 8) (d 9) _
        exact ⟨hI'.keep.step hg (by simp) (by simp), hI'.left.alloc _, fun h => own_kept_new (hI'.on h) hg, fun h => own_kept_new (hI'.ol h) hg, fun h => (hI'.n0 h).alloc _, fun h => (hI'.l0 h).alloc _, fun h => let ⟨v, a, b⟩ := hI'.n1 h; ⟨v, a.alloc _, own_kept_new b hg⟩, fun h => let ⟨v, a, b⟩ := hI'.l1 h; ⟨v, a.alloc _, own_kept_new b hg⟩⟩
      · intro e
        have := (hvn.lt g e).2
        have : W.heap.size = g := by simpa [Value.ownBlock] using hg'
        omega
    · intro xs d W hd hno hI hV
      have x0 : xs 4 = vl := hV 4 (hd 4 (by decide))
      have g2 : addG base m ns ls (.int .u16 k) (.string t) vn vl 6 (xs 6) W := hV 6 (hd 6 (by decide))
      have e8 : d 8 = false := hno 8 _ rfl (by decide)
      have e9 : d 9 = false := hno 9 _ rfl (by decide)
      have hI' : AddP w base Bn Bl Bt m ns ls (.int .u16 k) (.string t) x vn vl (d 3) (d 7) (d 8) (d 9) W := hI
      have hzW : base ≤ W.heap.size := Nat.le_trans hb hI'.keep.oth.size
      obtain ⟨A2, c2, e2, hr2⟩ := own_rd g2.1
      rw [if_pos (by decide)]
      intro d3
      have hvn := hI'.ol d3
      refine ⟨gives_app W W base (.tmp 11) (.tmp 13) 39 39 9 (.string ByteArray.empty) 1 16 rfl Try.underlying39 info_str rfl (by omega) (by omega) vl m ls x0 (.own hvn) (.slice A2 1 c2) 1 [.string t] e2 (.slice hr2 (by simp [Value.oneCell'])) (Below.refl _ _) hzW hm ?_, rfl⟩
      intro v1 w1 _ ho1 _ hg1
      have hbk : ∀ {B : Nat} {q : TypeId} {v : Value}, B < base → Boxed W B q v → Boxed w1 B q v := fun hB h => h.kept hg1 (fun e => by have := own_base hvn _ e.symm; omega)
      refine ⟨?_, ho1 (.inl (by omega)), fun j hj => addG_kept hg1 j _ (fun g hbg hjj hG => ?_) (hV j hj)⟩
      · show AddP w base Bn Bl Bt m ns ls (.int .u16 k) (.string t) x vn vl (d 3) true (d 8) (d 9) _
        exact ⟨hI'.keep.step hg1 (fun j hj => .inl (own_base hvn _ hj)) (own_cells hvn), hbk h3 hI'.left, fun h => own_kept_other (hI'.on h) hvn (by decide) hg1, fun h => (by cases h), fun h => hbk h1 (hI'.n0 h), fun h => hbk h2 (hI'.l0 h), fun h => absurd (e8.symm.trans h) (by decide), fun h => absurd (e9.symm.trans h) (by decide)⟩
      · rcases hjj with rfl | rfl | rfl | rfl
        · exact own_blk_ne hG.1 hvn (by decide) g hbg
        · exact own_blk_ne (show W.ownsRow base 22 1 _ (m + 1) (ns ++ [.int .u16 k]) from hG) hvn (by decide) g hbg
        · exact hG.2 g hbg
        · exact absurd (d3.symm.trans hj) (by decide)
    · intro xs d W hd hno hI hV
      have g3 : W.ownsRow base 22 1 (xs 3) (m + 1) (ns ++ [.int .u16 k]) := hV 3 (hd 3 (by decide))
      have t3 : d 3 = true := hd 3 (by decide)
      have t7 : d 7 = true := hd 7 (by decide)
      have e9 : d 9 = false := hno 9 _ rfl (by decide)
      have hI' : AddP w base Bn Bl Bt m ns ls (.int .u16 k) (.string t) x vn vl (d 3) (d 7) (d 8) (d 9) W := hI
      obtain ⟨A2, c2, e2, hr2⟩ := own_rd g3
      have hV' := hV
      rw [if_pos (by decide)]
      intro d8
      have hBn := hI'.n0 d8
      have hc := hBn.cell
      have hf := hBn.frozen
      clear hV hd hno hI
      go_simp
      have hg := grownBy_setCell' W Bn (.slice A2 (m + 1) c2)
      have hbk : ∀ {B : Nat} {q : TypeId} {v : Value}, B ≠ Bn → Boxed W B q v → Boxed (W.setCell ⟨Bn, 0, none⟩ (.slice A2 (m + 1) c2)) B q v := fun hB h => h.kept hg (by simpa using hB)
      refine ⟨?_, rfl, fun j hj => addG_kept hg j _ (fun g hbg hjj hG => ?_) (hV' j hj)⟩
      · show AddP w base Bn Bl Bt m ns ls (.int .u16 k) (.string t) x vn vl (d 3) (d 7) true (d 9) _
        exact ⟨hI'.keep.step hg (fun j hj => .inr (by cases hj; simp)) (boxed_cells hBn), hbk (Ne.symm h13) hI'.left, fun h => absurd (t3.symm.trans h) (by decide), fun h => absurd (t7.symm.trans h) (by decide), fun h => (by cases h), fun h => hbk (Ne.symm h12) (hI'.l0 h), fun _ => ⟨_, hBn.set _, own_kept_low (e2 ▸ g3) h1 hg⟩, fun h => absurd (e9.symm.trans h) (by decide)⟩
      · have hge : base ≤ g := by
          rcases hjj with rfl | rfl | rfl | rfl
          · exact own_base hG.1 g hbg
          · exact own_base (show W.ownsRow base 22 1 _ (m + 1) (ns ++ [.int .u16 k]) from hG) g hbg
          · exact own_base hG.1 g hbg
          · exact own_base (show W.ownsRow base 9 1 _ (m + 1) (ls ++ [.string t]) from hG) g hbg
        simp
        omega
    · intro xs d W hd hno hI hV
      have g3 : W.ownsRow base 9 1 (xs 7) (m + 1) (ls ++ [.string t]) := hV 7 (hd 7 (by decide))
      have t3 : d 3 = true := hd 3 (by decide)
      have t7 : d 7 = true := hd 7 (by decide)
      have t8 : d 8 = true := hd 8 (by decide)
      have hI' : AddP w base Bn Bl Bt m ns ls (.int .u16 k) (.string t) x vn vl (d 3) (d 7) (d 8) (d 9) W := hI
      obtain ⟨A2, c2, e2, hr2⟩ := own_rd g3
      have hV' := hV
      rw [if_pos (by decide)]
      intro d9
      have hBl := hI'.l0 d9
      have hc := hBl.cell
      have hf := hBl.frozen
      clear hV hd hno hI
      go_simp
      have hg := grownBy_setCell' W Bl (.slice A2 (m + 1) c2)
      have hbk : ∀ {B : Nat} {q : TypeId} {v : Value}, B ≠ Bl → Boxed W B q v → Boxed (W.setCell ⟨Bl, 0, none⟩ (.slice A2 (m + 1) c2)) B q v := fun hB h => h.kept hg (by simpa using hB)
      refine ⟨?_, rfl, fun j hj => addG_kept hg j _ (fun g hbg hjj hG => ?_) (hV' j hj)⟩
      · show AddP w base Bn Bl Bt m ns ls (.int .u16 k) (.string t) x vn vl (d 3) (d 7) (d 8) true _
        exact ⟨hI'.keep.step hg (fun j hj => .inr (by cases hj; simp)) (boxed_cells hBl), hbk (Ne.symm h23) hI'.left, fun h => absurd (t3.symm.trans h) (by decide), fun h => absurd (t7.symm.trans h) (by decide), fun h => absurd (t8.symm.trans h) (by decide), fun h => (by cases h), fun h => let ⟨v, a, b⟩ := hI'.n1 h; ⟨v, hbk h12 a, own_kept_low b h2 hg⟩, fun _ => ⟨_, hBl.set _, own_kept_low (e2 ▸ g3) h2 hg⟩⟩
      · have hge : base ≤ g := by
          rcases hjj with rfl | rfl | rfl | rfl
          · exact own_base hG.1 g hbg
          · exact own_base (show W.ownsRow base 22 1 _ (m + 1) (ns ++ [.int .u16 k]) from hG) g hbg
          · exact own_base hG.1 g hbg
          · exact own_base (show W.ownsRow base 9 1 _ (m + 1) (ls ++ [.string t]) from hG) g hbg
        simp
        omega
  case hQ =>
    intro xs W hI hV
    have hI' : AddP w base Bn Bl Bt m ns ls (.int .u16 k) (.string t) x vn vl true true true true W := hI
    obtain ⟨va, a1, a2⟩ := hI'.n1 rfl
    obtain ⟨vb, b1, b2⟩ := hI'.l1 rfl
    have ht2 := hI'.left
    have hc := ht2.cell
    have hf := ht2.frozen
    have hkp := hI'.keep
    clear hI hV hI'
    go_wp2
    refine bodyPost_ret (results_none rfl _ _ _) rfl ?_
    have hg := grownBy_setCell' W Bt (.int .i64 (x - (4 + t.size)))
    exact ⟨rfl, va, vb, a1.kept hg (by simpa using h13), own_kept_low a2 h3 hg, b1.kept hg (by simpa using h23), own_kept_low b2 h3 hg, ht2.set _, hkp.step hg (fun j hj => .inr (by cases hj; simp)) (boxed_cells ht2)⟩
end Go.Proofs.Ytdgdgioenfglnaa
