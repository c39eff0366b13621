import Derived.Test.YtdjknikkiojfhaaDoorZPF
import Derived.Test.YtdjknikkiojfhaaDoorZPI
/- (*press.Table).row: contract, by a walk. -/
namespace Go.Proofs.YtdjknikkiojfhaaDoor
open Go.RowKit Go.HL Go.Maps Go.Shelf
set_option linter.unusedVariables false
set_option linter.unusedSimpArgs false
attribute [local go_sem] Oper.semAt_some
/-- A name is remembered: what is done of it. -/
def I12 (W0 : World) (bm : Nat) (tab2 : Tb) : List Bool → World → Prop
  | [d], W => if d then Tbl W bm tab2 ∧ W0.grownBy W (some bm) else W = W0.drew
  | _, _ => False
theorem I12.grown {W0 W : World} {bm : Nat} {tab2 : Tb} {d : Bool} (h : I12 W0 bm tab2 [d] W) : W0.grownBy W (some bm) := by
  cases d with
  | true => exact h.2
  | false => have h : W = W0.drew := h; subst h; exact ⟨rfl, rfl, rfl, Nat.le_refl _, fun _ _ _ => rfl⟩
def p12c (A1 : Option Addr) (h B gt bm n1 c1 : Nat) (s1 : ByteArray) : List (Option Value) :=
  [some (.pointer (some ⟨gt, 0, none⟩)),
   some (.pointer (some ⟨gt, 0, none⟩)),
   some (.pointer (some ⟨gt, 0, none⟩)),
   some (.map (some bm)),
   some (.string s1),
   some (.slice A1 n1 c1),
   some (.int .i64 (n1 : Int)),
   none]
def p12G (A1 : Option Addr) (h B gt bm n1 c1 : Nat) (s1 : ByteArray) : Nat → Value → World → Prop
  | 7, u, W => True
  | _, _, _ => True
/-- A label is put behind: what is done of it. -/
def I13 (w W0 : World) (B : Nat) (v : Value) (m : Nat) (l2 : List UInt8) : List Bool → World → Prop
  | [d7, d8], W => (d7 = false → W = W0.drew) ∧ (d8 = true → d7 = true) ∧ (d7 = true → d8 = false → W0.grownBy W v.ownBlock) ∧
      (d8 = true → ∃ W1 v1, W0.grownBy W1 v.ownBlock ∧ W1.ownsRow (w.heap.size + 4) 5 1 v1 m (bs l2) ∧ W = W1.setCell ⟨B, 0, none⟩ v1)
  | _, _ => False
def p13c (w W0 : World) (A1 : Option Addr) (B n1 c1 k : Nat) (s1 : ByteArray) (l2 : List UInt8) : List (Option Value) :=
  [some (.slice A1 n1 c1),
   some (.string s1),
   some (.string s1),
   some (.int .u8 (k : Int)),
   some (.int .i64 (k : Int)),
   some (.int .i64 (1 + (k : Int))),
   some (.string (s1.extract 0 (1 + k))),
   none,
   some (undef)]
def p13G (w W0 : World) (A1 : Option Addr) (B n1 c1 k : Nat) (s1 : ByteArray) (l2 : List UInt8) : Nat → Value → World → Prop
  | 7, u, W => W.ownsRow (w.heap.size + 4) 5 1 u (n1 + (1 + k)) (bs l2)
  | _, _, _ => True
theorem grownBy_then {w w1 w2 : World} {row : Option Nat} (h : w.grownBy w1 row) (k : w1.grownBy w2 row) : w.grownBy w2 row :=
  ⟨k.os.trans h.os, k.tape.trans h.tape, k.output.trans h.output, Nat.le_trans h.size k.size, fun i hi hne => (k.block i (Nat.lt_of_lt_of_le hi h.size) hne).trans (h.block i hi hne)⟩
theorem grown_into {w w1 w2 : World} {row : Option Nat} (h : w.grownBy w1 none) (k : w1.grownBy w2 row) (hr : ∀ j, row = some j → w.heap.size ≤ j) : w.grownBy w2 none :=
  ⟨k.os.trans h.os, k.tape.trans h.tape, k.output.trans h.output, Nat.le_trans h.size k.size, fun i hi _ => (k.block i (Nat.lt_of_lt_of_le hi h.size) (fun e => by have := hr i e.symm; omega)).trans (h.block i hi (by simp))⟩
theorem grown_more {w w1 w2 : World} {b : Nat} {row : Option Nat} (h : w.grownBy w1 (some b)) (k : w1.grownBy w2 row) (hr : ∀ j, row = some j → w.heap.size ≤ j) : w.grownBy w2 (some b) :=
  ⟨k.os.trans h.os, k.tape.trans h.tape, k.output.trans h.output, Nat.le_trans h.size k.size, fun i hi hne => (k.block i (Nat.lt_of_lt_of_le hi h.size) (fun e => by have := hr i e.symm; omega)).trans (h.block i hi hne)⟩
theorem own_low {W W' : World} {base m s b : Nat} {e : TypeId} {v : Value} {x : List Value} (h : W.ownsRow base e s v m x) (hb : b < base) (hg : W.grownBy W' (some b)) : W'.ownsRow base e s v m x := by
  refine h.kept hg ?_
  cases hv : v.ownBlock with
  | none => exact .inl rfl
  | some k => exact .inr (fun e => by cases e; have := (h.lt b hv).1; omega)
theorem own_cells' {W : World} {base m s : Nat} {e : TypeId} {v : Value} {x : List Value} (h : W.ownsRow base e s v m x) (j : Nat) (o : Obj) (hj : v.ownBlock = some j) (ho : W.heap[j]? = some o) : o.isCells = true := by
  rcases h.2 with ⟨h3, _⟩ | ⟨g, cap, cur, h3, _, h4, _⟩
  · rw [h3] at hj; cases hj
  · rw [h3] at hj
    cases hj
    rw [ho] at h4
    cases h4
    rfl
theorem str_take (l : List UInt8) (k : Nat) : ((str l).extract 0 k).data.toList = l.take k := by simp [str]
/-- What row leaves. -/
def RowR (w : World) (bm : Nat) (plain : Bool) (l : List UInt8) (ls : List (List UInt8)) (tab : Tb) (e : Ending) (w' : World) : Prop :=
  ∃ v2, e = .returned (.tuple #[v2, .int .i64 0]) ∧ w'.ownsRow w.heap.size 5 1 v2 (l.length + (en plain tab ls l.length).1.length) (bs (l ++ (en plain tab ls l.length).1)) ∧ Tbl w' bm (en plain tab ls l.length).2 ∧ w.grownBy w' (some bm)
def RowJ (w : World) (B Bs gt bm : Nat) (plain : Bool) (l : List UInt8) (ls : List (List UInt8)) (tab : Tb) (pre : List ByteArray) (W : World) : Prop :=
  ∃ v out ls1 tab1, RowM w B Bs gt bm plain l W v out tab1 ∧ RowP plain l ls tab pre out ls1 tab1
set_option maxRecDepth 100000 in
set_option maxHeartbeats 8000000 in
theorem row_ok (w : World) (gt bm : Nat) (hgt : w.cell? ⟨gt, 0, none⟩ = some (.map (some bm))) (hgb : gt ≠ bm) (tab : Tb) (hT : Tbl w bm tab) (A : Option Addr) (n c : Nat) (l : List UInt8) (hr : Rd w 1 A n c (bs l)) (hn : n ≤ 140737488354000) (ls : List (List UInt8)) (hok : okL ls) (h255 : (gl ls).length ≤ 255) (htl : tab.length ≤ 100000000) (plain : Bool) :
    Calls Tryd.prog 64 #[.pointer (some ⟨gt, 0, none⟩), .slice A n c, .string (str (gl ls)), .bool plain] w (RowR w bm plain l ls tab) := by
  have hl := hr.blen
  have hgtl : gt < w.heap.size := World.block_lt_of_cell? w _ hgt
  have hbml := hT.lt
  obtain ⟨W0, hW0, hz0, b0, b1, b2, b3, hg0⟩ := boxes4 w 81 4 27 28 (.pointer (some ⟨gt, 0, none⟩)) (.bool plain) (.slice none 0 0) (.int .i64 0)
  have hck := check_ W0 (str (gl ls)) (by rw [str_size]; omega)
  rw [isNm_gl hok, decide_eq_true h255] at hck
  have hck2 := fun m => callsIn_wide (n := m).2 hck
  have hfr := fun m W => callsIn_wide (n := m).2 (fronts_ W (str (gl ls)))
  obtain ⟨s, hs⟩ : ∃ s, str (gl ls) = s := ⟨_, rfl⟩
  have hsz : s.size ≤ 255 := by rw [← hs, str_size]; exact h255
  rw [hs] at hck2 hfr ⊢
  have HS := Lib.hid hs
  have HW0 := Lib.hid hW0
  have HCK := Lib.hid hck2
  have HFR := Lib.hid hfr
  have HLL := Lib.hid hl
  clear hW0 hck hck2 hfr hs hl
  have f12 : Fence.wide.fn 36 := trivial
  have f30 : Fence.wide.fn 82 := trivial
  refine (callsIn_wide (n := 9)).1 ?_
  refine callsIn_of_wp_marks Tryd.func64 rfl trivial ?_ rfl
  simp only [Tryd.ntmps64, List.size_toArray, List.length_cons, List.length_nil, Nat.reduceAdd, Nat.reduceSub, Array.replicate_succ, Array.replicate_zero, List.push_toArray, List.append_toArray, List.nil_append, List.cons_append]
  obtain ⟨i0, hi, hz1, hz2, hz3⟩ := info_parts info_u8
  have hMK : ((n : Int) + (s.size : Int)) = ((n + s.size : Nat) : Int) := by omega
  have HI := Lib.hid hi
  have HZ := Lib.hid (And.intro hz1 (And.intro hz2 hz3))
  have HMK := Lib.hid hMK
  clear hi hz1 hz2 hz3 hMK
  gi_wp2_with (first | (gi_at_call 36; rw [HW0.out]; refine (HCK.out _).mono ?_; rintro e w1 ⟨rfl, hb1⟩; have hg1 := below_none hb1; have hz1 := hb1.size) | (gi_at_make; refine wpListIn_make_own _ rfl _ _ 27 rfl (w.heap.size + 4) 5 i0 (.int .u8 0) 1 Tryd.underlying27 HI.out HZ.out.1 HZ.out.2.1 .i64 .i64 _ (n + s.size) rfl rfl HMK.out (by rw [HZ.out.2.2]; omega) (by unfold maxLen; omega) (by omega) ?_; intro w2 ho2 hg2) | (gi_at_builtin; refine wpListIn_app (w0 := w2) w2 (w.heap.size + 4) rfl _ _ 27 27 5 (.int .u8 0) 1 1 rfl Tryd.underlying27 info_u8 rfl (by omega) (by omega) (.slice (some ⟨w1.heap.size, 0, none⟩) 0 (n + s.size)) 0 [] rfl (.own ho2) (.slice A n c) n (bs l) rfl (.slice (((hr.below (grown_below hg0)).below hb1).below (grown_below hg2)) (bs_one l)) (Below.refl _ _) (by have := hg2.size; omega) (by omega) ?_; intro v3 w3 _ ho3' _ hg3; have ho3 := ho3' (.inr ho2); rw [Nat.zero_add, List.nil_append] at ho3; clear ho3'; obtain ⟨A3, c3, rfl, hr3⟩ := own_rd ho3) | (gi_at_call 82; refine (HFR.out _ _).mono ?_; rintro e w' ⟨rfl, rfl⟩))
  have hown3 : (Value.slice (some ⟨w1.heap.size, 0, none⟩) 0 (n + s.size)).ownBlock = some w1.heap.size := rfl
  rw [hown3] at hg3
  have hg03 : W0.grownBy w3 none := grown_into (grownBy_then hg1 hg2) hg3 (fun k hk => by cases hk; omega)
  have hgW5 : W0.grownBy ((w3.alloc (.cells #[.slice A3 n c3] 27)).alloc (.cells #[.string s] 40)) none := grownBy_then hg03 (grownBy_then (World.grownBy_alloc _ _ _) (World.grownBy_alloc _ _ _))
  have kB := (Boxed.new w3 27 (.slice A3 n c3)).alloc (.cells #[.string s] 40)
  have kS := Boxed.new (w3.alloc (.cells #[.slice A3 n c3] 27)) 40 (.string s)
  rw [World.size_alloc] at kS
  have ho5 := (ho3.alloc (.cells #[.slice A3 n c3] 27)).alloc (.cells #[.string s] 40)
  have hz5 : ((w3.alloc (.cells #[.slice A3 n c3] 27)).alloc (.cells #[.string s] 40)).heap.size = w3.heap.size + 2 := by simp
  have hzw : w.heap.size + 4 ≤ w3.heap.size := by have := hg03.size; omega
  obtain ⟨W5, hW5⟩ : ∃ x, ((w3.alloc (.cells #[.slice A3 n c3] 27)).alloc (.cells #[.string s] 40)) = x := ⟨_, rfl⟩
  rw [hW5] at hgW5 kB kS ho5 hz5 ⊢
  obtain ⟨B, hB⟩ : ∃ B, w3.heap.size = B := ⟨_, rfl⟩
  rw [hB] at kB kS hz5 hzw ⊢
  have hwW5 := grownBy_then hg0 hgW5
  have hM0 : RowM w B (B + 1) gt bm plain l W5 (.slice A3 n c3) [] tab := by
    refine ⟨b0.kept hgW5 (by simp), b1.kept hgW5 (by simp), b2.kept hgW5 (by simp), b3.kept hgW5 (by simp), kB, ⟨_, kS⟩, ?_, ?_, hT.kept hwW5 (by simp), hgtl, hbml, hgb, hzw, by omega, by omega, ⟨hwW5.os, hwW5.tape, hwW5.output, hwW5.size, fun k hk _ => hwW5.block k hk (by simp)⟩⟩
    · rw [List.append_nil, HLL.out]
      exact ho5
    · exact hwW5.cell hgt (by simp)
  have hP0 : RowP plain l ls tab [] [] ls tab := ⟨rfl, hok, by simp, by simp, by simp⟩
  have hit : IterX Fence.wide 8 Tryd.prog 90 #[.pointer (some ⟨B + 1, 0, none⟩)] encF (B + 1) 40 (.string s) (frs ls) := by rw [← HS.out]; exact fronts_iter 8 (by omega) (B + 1) ls hok h255
  clear hW5 hB hgW5 kB ho5 hg03 hwW5 hown3 ho3 ho2 hg1 hg2 hg3 hb1 hr3 HCK HFR HMK HI HZ HW0 b0 b1 b2 b3 hg0 hz0 hz1 hT
  refine wpIn_range_stops rfl (by omega) (gf := 90) (lb := #[.pointer (some ⟨B + 1, 0, none⟩)]) rfl trivial (enters_of Tryd.func90 (by kernel_rfl) rfl) encF (fun _ => rfl) (B + 1) 40 (.string s) (frs ls) hit kS
    (RowJ w B (B + 1) gt bm plain l ls tab) (RowX w bm plain l ls tab) ?hset ?hnew ?hput ?hputx ?h0 ?a1 ?hassign ?hbody ?hdone ?hstop
  case hassign =>
    intro lr x W K hK
    simp only [encF]
    gi_wp2
    exact hK
  case hset =>
    rintro pre W v ⟨v1, out, ls1, tab1, hm, hp⟩
    exact ⟨v1, out, ls1, tab1, hm.setS v, hp⟩
  case hnew =>
    rintro pre W W' ⟨v1, out, ls1, tab1, hm, hp⟩ hg
    exact ⟨v1, out, ls1, tab1, hm.new hg, hp⟩
  case hput =>
    rintro pre W k o o' ⟨v1, out, ls1, tab1, hm, hp⟩ hk ho hc
    exact ⟨v1, out, ls1, tab1, hm.put k o o' (by omega) ho hc, hp⟩
  case hputx => exact fun pre W k o o' h hk ho hc => h.put k o o' (by omega) ho hc
  case h0 => exact fun o => ⟨_, [], ls, tab, (hM0.new (World.grownBy_alloc _ _ _)).new (World.grownBy_alloc _ _ _), hP0⟩
  case hbody =>
    rintro lr pre x Wo ⟨v, out, ls1, tab1, hm, hp⟩ hpre
    obtain ⟨y0, r, rfl, rfl⟩ := frs_next hp.fr hpre
    obtain ⟨A1, c1, rfl, hr1⟩ := own_rd hm.own
    have hx0 := hp.ok y0 (by simp)
    have hlen := hp.len
    have hgl := gl_len y0 r
    have hgp := gl_pos r
    have hl := HLL.out
    obtain ⟨n1, hn1⟩ : ∃ n1, l.length + out.length = n1 := ⟨_, rfl⟩
    have hmn : RowM w B (B + 1) gt bm plain l Wo (.slice A1 n1 c1) out tab1 := by rw [← hn1]; exact hm
    have hn1b : n1 ≤ 140737488354300 := by omega
    obtain ⟨k, hk⟩ : ∃ k, y0.length = k := ⟨_, rfl⟩
    have hk63 : 1 ≤ k ∧ k ≤ 63 := by omega
    obtain ⟨s1, hs1⟩ : ∃ s1, str (gl (y0 :: r)) = s1 := ⟨_, rfl⟩
    have hs1l : s1.data.toList = gl (y0 :: r) := by rw [← hs1]; exact str_toList _
    have hs1z : s1.size = (gl (y0 :: r)).length := by rw [← hs1]; exact str_size _
    have hs1b : 1 + k ≤ s1.size := by omega
    have hs1m : s1.size ≤ 140737488355328 := by omega
    have k4 := hm.b0.cell
    have k7 := hm.b1.cell
    have kB := hm.bB.cell
    have kg := hm.cell
    have how := hm.own
    obtain ⟨D, nn, hown, hT, hnt, hpl⟩ := hm.tbl
    have hTn := hT.2 (gl (y0 :: r))
    have hkey := Go.WideMaps.keyOf_string_mk (P := Tryd.prog) Tryd.underlying40 (s := s1) (by unfold maxLen; omega)
    rw [hn1] at hr1 kB how
    rw [hs1]
    have HN1 := Lib.hid hn1
    have HK := Lib.hid hk
    have HS1 := Lib.hid (And.intro hs1l hs1z)
    have HSTR := Lib.hid hs1
    have HOW := Lib.hid how
    have HBB := Lib.hid (show Boxed Wo B 27 (.slice A1 n1 c1) by rw [← hn1]; exact hm.bB)
    have HP := Lib.hid hp
    have HLEN := Lib.hid (And.intro hlen hgl)
    clear how hn1 hk hs1l hs1z hp hlen hgl hl hs1
    cases hlook : HL.look tab1 (gl (y0 :: r)) with
    | some p =>
      have hp16 : p ≤ 16383 := look_lt hpl hlook
      have hat := hTn.2 p hlook
      have hhas : Maps.has D (.string s1.data.toList) = true := by rw [HS1.out.1, hTn.1, hlook]; rfl
      rw [← HS1.out.1] at hat
      have HAT := Lib.hid hat
      have HHAS := Lib.hid hhas
      have HLOOK := Lib.hid hlook
      clear hat hhas hlook hTn
      cases plain with
      | false =>
        have hor : bits .or .i64 49152 (p : Int) = 49152 + (p : Int) := by
          rw [bits_join .i64 32 (by decide) (fun n h0 h1 => by rw [IntKind.wrap_i64]; omega) 14 49152 (p : Int) (by omega) (by omega) (by omega) (by omega) (by omega) (by omega)]
        have hput := fun m => CallsIn.inRound lr (callsIn_wide (n := m).2 (put16 A1 n1 c1 (49152 + (p : Int)) (by omega) (by omega) (by omega) Wo (bs (l ++ out)) hr1))
        have HPUT := Lib.hid hput
        have f31 : Fence.wide.fn 38 := trivial
        have hwv : IntKind.u16.wrap (49152 + (p : Int)) = 49152 + (p : Int) := by rw [IntKind.wrap_u16]; omega
        clear hput
        gi_wp2_with (first | (gi_at_lookup; refine wpListIn_lookup_own_ok_int _ rfl _ _ 117 rfl 40 3 .i64 klaw Tryd.underlying117 Tryd.underlying3 (kzero _) bm nn D rfl hown _ _ rfl hkey ?_; intro cc hcc hwc; have hcc2 := hcc.symm.trans HAT.out; cases hcc2; rw [HHAS.out]; clear hwc hcc) | (gi_at_call 38; refine (HPUT.out _).mono ?_; rintro e w6 ⟨v2, rfl, ho6, hb6⟩; obtain ⟨A4, c4, rfl, hr4⟩ := own_rd ho6; have q2 := (below_none hb6 |> fun h => hm.b2.kept h (by simp)); have q3 := (below_none hb6 |> fun h => hm.b3.kept h (by simp)); have q2c := q2.cell; have q3c := q3.cell; have q2f := q2.frozen; have q3f := q3.frozen))
        have hs2 := grownBy_setCell' w6 (w.heap.size + 2) (.slice A4 (n1 + 2) c4)
        have hs3 := grownBy_setCell' (w6.setCell ⟨w.heap.size + 2, 0, none⟩ (.slice A4 (n1 + 2) c4)) (w.heap.size + 3) (.int .i64 0)
        have hb3l := hm.b3.lt
        have hen : en false tab ls l.length = (out ++ be 2 (49152 + (p : Int)), tab1) := by
          have h1 := HP.out.en
          simp only [HL.en, HLOOK.out, Option.isSome_some, Bool.not_false, Bool.and_self, if_true, Option.getD_some] at h1
          exact h1
        have hgl6 := grownBy_then (below_none hb6) (⟨rfl, rfl, rfl, Nat.le_refl _, fun _ _ _ => rfl⟩ : w6.grownBy w6 none)
        refine ⟨fun j o hj ho hc => ?_, .slice A4 (n1 + 2) c4, (Boxed.set _ q2).kept hs3 (by simp), Boxed.set _ (q3.kept hs2 (by simp)), ?_, ?_, hm.bml, ?_⟩
        · have h1 := (hb6.block j (Array.getElem?_eq_some_iff.1 ho).1).trans ho
          have h2 := (hs2.block j (Array.getElem?_eq_some_iff.1 h1).1 (by simp; omega)).trans h1
          exact (hs3.block j (Array.getElem?_eq_some_iff.1 h2).1 (by simp; omega)).trans h2
        · rw [hen]
          rw [show l.length + (out ++ be 2 (49152 + (p : Int))).length = n1 + 2 by have := HN1.out; rw [List.length_append, be_length]; omega, ← List.append_assoc, bs_append (l ++ out)]
          exact own_low (own_low (own_lower ho6 (by omega)) (by omega) hs2) (by omega) hs3
        · rw [hen]
          exact ((hm.tbl.kept (below_none hb6) (by simp)).kept hs2 (by have := hm.bml; simp; omega)).kept hs3 (by have := hm.bml; simp; omega)
        · exact grown_more (grown_more (grown_more hm.grown (below_none hb6) (fun j e => by cases e)) hs2 (fun j e => by cases e; omega)) hs3 (fun j e => by cases e; omega)
      | true =>
        gi_wp2_with (gi_at_lookup; refine wpListIn_lookup_own_ok_int _ rfl _ _ 117 rfl 40 3 .i64 klaw Tryd.underlying117 Tryd.underlying3 (kzero _) bm nn D rfl hown _ _ rfl hkey ?_; intro cc hcc hwc; rw [HHAS.out]; clear hwc hcc)
        have hi0 : ∀ W, (Instr.index 40 (.string s1) (.int .i64 0)).run Tryd.prog W = .ok (.int .u8 (k : Int)) W := fun W => by
          have h := idx_str (P := Tryd.prog) 40 Tryd.underlying40 .i64 0 s1 (by omega) W
          rw [HS1.out.1, gl_cons] at h
          simp only [List.getD_cons_zero] at h
          rw [ofNat_len (by have := HK.out; omega), HK.out] at h
          exact h
        have hwk : IntKind.i64.wrap (k : Int) = (k : Int) := by rw [IntKind.wrap_i64]; omega
        have hwk1 : IntKind.i64.wrap (1 + (k : Int)) = 1 + (k : Int) := by rw [IntKind.wrap_i64]; omega
        have hkz : (1 + (k : Int)) ≤ (s1.size : Int) := by omega
        have hk0 : (0 : Int) ≤ 1 + (k : Int) := by omega
        have hkn : (1 + (k : Int)).toNat = 1 + k := by omega
        have HEX : Hid ((s1.extract 0 (1 + k)).size = 1 + k ∧ (l ++ out) ++ (s1.extract 0 (1 + k)).data.toList = l ++ (out ++ (UInt8.ofNat k :: y0))) := Lib.hid ⟨by rw [ByteArray.size_extract]; omega, by
          have e : (s1.extract 0 (1 + k)).data.toList = UInt8.ofNat k :: y0 := by
            rw [← HSTR.out, str_take, gl_cons, Nat.add_comm, List.take_succ_cons, ← HK.out, List.take_left]
          rw [e, List.append_assoc]⟩
        have HBZ : Hid (w.heap.size + 4 ≤ Wo.drew.heap.size) := Lib.hid (by have := hmn.b3.lt; show _ ≤ Wo.heap.size; omega)
        refine wpInR_region_loud (by kernel_rfl) (by kernel_rfl) (by kernel_rfl) ?fr_p13a ?hfr_p13a [7, 8] (VV (p13c w Wo A1 B n1 c1 k s1 (l ++ (out ++ (UInt8.ofNat k :: y0)))) (p13G w Wo A1 B n1 c1 k s1 (l ++ (out ++ (UInt8.ofNat k :: y0))))) (I13 w Wo B (.slice A1 n1 c1) (n1 + (1 + k)) (l ++ (out ++ (UInt8.ofNat k :: y0)))) ?h0_p13a ?hob_p13a ?hQ_p13a (by decide)
        case hfr_p13a =>
          intro xs
          simp only [fillL]
          go_simp
          exact rfl
        case h0_p13a =>
          exact ⟨fun _ => rfl, fun h => (by cases h), fun h => (by cases h), fun h => (by cases h)⟩
        case hob_p13a =>
          refine ⟨?_, ?_, ?_, ?_, ?_, ?_, ?_, ?_, ?_, trivial⟩
          · -- 0: slot 65 := load 22 t10
            intro xs d W hd hn hI hV
            have hdn := hn 7 _ rfl (by decide)
            have hW := hI.1 hdn
            subst hW
            rw [if_neg (by decide)]
            clear hV hd hn hI
            go_simp
            exact rfl
          · -- 1: slot 66 := move t11
            intro xs d W hd hn hI hV
            rw [if_neg (by decide)]
            clear hV hd hn hI
            go_simp
            exact rfl
          · -- 2: slot 67 := move t11
            intro xs d W hd hn hI hV
            rw [if_neg (by decide)]
            clear hV hd hn hI
            go_simp
            exact rfl
          · -- 3: slot 68 := index 23 t67 (const (0:i64))
            intro xs d W hd hn hI hV
            have x2 : xs 2 = .string s1 := hV 2 (hd 2 (by decide))
            rw [if_neg (by decide)]
            clear hV hd hn hI
            go_simp
            exact rfl
          · -- 4: slot 69 := convert 5 3 t68
            intro xs d W hd hn hI hV
            have x3 : xs 3 = .int .u8 (k : Int) := hV 3 (hd 3 (by decide))
            rw [if_neg (by decide)]
            clear hV hd hn hI
            go_simp
            exact rfl
          · -- 5: slot 70 := binOp BinOp.add 3 (const (1:i64)) t69 3
            intro xs d W hd hn hI hV
            have x4 : xs 4 = .int .i64 (k : Int) := hV 4 (hd 4 (by decide))
            rw [if_neg (by decide)]
            clear hV hd hn hI
            go_simp
            exact rfl
          · -- 6: slot 71 := slice 23 t66 none (some t70) none
            intro xs d W hd hn hI hV
            have x1 : xs 1 = .string s1 := hV 1 (hd 1 (by decide))
            have x5 : xs 5 = .int .i64 (1 + (k : Int)) := hV 5 (hd 5 (by decide))
            rw [if_neg (by decide)]
            clear hV hd hn hI
            go_simp
            exact rfl
          · -- 7: slot 72 := call { builtin append, args := #[t65, t71], argTypes := #[22, 23] }
            intro xs d W hd hn hI hV
            have x0 : xs 0 = .slice A1 n1 c1 := hV 0 (hd 0 (by decide))
            have x6 : xs 6 = .string (s1.extract 0 (1 + k)) := hV 6 (hd 6 (by decide))
            rw [if_pos (by decide)]
            intro hd7
            have hd8 := hn 8 _ rfl (by decide)
            have hW := hI.1 hd7
            subst hW
            refine ⟨?_, by simp [Region.wanted]⟩
            refine givesIn_app Wo.drew Wo.drew (w.heap.size + 4) _ _ 27 40 5 (.int .u8 0) 1 1 rfl Tryd.underlying27 info_u8 rfl (by omega) (by omega) (.slice A1 n1 c1) n1 (bs (l ++ out)) x0 (.own (own_below HOW.out (Below.refl _ _).drew)) (.string (s1.extract 0 (1 + k))) (s1.extract 0 (1 + k)).size (bs (s1.extract 0 (1 + k)).data.toList) x6 (.str Tryd.underlying40 Tryd.underlying27 info_u8 rfl (s1.extract 0 (1 + k))) (Below.refl _ _) HBZ.out (by rw [HEX.out.1]; omega) ?_
            intro v1 W1 ho1 hg1
            have ho := ho1 (.inr (own_below HOW.out (Below.refl _ _).drew))
            rw [HEX.out.1, ← bs_append, HEX.out.2] at ho
            refine ⟨⟨fun h => (by simp [upd] at h), fun h => (by simp [upd, hd8] at h), fun _ _ => ⟨hg1.os, hg1.tape, hg1.output, hg1.size, hg1.block⟩, fun h => (by simp [upd, hd8] at h)⟩, ho, fun j hj => VV.any1 (hV j hj) (fun h => ?_)⟩
            have hne : j ≠ 7 := fun e => by rw [e, hd7] at hj; cases hj
            unfold p13G
            split
            · exact absurd rfl hne
            · trivial
          · -- 8: slot None := store 22 t10 t72
            intro xs d W hd hn hI hV
            have g7 : (p13G w Wo A1 B n1 c1 k s1 (l ++ (out ++ (UInt8.ofNat k :: y0))) 7 (xs 7) W) := hV 7 (hd 7 (by decide))
            rw [if_pos (by decide)]
            intro hd8
            have hd7 : d 7 = true := hd 7 (by decide)
            have hg3 : Wo.grownBy W (Value.slice A1 n1 c1).ownBlock := hI.2.2.1 hd7 hd8
            have g7' : W.ownsRow (w.heap.size + 4) 5 1 (xs 7) (n1 + (1 + k)) (bs (l ++ (out ++ (UInt8.ofNat k :: y0)))) := g7
            obtain ⟨A4, c4, he4, hr4⟩ := own_rd g7'
            have hbB : Boxed W B 27 (.slice A1 n1 c1) := HBB.out.kept hg3 (Boxed.not_row HBB.out (by decide) HOW.out)
            have hcB := hbB.cell
            have hfB := hbB.frozen
            rw [he4] at g7'
            have hset := grownBy_setCell' W B (.slice A4 (n1 + (1 + k)) c4)
            have ho8 : (W.setCell ⟨B, 0, none⟩ (.slice A4 (n1 + (1 + k)) c4)).ownsRow (w.heap.size + 4) 5 1 (.slice A4 (n1 + (1 + k)) c4) (n1 + (1 + k)) (bs (l ++ (out ++ (UInt8.ofNat k :: y0)))) := g7'.kept hset (.inr (fun e => hbB.not_row (by decide) g7' e.symm))
            have hVd := hV
            clear hV hd hn hI g7
            go_simp
            refine ⟨⟨fun h => (by simp [upd, hd7] at h), fun _ => (by simp [upd, hd7]), fun _ h => (by simp [upd] at h), fun _ => ⟨W, .slice A4 (n1 + (1 + k)) c4, hg3, g7', rfl⟩⟩, rfl, fun j hj => VV.any1 (hVd j hj) (fun h => ?_)⟩
            by_cases hj7 : j = 7
            · subst hj7
              show (W.setCell ⟨B, 0, none⟩ (.slice A4 (n1 + (1 + k)) c4)).ownsRow _ _ _ (xs 7) _ _
              rw [he4]
              exact ho8
            · unfold p13G
              split
              · exact absurd rfl hj7
              · trivial
        case hQ_p13a =>
          intro xs W hI hV
          have x0 : xs 0 = .slice A1 n1 c1 := hV 0 (by decide)
          have x1 : xs 1 = .string s1 := hV 1 (by decide)
          have x2 : xs 2 = .string s1 := hV 2 (by decide)
          have x3 : xs 3 = .int .u8 (k : Int) := hV 3 (by decide)
          have x4 : xs 4 = .int .i64 (k : Int) := hV 4 (by decide)
          have x5 : xs 5 = .int .i64 (1 + (k : Int)) := hV 5 (by decide)
          have x6 : xs 6 = .string (s1.extract 0 (1 + k)) := hV 6 (by decide)
          have x7 : p13G w Wo A1 B n1 c1 k s1 (l ++ (out ++ (UInt8.ofNat k :: y0))) 7 (xs 7) W := hV 7 (by decide)
          have x8 : xs 8 = undef := hV 8 (by decide)
          clear hV
          obtain ⟨W1, v1, hg1, ho1, rfl⟩ := hI.2.2.2 rfl
          refine ⟨hmn.kos _ (by omega) hg1, ⟨v1, out ++ (UInt8.ofNat k :: y0), r, tab1, hmn.push hg1 ?_, ?_⟩, fun u hu => hmn.kept1 hg1 u hu⟩
          · rw [show l.length + (out ++ (UInt8.ofNat k :: y0)).length = n1 + (1 + k) by have := HN1.out; have := HK.out; simp only [List.length_append, List.length_cons]; omega]
            exact ho1
          · rw [← HK.out, ← HSTR.out]
            exact HP.out.next (by rw [HLOOK.out]; rfl) _ (by rw [HLOOK.out]; rfl)
    | none =>
      have hhas : Maps.has D (.string s1.data.toList) = false := by rw [HS1.out.1, hTn.1, hlook]; rfl
      have HHAS := Lib.hid hhas
      have HLOOK := Lib.hid hlook
      clear hhas hlook hTn
      have hplain : ((HL.look tab1 (gl (y0 :: r))).isSome && !plain) = false := by rw [HLOOK.out]; rfl
      have HPLN := Lib.hid hplain
      clear hplain
      by_cases hoff : n1 ≤ 16383
      · have hoff' : (n1 : Int) ≤ 16383 := by omega
        have HNL : Hid (nn < maxLen) := Lib.hid (by
          have h1 := HP.out.cnt
          have h2 := congrArg List.length HP.out.fr
          rw [frs_len, List.length_append] at h2
          have h3 := gl_count ls
          unfold maxLen
          omega)
        have HWF : Hid ((Lit.int .i64 (n1 : Int)).wf = true) := Lib.hid (WalkArith.wf_i64 (by omega))
        have HOWN := Lib.hid hown
        have HT := Lib.hid hT
        have HPL : Hid (∀ p ∈ tab1 ++ [(gl (y0 :: r), n1)], p.2 ≤ 16383) := Lib.hid (fun p hp => by
          rcases List.mem_append.1 hp with h | h
          · exact hpl p h
          · obtain rfl := List.mem_singleton.1 h
            exact hoff)
        have HKL : Hid (WideAt.IsKeyLit (.string s1.data.toList)) := Lib.hid trivial
        have NE4 : Hid (some w.heap.size ≠ some bm) := Lib.hid (by have := hm.nomap hm.b0; simpa using this)
        have NEG : Hid (some gt ≠ some bm) := Lib.hid (by simpa using hgb)
        have NEB : Hid (some B ≠ some bm) := Lib.hid (by have := hm.nomap hm.bB; simpa using this)
        gi_wp2_with (gi_at_lookup; refine wpListIn_lookup_own_ok_int _ rfl _ _ 117 rfl 40 3 .i64 klaw Tryd.underlying117 Tryd.underlying3 (kzero _) bm nn D rfl hown _ _ rfl hkey ?_; intro cc hcc hwc; rw [HHAS.out]; clear hwc hcc)
        refine wpInR_region_loud (by kernel_rfl) (by kernel_rfl) (by kernel_rfl) ?fr_p12 ?hfr_p12 [7] (VV (p12c A1 w.heap.size B gt bm n1 c1 s1) (p12G A1 w.heap.size B gt bm n1 c1 s1)) (I12 Wo bm (tab1 ++ [(gl (y0 :: r), n1)])) ?h0_p12 ?hob_p12 ?hQ_p12 (by decide)
        case hfr_p12 =>
          intro xs
          simp only [fillL]
          go_simp
          exact rfl
        case h0_p12 =>
          exact rfl
        case hob_p12 =>
          refine ⟨?_, ?_, ?_, ?_, ?_, ?_, ?_, ?_, trivial⟩
          · -- 0: slot 58 := load 31 t4
            intro xs d W hd hn hI hV
            have hgI := I12.grown hI
            have q4 := hgI.cell k4 NE4.out
            have qg := hgI.cell kg NEG.out
            have qB := hgI.cell kB NEB.out
            rw [if_neg (by decide)]
            clear hV hd hn hI
            go_simp
            exact rfl
          · -- 1: slot 59 := nilCheck t58
            intro xs d W hd hn hI hV
            have x0 : xs 0 = .pointer (some ⟨gt, 0, none⟩) := hV 0 (hd 0 (by decide))
            have hgI := I12.grown hI
            have q4 := hgI.cell k4 NE4.out
            have qg := hgI.cell kg NEG.out
            have qB := hgI.cell kB NEB.out
            rw [if_neg (by decide)]
            clear hV hd hn hI
            go_simp
            exact rfl
          · -- 2: slot 60 := fieldAddr 58 t59 0
            intro xs d W hd hn hI hV
            have x1 : xs 1 = .pointer (some ⟨gt, 0, none⟩) := hV 1 (hd 1 (by decide))
            have hgI := I12.grown hI
            have q4 := hgI.cell k4 NE4.out
            have qg := hgI.cell kg NEG.out
            have qB := hgI.cell kB NEB.out
            rw [if_neg (by decide)]
            clear hV hd hn hI
            go_simp
            exact rfl
          · -- 3: slot 61 := load 56 t60
            intro xs d W hd hn hI hV
            have x2 : xs 2 = .pointer (some ⟨gt, 0, none⟩) := hV 2 (hd 2 (by decide))
            have hgI := I12.grown hI
            have q4 := hgI.cell k4 NE4.out
            have qg := hgI.cell kg NEG.out
            have qB := hgI.cell kB NEB.out
            rw [if_neg (by decide)]
            clear hV hd hn hI
            go_simp
            exact rfl
          · -- 4: slot 62 := move t11
            intro xs d W hd hn hI hV
            have hgI := I12.grown hI
            have q4 := hgI.cell k4 NE4.out
            have qg := hgI.cell kg NEG.out
            have qB := hgI.cell kB NEB.out
            rw [if_neg (by decide)]
            clear hV hd hn hI
            go_simp
            exact rfl
          · -- 5: slot 63 := load 22 t10
            intro xs d W hd hn hI hV
            have hgI := I12.grown hI
            have q4 := hgI.cell k4 NE4.out
            have qg := hgI.cell kg NEG.out
            have qB := hgI.cell kB NEB.out
            rw [if_neg (by decide)]
            clear hV hd hn hI
            go_simp
            exact rfl
          · -- 6: slot 64 := call { builtin len, args := #[t63], argTypes := #[22] }
            intro xs d W hd hn hI hV
            have x5 : xs 5 = .slice A1 n1 c1 := hV 5 (hd 5 (by decide))
            have hgI := I12.grown hI
            have q4 := hgI.cell k4 NE4.out
            have qg := hgI.cell kg NEG.out
            have qB := hgI.cell kB NEB.out
            rw [if_neg (by decide)]
            clear hV hd hn hI
            go_simp
            exact rfl
          · -- 7: slot None := mapUpdate 56 t61 t62 t64
            intro xs d W hd hn hI hV
            have x3 : xs 3 = .map (some bm) := hV 3 (hd 3 (by decide))
            have x4 : xs 4 = .string s1 := hV 4 (hd 4 (by decide))
            have x6 : xs 6 = .int .i64 (n1 : Int) := hV 6 (hd 6 (by decide))
            rw [if_pos (by decide)]
            intro hd7
            have hI7 : W = Wo.drew := by have hI8 := hI; simpa [I12, hd7] using hI8
            subst hI7
            obtain ⟨w', hrun, hown', hgr⟩ := World.ownsMap.update (P := Tryd.prog) (w := Wo.drew) HOWN.out klaw Tryd.underlying117 HNL.out hkey (plainElem_int Tryd.underlying3 HWF.out)
            have hVd := hV
            clear hV hd hn hI
            go_simp
            refine ⟨?_, ?_, fun j hj => VV.any1 (hVd j hj) (fun h => ?_)⟩
            · show I12 Wo bm _ [upd d 7 true 7] w'
              rw [upd_self]
              exact ⟨⟨_, nn + 1, hown', by rw [HS1.out.1]; exact HT.out.put _ _ HLOOK.out (by rw [← HS1.out.1]; exact HKL.out), by simp; omega, HPL.out⟩, ⟨hgr.os, hgr.tape, hgr.output, hgr.size, hgr.block⟩⟩
            · trivial
            · unfold p12G
              split <;> trivial
        case hQ_p12 =>
          intro xs Wp hI hV
          have x0 : xs 0 = .pointer (some ⟨gt, 0, none⟩) := hV 0 (by decide)
          have x1 : xs 1 = .pointer (some ⟨gt, 0, none⟩) := hV 1 (by decide)
          have x2 : xs 2 = .pointer (some ⟨gt, 0, none⟩) := hV 2 (by decide)
          have x3 : xs 3 = .map (some bm) := hV 3 (by decide)
          have x4 : xs 4 = .string s1 := hV 4 (by decide)
          have x5 : xs 5 = .slice A1 n1 c1 := hV 5 (by decide)
          have x6 : xs 6 = .int .i64 (n1 : Int) := hV 6 (by decide)
          have x7 : p12G A1 w.heap.size B gt bm n1 c1 s1 7 (xs 7) Wp := hV 7 (by decide)
          clear hV
          obtain ⟨htb, hg12⟩ : Tbl Wp bm (tab1 ++ [(gl (y0 :: r), n1)]) ∧ Wo.grownBy Wp (some bm) := hI
          have hm2 := hmn.map hg12 htb
          have hbml2 := hmn.bml
          have hk12 : KOs W5.heap.size Wo Wp := fun j o hj ho hc => (hg12.block j (Array.getElem?_eq_some_iff.1 ho).1 (by simp; omega)).trans ho
          have hkeep : ∀ u, Boxed Wo (B + 1) 40 u → Boxed Wp (B + 1) 40 u := fun u hu => hu.kept hg12 (fun e => hmn.nomap hu (by simpa using e))
          clear x0 x1 x2 x3 x4 x5 x6 x7
          have how2 := hm2.own
          rw [HN1.out] at how2
          have HOW := Lib.hid how2
          have HBB := Lib.hid hm2.bB
          have kB := hm2.bB.cell
          have k4 := hm2.b0.cell
          clear how2
          gi_wp2
          have hi0 : ∀ W, (Instr.index 40 (.string s1) (.int .i64 0)).run Tryd.prog W = .ok (.int .u8 (k : Int)) W := fun W => by
            have h := idx_str (P := Tryd.prog) 40 Tryd.underlying40 .i64 0 s1 (by omega) W
            rw [HS1.out.1, gl_cons] at h
            simp only [List.getD_cons_zero] at h
            rw [ofNat_len (by have := HK.out; omega), HK.out] at h
            exact h
          have hwk : IntKind.i64.wrap (k : Int) = (k : Int) := by rw [IntKind.wrap_i64]; omega
          have hwk1 : IntKind.i64.wrap (1 + (k : Int)) = 1 + (k : Int) := by rw [IntKind.wrap_i64]; omega
          have hkz : (1 + (k : Int)) ≤ (s1.size : Int) := by omega
          have hk0 : (0 : Int) ≤ 1 + (k : Int) := by omega
          have hkn : (1 + (k : Int)).toNat = 1 + k := by omega
          have HEX : Hid ((s1.extract 0 (1 + k)).size = 1 + k ∧ (l ++ out) ++ (s1.extract 0 (1 + k)).data.toList = l ++ (out ++ (UInt8.ofNat k :: y0))) := Lib.hid ⟨by rw [ByteArray.size_extract]; omega, by
            have e : (s1.extract 0 (1 + k)).data.toList = UInt8.ofNat k :: y0 := by
              rw [← HSTR.out, str_take, gl_cons, Nat.add_comm, List.take_succ_cons, ← HK.out, List.take_left]
            rw [e, List.append_assoc]⟩
          have HBZ : Hid (w.heap.size + 4 ≤ Wp.drew.heap.size) := Lib.hid (by have := hm2.b3.lt; show _ ≤ Wp.heap.size; omega)
          refine wpInR_region_loud (by kernel_rfl) (by kernel_rfl) (by kernel_rfl) ?fr_p13b ?hfr_p13b [7, 8] (VV (p13c w Wp A1 B n1 c1 k s1 (l ++ (out ++ (UInt8.ofNat k :: y0)))) (p13G w Wp A1 B n1 c1 k s1 (l ++ (out ++ (UInt8.ofNat k :: y0))))) (I13 w Wp B (.slice A1 n1 c1) (n1 + (1 + k)) (l ++ (out ++ (UInt8.ofNat k :: y0)))) ?h0_p13b ?hob_p13b ?hQ_p13b (by decide)
          case hfr_p13b =>
            intro xs
            simp only [fillL]
            go_simp
            exact rfl
          case h0_p13b =>
            exact ⟨fun _ => rfl, fun h => (by cases h), fun h => (by cases h), fun h => (by cases h)⟩
          case hob_p13b =>
            refine ⟨?_, ?_, ?_, ?_, ?_, ?_, ?_, ?_, ?_, trivial⟩
            · -- 0: slot 65 := load 22 t10
              intro xs d W hd hn hI hV
              have hdn := hn 7 _ rfl (by decide)
              have hW := hI.1 hdn
              subst hW
              rw [if_neg (by decide)]
              clear hV hd hn hI
              go_simp
              exact rfl
            · -- 1: slot 66 := move t11
              intro xs d W hd hn hI hV
              rw [if_neg (by decide)]
              clear hV hd hn hI
              go_simp
              exact rfl
            · -- 2: slot 67 := move t11
              intro xs d W hd hn hI hV
              rw [if_neg (by decide)]
              clear hV hd hn hI
              go_simp
              exact rfl
            · -- 3: slot 68 := index 23 t67 (const (0:i64))
              intro xs d W hd hn hI hV
              have x2 : xs 2 = .string s1 := hV 2 (hd 2 (by decide))
              rw [if_neg (by decide)]
              clear hV hd hn hI
              go_simp
              exact rfl
            · -- 4: slot 69 := convert 5 3 t68
              intro xs d W hd hn hI hV
              have x3 : xs 3 = .int .u8 (k : Int) := hV 3 (hd 3 (by decide))
              rw [if_neg (by decide)]
              clear hV hd hn hI
              go_simp
              exact rfl
            · -- 5: slot 70 := binOp BinOp.add 3 (const (1:i64)) t69 3
              intro xs d W hd hn hI hV
              have x4 : xs 4 = .int .i64 (k : Int) := hV 4 (hd 4 (by decide))
              rw [if_neg (by decide)]
              clear hV hd hn hI
              go_simp
              exact rfl
            · -- 6: slot 71 := slice 23 t66 none (some t70) none
              intro xs d W hd hn hI hV
              have x1 : xs 1 = .string s1 := hV 1 (hd 1 (by decide))
              have x5 : xs 5 = .int .i64 (1 + (k : Int)) := hV 5 (hd 5 (by decide))
              rw [if_neg (by decide)]
              clear hV hd hn hI
              go_simp
              exact rfl
            · -- 7: slot 72 := call { builtin append, args := #[t65, t71], argTypes := #[22, 23] }
              intro xs d W hd hn hI hV
              have x0 : xs 0 = .slice A1 n1 c1 := hV 0 (hd 0 (by decide))
              have x6 : xs 6 = .string (s1.extract 0 (1 + k)) := hV 6 (hd 6 (by decide))
              rw [if_pos (by decide)]
              intro hd7
              have hd8 := hn 8 _ rfl (by decide)
              have hW := hI.1 hd7
              subst hW
              refine ⟨?_, by simp [Region.wanted]⟩
              refine givesIn_app Wp.drew Wp.drew (w.heap.size + 4) _ _ 27 40 5 (.int .u8 0) 1 1 rfl Tryd.underlying27 info_u8 rfl (by omega) (by omega) (.slice A1 n1 c1) n1 (bs (l ++ out)) x0 (.own (own_below HOW.out (Below.refl _ _).drew)) (.string (s1.extract 0 (1 + k))) (s1.extract 0 (1 + k)).size (bs (s1.extract 0 (1 + k)).data.toList) x6 (.str Tryd.underlying40 Tryd.underlying27 info_u8 rfl (s1.extract 0 (1 + k))) (Below.refl _ _) HBZ.out (by rw [HEX.out.1]; omega) ?_
              intro v1 W1 ho1 hg1
              have ho := ho1 (.inr (own_below HOW.out (Below.refl _ _).drew))
              rw [HEX.out.1, ← bs_append, HEX.out.2] at ho
              refine ⟨⟨fun h => (by simp [upd] at h), fun h => (by simp [upd, hd8] at h), fun _ _ => ⟨hg1.os, hg1.tape, hg1.output, hg1.size, hg1.block⟩, fun h => (by simp [upd, hd8] at h)⟩, ho, fun j hj => VV.any1 (hV j hj) (fun h => ?_)⟩
              have hne : j ≠ 7 := fun e => by rw [e, hd7] at hj; cases hj
              unfold p13G
              split
              · exact absurd rfl hne
              · trivial
            · -- 8: slot None := store 22 t10 t72
              intro xs d W hd hn hI hV
              have g7 : (p13G w Wp A1 B n1 c1 k s1 (l ++ (out ++ (UInt8.ofNat k :: y0))) 7 (xs 7) W) := hV 7 (hd 7 (by decide))
              rw [if_pos (by decide)]
              intro hd8
              have hd7 : d 7 = true := hd 7 (by decide)
              have hg3 : Wp.grownBy W (Value.slice A1 n1 c1).ownBlock := hI.2.2.1 hd7 hd8
              have g7' : W.ownsRow (w.heap.size + 4) 5 1 (xs 7) (n1 + (1 + k)) (bs (l ++ (out ++ (UInt8.ofNat k :: y0)))) := g7
              obtain ⟨A4, c4, he4, hr4⟩ := own_rd g7'
              have hbB : Boxed W B 27 (.slice A1 n1 c1) := HBB.out.kept hg3 (Boxed.not_row HBB.out (by decide) HOW.out)
              have hcB := hbB.cell
              have hfB := hbB.frozen
              rw [he4] at g7'
              have hset := grownBy_setCell' W B (.slice A4 (n1 + (1 + k)) c4)
              have ho8 : (W.setCell ⟨B, 0, none⟩ (.slice A4 (n1 + (1 + k)) c4)).ownsRow (w.heap.size + 4) 5 1 (.slice A4 (n1 + (1 + k)) c4) (n1 + (1 + k)) (bs (l ++ (out ++ (UInt8.ofNat k :: y0)))) := g7'.kept hset (.inr (fun e => hbB.not_row (by decide) g7' e.symm))
              have hVd := hV
              clear hV hd hn hI g7
              go_simp
              refine ⟨⟨fun h => (by simp [upd, hd7] at h), fun _ => (by simp [upd, hd7]), fun _ h => (by simp [upd] at h), fun _ => ⟨W, .slice A4 (n1 + (1 + k)) c4, hg3, g7', rfl⟩⟩, rfl, fun j hj => VV.any1 (hVd j hj) (fun h => ?_)⟩
              by_cases hj7 : j = 7
              · subst hj7
                show (W.setCell ⟨B, 0, none⟩ (.slice A4 (n1 + (1 + k)) c4)).ownsRow _ _ _ (xs 7) _ _
                rw [he4]
                exact ho8
              · unfold p13G
                split
                · exact absurd rfl hj7
                · trivial
          case hQ_p13b =>
            intro xs W hI hV
            have x0 : xs 0 = .slice A1 n1 c1 := hV 0 (by decide)
            have x1 : xs 1 = .string s1 := hV 1 (by decide)
            have x2 : xs 2 = .string s1 := hV 2 (by decide)
            have x3 : xs 3 = .int .u8 (k : Int) := hV 3 (by decide)
            have x4 : xs 4 = .int .i64 (k : Int) := hV 4 (by decide)
            have x5 : xs 5 = .int .i64 (1 + (k : Int)) := hV 5 (by decide)
            have x6 : xs 6 = .string (s1.extract 0 (1 + k)) := hV 6 (by decide)
            have x7 : p13G w Wp A1 B n1 c1 k s1 (l ++ (out ++ (UInt8.ofNat k :: y0))) 7 (xs 7) W := hV 7 (by decide)
            have x8 : xs 8 = undef := hV 8 (by decide)
            clear hV
            obtain ⟨W1, v1, hg1, ho1, rfl⟩ := hI.2.2.2 rfl
            refine ⟨KOs.trans hk12 (hm2.kos _ (by omega) hg1), ⟨v1, out ++ (UInt8.ofNat k :: y0), r, (tab1 ++ [(gl (y0 :: r), n1)]), hm2.push hg1 ?_, ?_⟩, fun u hu => hm2.kept1 hg1 u (hkeep u hu)⟩
            · rw [show l.length + (out ++ (UInt8.ofNat k :: y0)).length = n1 + (1 + k) by have := HN1.out; have := HK.out; simp only [List.length_append, List.length_cons]; omega]
              exact ho1
            · rw [← HK.out, ← HSTR.out]
              exact HP.out.next HPLN.out _ (by rw [HLOOK.out, HN1.out]; simp; omega)
      · have hoff' : ¬ (n1 : Int) ≤ 16383 := by omega
        gi_wp2_with (gi_at_lookup; refine wpListIn_lookup_own_ok_int _ rfl _ _ 117 rfl 40 3 .i64 klaw Tryd.underlying117 Tryd.underlying3 (kzero _) bm nn D rfl hown _ _ rfl hkey ?_; intro cc hcc hwc; rw [HHAS.out]; clear hwc hcc)
        have hi0 : ∀ W, (Instr.index 40 (.string s1) (.int .i64 0)).run Tryd.prog W = .ok (.int .u8 (k : Int)) W := fun W => by
          have h := idx_str (P := Tryd.prog) 40 Tryd.underlying40 .i64 0 s1 (by omega) W
          rw [HS1.out.1, gl_cons] at h
          simp only [List.getD_cons_zero] at h
          rw [ofNat_len (by have := HK.out; omega), HK.out] at h
          exact h
        have hwk : IntKind.i64.wrap (k : Int) = (k : Int) := by rw [IntKind.wrap_i64]; omega
        have hwk1 : IntKind.i64.wrap (1 + (k : Int)) = 1 + (k : Int) := by rw [IntKind.wrap_i64]; omega
        have hkz : (1 + (k : Int)) ≤ (s1.size : Int) := by omega
        have hk0 : (0 : Int) ≤ 1 + (k : Int) := by omega
        have hkn : (1 + (k : Int)).toNat = 1 + k := by omega
        have HEX : Hid ((s1.extract 0 (1 + k)).size = 1 + k ∧ (l ++ out) ++ (s1.extract 0 (1 + k)).data.toList = l ++ (out ++ (UInt8.ofNat k :: y0))) := Lib.hid ⟨by rw [ByteArray.size_extract]; omega, by
          have e : (s1.extract 0 (1 + k)).data.toList = UInt8.ofNat k :: y0 := by
            rw [← HSTR.out, str_take, gl_cons, Nat.add_comm, List.take_succ_cons, ← HK.out, List.take_left]
          rw [e, List.append_assoc]⟩
        have HBZ : Hid (w.heap.size + 4 ≤ Wo.drew.heap.size) := Lib.hid (by have := hmn.b3.lt; show _ ≤ Wo.heap.size; omega)
        refine wpInR_region_loud (by kernel_rfl) (by kernel_rfl) (by kernel_rfl) ?fr_p13c ?hfr_p13c [7, 8] (VV (p13c w Wo A1 B n1 c1 k s1 (l ++ (out ++ (UInt8.ofNat k :: y0)))) (p13G w Wo A1 B n1 c1 k s1 (l ++ (out ++ (UInt8.ofNat k :: y0))))) (I13 w Wo B (.slice A1 n1 c1) (n1 + (1 + k)) (l ++ (out ++ (UInt8.ofNat k :: y0)))) ?h0_p13c ?hob_p13c ?hQ_p13c (by decide)
        case hfr_p13c =>
          intro xs
          simp only [fillL]
          go_simp
          exact rfl
        case h0_p13c =>
          exact ⟨fun _ => rfl, fun h => (by cases h), fun h => (by cases h), fun h => (by cases h)⟩
        case hob_p13c =>
          refine ⟨?_, ?_, ?_, ?_, ?_, ?_, ?_, ?_, ?_, trivial⟩
          · -- 0: slot 65 := load 22 t10
            intro xs d W hd hn hI hV
            have hdn := hn 7 _ rfl (by decide)
            have hW := hI.1 hdn
            subst hW
            rw [if_neg (by decide)]
            clear hV hd hn hI
            go_simp
            exact rfl
          · -- 1: slot 66 := move t11
            intro xs d W hd hn hI hV
            rw [if_neg (by decide)]
            clear hV hd hn hI
            go_simp
            exact rfl
          · -- 2: slot 67 := move t11
            intro xs d W hd hn hI hV
            rw [if_neg (by decide)]
            clear hV hd hn hI
            go_simp
            exact rfl
          · -- 3: slot 68 := index 23 t67 (const (0:i64))
            intro xs d W hd hn hI hV
            have x2 : xs 2 = .string s1 := hV 2 (hd 2 (by decide))
            rw [if_neg (by decide)]
            clear hV hd hn hI
            go_simp
            exact rfl
          · -- 4: slot 69 := convert 5 3 t68
            intro xs d W hd hn hI hV
            have x3 : xs 3 = .int .u8 (k : Int) := hV 3 (hd 3 (by decide))
            rw [if_neg (by decide)]
            clear hV hd hn hI
            go_simp
            exact rfl
          · -- 5: slot 70 := binOp BinOp.add 3 (const (1:i64)) t69 3
            intro xs d W hd hn hI hV
            have x4 : xs 4 = .int .i64 (k : Int) := hV 4 (hd 4 (by decide))
            rw [if_neg (by decide)]
            clear hV hd hn hI
            go_simp
            exact rfl
          · -- 6: slot 71 := slice 23 t66 none (some t70) none
            intro xs d W hd hn hI hV
            have x1 : xs 1 = .string s1 := hV 1 (hd 1 (by decide))
            have x5 : xs 5 = .int .i64 (1 + (k : Int)) := hV 5 (hd 5 (by decide))
            rw [if_neg (by decide)]
            clear hV hd hn hI
            go_simp
            exact rfl
          · -- 7: slot 72 := call { builtin append, args := #[t65, t71], argTypes := #[22, 23] }
            intro xs d W hd hn hI hV
            have x0 : xs 0 = .slice A1 n1 c1 := hV 0 (hd 0 (by decide))
            have x6 : xs 6 = .string (s1.extract 0 (1 + k)) := hV 6 (hd 6 (by decide))
            rw [if_pos (by decide)]
            intro hd7
            have hd8 := hn 8 _ rfl (by decide)
            have hW := hI.1 hd7
            subst hW
            refine ⟨?_, by simp [Region.wanted]⟩
            refine givesIn_app Wo.drew Wo.drew (w.heap.size + 4) _ _ 27 40 5 (.int .u8 0) 1 1 rfl Tryd.underlying27 info_u8 rfl (by omega) (by omega) (.slice A1 n1 c1) n1 (bs (l ++ out)) x0 (.own (own_below HOW.out (Below.refl _ _).drew)) (.string (s1.extract 0 (1 + k))) (s1.extract 0 (1 + k)).size (bs (s1.extract 0 (1 + k)).data.toList) x6 (.str Tryd.underlying40 Tryd.underlying27 info_u8 rfl (s1.extract 0 (1 + k))) (Below.refl _ _) HBZ.out (by rw [HEX.out.1]; omega) ?_
            intro v1 W1 ho1 hg1
            have ho := ho1 (.inr (own_below HOW.out (Below.refl _ _).drew))
            rw [HEX.out.1, ← bs_append, HEX.out.2] at ho
            refine ⟨⟨fun h => (by simp [upd] at h), fun h => (by simp [upd, hd8] at h), fun _ _ => ⟨hg1.os, hg1.tape, hg1.output, hg1.size, hg1.block⟩, fun h => (by simp [upd, hd8] at h)⟩, ho, fun j hj => VV.any1 (hV j hj) (fun h => ?_)⟩
            have hne : j ≠ 7 := fun e => by rw [e, hd7] at hj; cases hj
            unfold p13G
            split
            · exact absurd rfl hne
            · trivial
          · -- 8: slot None := store 22 t10 t72
            intro xs d W hd hn hI hV
            have g7 : (p13G w Wo A1 B n1 c1 k s1 (l ++ (out ++ (UInt8.ofNat k :: y0))) 7 (xs 7) W) := hV 7 (hd 7 (by decide))
            rw [if_pos (by decide)]
            intro hd8
            have hd7 : d 7 = true := hd 7 (by decide)
            have hg3 : Wo.grownBy W (Value.slice A1 n1 c1).ownBlock := hI.2.2.1 hd7 hd8
            have g7' : W.ownsRow (w.heap.size + 4) 5 1 (xs 7) (n1 + (1 + k)) (bs (l ++ (out ++ (UInt8.ofNat k :: y0)))) := g7
            obtain ⟨A4, c4, he4, hr4⟩ := own_rd g7'
            have hbB : Boxed W B 27 (.slice A1 n1 c1) := HBB.out.kept hg3 (Boxed.not_row HBB.out (by decide) HOW.out)
            have hcB := hbB.cell
            have hfB := hbB.frozen
            rw [he4] at g7'
            have hset := grownBy_setCell' W B (.slice A4 (n1 + (1 + k)) c4)
            have ho8 : (W.setCell ⟨B, 0, none⟩ (.slice A4 (n1 + (1 + k)) c4)).ownsRow (w.heap.size + 4) 5 1 (.slice A4 (n1 + (1 + k)) c4) (n1 + (1 + k)) (bs (l ++ (out ++ (UInt8.ofNat k :: y0)))) := g7'.kept hset (.inr (fun e => hbB.not_row (by decide) g7' e.symm))
            have hVd := hV
            clear hV hd hn hI g7
            go_simp
            refine ⟨⟨fun h => (by simp [upd, hd7] at h), fun _ => (by simp [upd, hd7]), fun _ h => (by simp [upd] at h), fun _ => ⟨W, .slice A4 (n1 + (1 + k)) c4, hg3, g7', rfl⟩⟩, rfl, fun j hj => VV.any1 (hVd j hj) (fun h => ?_)⟩
            by_cases hj7 : j = 7
            · subst hj7
              show (W.setCell ⟨B, 0, none⟩ (.slice A4 (n1 + (1 + k)) c4)).ownsRow _ _ _ (xs 7) _ _
              rw [he4]
              exact ho8
            · unfold p13G
              split
              · exact absurd rfl hj7
              · trivial
        case hQ_p13c =>
          intro xs W hI hV
          have x0 : xs 0 = .slice A1 n1 c1 := hV 0 (by decide)
          have x1 : xs 1 = .string s1 := hV 1 (by decide)
          have x2 : xs 2 = .string s1 := hV 2 (by decide)
          have x3 : xs 3 = .int .u8 (k : Int) := hV 3 (by decide)
          have x4 : xs 4 = .int .i64 (k : Int) := hV 4 (by decide)
          have x5 : xs 5 = .int .i64 (1 + (k : Int)) := hV 5 (by decide)
          have x6 : xs 6 = .string (s1.extract 0 (1 + k)) := hV 6 (by decide)
          have x7 : p13G w Wo A1 B n1 c1 k s1 (l ++ (out ++ (UInt8.ofNat k :: y0))) 7 (xs 7) W := hV 7 (by decide)
          have x8 : xs 8 = undef := hV 8 (by decide)
          clear hV
          obtain ⟨W1, v1, hg1, ho1, rfl⟩ := hI.2.2.2 rfl
          refine ⟨hmn.kos _ (by omega) hg1, ⟨v1, out ++ (UInt8.ofNat k :: y0), r, tab1, hmn.push hg1 ?_, ?_⟩, fun u hu => hmn.kept1 hg1 u hu⟩
          · rw [show l.length + (out ++ (UInt8.ofNat k :: y0)).length = n1 + (1 + k) by have := HN1.out; have := HK.out; simp only [List.length_append, List.length_cons]; omega]
            exact ho1
          · rw [← HK.out, ← HSTR.out]
            exact HP.out.next HPLN.out _ (by rw [HLOOK.out, HN1.out]; simp; omega)
  case hdone =>
    rintro D W ⟨v, out, ls1, tab1, hm, hp⟩ hD hK
    have hfr := hp.fr
    have hls1 : ls1 = [] := by
      cases ls1 with
      | nil => rfl
      | cons x q =>
        exfalso
        have := congrArg List.length hfr
        simp [frs] at this
    subst hls1
    have hen := hp.en
    simp only [en] at hen
    have hlen := hp.len
    rw [gl_nil] at hlen
    obtain ⟨A1, c1, rfl, hr1⟩ := own_rd hm.own
    have kB := hm.bB.cell
    have hl := HLL.out
    have hob : out.length ≤ 255 := by omega
    obtain ⟨n1, hn1⟩ : ∃ n1, l.length + out.length = n1 := ⟨_, rfl⟩
    have how := hm.own
    rw [hn1] at kB hr1 how
    have hbd : n1 + 1 ≤ 140737488355000 := by omega
    have HN1 := Lib.hid hn1
    have HEN := Lib.hid hen
    clear hn1 hen hlen hfr hl
    have hsrc : Add Tryd.prog (W.alloc (.cells #[.int .u8 0] 5)) 1 27 27 (.slice (some ⟨W.heap.size, 0, none⟩) 1 1) 1 [.int .u8 0] := .slice (Rd.lit W #[.int .u8 0] 5) (bs_one [0])
    have hbz : w.heap.size + 4 ≤ (W.alloc (.cells #[.int .u8 0] 5)).heap.size := by
      have h7 := hm.b3.lt
      rw [World.size_alloc]
      omega
    have hn2 := Boxed.not_row (hm.b2.alloc (.cells #[.int .u8 0] 5)) (by decide) (how.alloc (.cells #[.int .u8 0] 5))
    have hn3 := Boxed.not_row (hm.b3.alloc (.cells #[.int .u8 0] 5)) (by decide) (how.alloc (.cells #[.int .u8 0] 5))
    gi_wp2_with (gi_at_builtin; refine wpListIn_app (w0 := W.alloc (.cells #[.int .u8 0] 5)) (W.alloc (.cells #[.int .u8 0] 5)) (w.heap.size + 4) rfl _ _ 27 27 5 (.int .u8 0) 1 1 rfl Tryd.underlying27 info_u8 rfl (by omega) (by omega) (.slice A1 n1 c1) n1 (bs (l ++ out)) rfl (.own (how.alloc _)) (.slice (some ⟨W.heap.size, 0, none⟩) 1 1) 1 [.int .u8 0] rfl hsrc (Below.refl _ _) hbz (by omega) ?_; intro v3 w3 _ ho' _ hg3; have ho3 := ho' (.inl (by omega)); clear ho'; have q2 := (hm.b2.alloc (.cells #[.int .u8 0] 5)).kept hg3 hn2; have q3 := (hm.b3.alloc (.cells #[.int .u8 0] 5)).kept hg3 hn3; have q2c := q2.cell; have q3c := q3.cell; have q2f := q2.frozen; have q3f := q3.frozen; obtain ⟨A4, c4, rfl, hr4⟩ := own_rd ho3)
    have hDlt := (Array.getElem?_eq_some_iff.1 hK).1
    have hK1 : (W.alloc (.cells #[.int .u8 0] 5)).heap[D]? = some (.deferred (some [])) := (Below.heap_alloc _ _ _ hDlt).trans hK
    have hKn : some D ≠ (Value.slice A1 n1 c1).ownBlock := fun e => by
      have h8 := own_cells' (how.alloc (.cells #[.int .u8 0] 5)) D _ e.symm hK1
      cases h8
    have hK3 : w3.heap[D]? = some (.deferred (some [])) := (hg3.block D (Array.getElem?_eq_some_iff.1 hK1).1 hKn).trans hK1
    have hs2 := grownBy_setCell' w3 (w.heap.size + 2) (.slice A4 (n1 + 1) c4)
    have hs3 := grownBy_setCell' (w3.setCell ⟨w.heap.size + 2, 0, none⟩ (.slice A4 (n1 + 1) c4)) (w.heap.size + 3) (.int .i64 0)
    have hK5 : ((w3.setCell ⟨w.heap.size + 2, 0, none⟩ (.slice A4 (n1 + 1) c4)).setCell ⟨w.heap.size + 3, 0, none⟩ (.int .i64 0)).heap[D]? = some (.deferred (some [])) := by
      have h9 := (hs2.block D (Array.getElem?_eq_some_iff.1 hK3).1 (by simp; omega)).trans hK3
      exact (hs3.block D (Array.getElem?_eq_some_iff.1 h9).1 (by simp; omega)).trans h9
    have hgp := grownBy_putObj' ((w3.setCell ⟨w.heap.size + 2, 0, none⟩ (.slice A4 (n1 + 1) c4)).setCell ⟨w.heap.size + 3, 0, none⟩ (.int .i64 0)) D (.deferred none)
    have d2 := ((Boxed.set (.slice A4 (n1 + 1) c4) q2).kept hs3 (by simp)).kept hgp (by simp; omega)
    have d3 := (Boxed.set (.int .i64 0) (q3.kept hs2 (by simp))).kept hgp (by simp; omega)
    have ho5 := own_low (own_low ho3 (by omega) hs2) (by omega) hs3
    have hgf := grown_more (grown_more (grown_more (grown_more (grown_more hm.grown (World.grownBy_alloc W (.cells #[.int .u8 0] 5) none) (fun j e => by cases e)) hg3 (fun j e => by have := (how.lt j e).1; omega)) hs2 (fun j e => by cases e; omega)) hs3 (fun j e => by cases e; omega)) hgp (fun j e => by cases e; omega)
    have ht3 : Tbl w3 bm tab1 := (hm.tbl.kept (World.grownBy_alloc W (.cells #[.int .u8 0] 5) none) (by simp)).kept hg3 (fun e => by have := (how.lt bm e.symm).1; omega)
    refine ⟨by simp, .inl ⟨_, _, rfl, run_takeDeferred hK5, ?_⟩⟩
    refine ⟨_, results_cc rfl _ rfl rfl d2 d3 Tryd.underlying27 rfl Tryd.underlying28 rfl, _, rfl, ?_, ?_, hgf⟩
    · rw [HEN.out]
      simp only [List.length_append, List.length_cons, List.length_nil]
      rw [← Nat.add_assoc, HN1.out]
      have h10 := own_lower (ownsRow_putObj ho5 (.deferred none) hK5 rfl) (show w.heap.size ≤ w.heap.size + 4 by omega)
      rw [show bs (l ++ (out ++ [0])) = bs (l ++ out) ++ [.int .u8 0] by rw [← List.append_assoc, bs_append (l ++ out)]; rfl]
      exact h10
    · rw [HEN.out]
      exact ((ht3.kept hs2 (by simp; omega)).kept hs3 (by simp; omega)).kept hgp (by simp; omega)
  case hstop =>
    rintro D pre W ⟨v2, c2, c3, ho, ht, hb, hg⟩ hD hK
    have hgp := grownBy_putObj' W D (.deferred none)
    have d2 := c2.kept hgp (by simp; omega)
    have d3 := c3.kept hgp (by simp; omega)
    gi_wp2
    refine ⟨by simp, .inl ⟨_, _, rfl, run_takeDeferred hK, ?_⟩⟩
    refine ⟨_, results_cc rfl _ rfl rfl d2 d3 Tryd.underlying27 rfl Tryd.underlying28 rfl, v2, rfl, own_lower (ownsRow_putObj ho _ hK rfl) (by omega), ht.kept hgp (by simp; omega), ?_⟩
    exact ⟨hgp.os.trans hg.os, hgp.tape.trans hg.tape, hgp.output.trans hg.output, Nat.le_trans hg.size hgp.size, fun k hk hn => by
      rw [hgp.block k (Nat.lt_of_lt_of_le hk hg.size) (by simp; omega), hg.block k hk hn]⟩
end Go.Proofs.YtdjknikkiojfhaaDoor
