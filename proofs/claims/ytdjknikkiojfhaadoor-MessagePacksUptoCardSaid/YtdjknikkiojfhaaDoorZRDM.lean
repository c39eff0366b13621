import Derived.Test.YtdjknikkiojfhaaDoorZRDK
import Derived.Test.YtdjknikkiojfhaaDoorZRDI
import Derived.Test.YtdjknikkiojfhaaDoorZPZ
import Derived.Test.YtdjknikkiojfhaaDoorZRef
import Derived.Deep.RegionLaw
/- hearsayref04.Put: the walk. -/
namespace Go.Proofs.YtdjknikkiojfhaaDoor
open Go.RowKit Go.HL Go.Maps
set_option linter.unusedVariables false
set_option linter.unusedSimpArgs false
theorem en_bd (plain : Bool) : ∀ (ls : List (List UInt8)) (tab : Tb) (off : Nat), (∀ p ∈ tab, p.2 ≤ 16383) → ∀ p ∈ (en plain tab ls off).2, p.2 ≤ 16383
  | [], tab, off, h => by simpa [en] using h
  | x :: r, tab, off, h => by
    rw [en]
    split
    · exact h
    · refine en_bd plain r _ _ ?_
      split
      · exact h
      · rename_i hc
        intro p hp
        rcases List.mem_append.1 hp with hp | hp
        · exact h p hp
        · rw [List.mem_singleton.1 hp]
          simp at hc
          exact hc.2
/-- What holds while the document writes: the row of bytes, the table; 'q' counts what was written. -/
structure Rs (W : World) (b rt : Nat) (d : Dt) (l : List UInt8) (tab : Tb) (A : Option Addr) (n c q : Nat) (wr : World) : Prop where
  D : Blk wr b 44 d.cells
  T : ∃ vn vp, RefT wr rt vn vp tab
  C : Chg rt W wr
  own : wr.ownsRow W.heap.size 5 1 (.slice A n c) l.length (bs l)
  len : l.length = n
  bd : n ≤ 39000000000 + 100000 * q
  tl : tab.length ≤ 90000000 + 300 * q
  tb : ∀ p ∈ tab, p.2 ≤ 16383
  h1 : rt < W.heap.size
  h2 : W.heap.size ≤ wr.heap.size
section
variable {W : World} {b rt : Nat} {d : Dt} {l : List UInt8} {tab : Tb} {A : Option Addr} {n c q : Nat} {wr w' : World}
theorem Rs.rd (h : Rs W b rt d l tab A n c q wr) : Rd wr 1 A n c (bs l) := by
  have h1 := rd_own h.own
  exact h1
/-- A number is written. -/
theorem Rs.num (h : Rs W b rt d l tab A n c q wr) (hq : q ≤ 1000) (k : Nat) (hk : k ≤ 4) (v : Int) (hv : 0 ≤ v ∧ v < 4294967296) : Calls Tryd.prog 47 #[.slice A n c, .int .u32 v, .int .i64 k] wr fun e w' => ∃ A' n' c', e = .returned (.slice A' n' c') ∧ Rs W b rt d (l ++ be k v) tab A' n' c' (q + 1) w' := by
  have hbd := h.bd
  refine (rput A n c v k hk hv.1 hv.2 (by omega) wr (bs l) h.rd (bs_one _)).mono ?_
  rintro e w5 ⟨sv, rfl, ho, hb⟩
  rw [← bs_append] at ho
  obtain ⟨A', c', rfl, -⟩ := own_rd ho
  obtain ⟨vn, vp, hT⟩ := h.T
  have h1 := h.h1
  have h2 := h.h2
  have hz := hb.size
  have hlen : (l ++ be k v).length = n + k := by rw [List.length_append, be_length, h.len]
  refine ⟨A', n + k, c', rfl, ⟨h.D.below hb, ⟨vn, vp, hT.below hb⟩, h.C.trans (chg_below hb (by omega)), own_lower (by rw [hlen]; exact ho) h2, hlen, by omega, by have := h.tl; omega, h.tb, h1, by omega⟩⟩
theorem Rs.name_ (h : Rs W b rt d l tab A n c q wr) (hq : q ≤ 1000) (plain : Bool) (s : ByteArray) (hs : isNm s = true) : Calls Tryd.prog 71 #[.pointer (some ⟨rt, 0, none⟩), .slice A n c, .string s, .bool plain] wr (Two fun a er w' => ∃ A' n' c', a = .slice A' n' c' ∧ er = .int .i64 0 ∧ Rs W b rt d (l ++ (en plain tab (lsOf s) l.length).1) (en plain tab (lsOf s) l.length).2 A' n' c' (q + 1) w') := by
  have hbd := h.bd
  have htl := h.tl
  obtain ⟨hnm, hok, h255⟩ := lsOf_ok hs
  obtain ⟨vn, vp, hT⟩ := h.T
  have hc := rput_ok wr rt vn vp tab hT (by omega) h.tb A n c l h.rd (by omega) (lsOf s) hok h255 plain
  rw [← hnm] at hc
  refine hc.mono ?_
  rintro e w5 ⟨a, er, rfl, rfl, ho, vn', vp', hT', hC⟩
  obtain ⟨A', c', rfl, -⟩ := own_rd ho
  have h1 := h.h1
  have h2 := h.h2
  have hz := hC.1.size
  have hes := (en_size plain (lsOf s) tab l.length).2.1
  have het := en_len plain (lsOf s) tab l.length
  have hgc := gl_count (lsOf s)
  have hlen : (l ++ (en plain tab (lsOf s) l.length).1).length = l.length + (en plain tab (lsOf s) l.length).1.length := List.length_append
  have hll := h.len
  refine ⟨_, _, rfl, A', _, c', rfl, rfl, ⟨hC.2 _ _ _ _ (by decide) (by decide) (by decide) h.D, ⟨vn', vp', hT'⟩, h.C.trans hC, own_lower (by rw [hlen]; exact ho) h2, hlen, by omega, by omega, en_bd _ _ _ _ h.tb, h1, by omega⟩⟩
theorem Rs.name (h : Rs W b rt d l tab A n c q wr) (hq : q ≤ 1000) (s : ByteArray) (hs : isNm s = true) : Calls Tryd.prog 48 #[.pointer (some ⟨rt, 0, none⟩), .slice A n c, .string s] wr (Two fun a er w' => ∃ A' n' c', a = .slice A' n' c' ∧ er = .int .i64 0 ∧ Rs W b rt d (l ++ (en false tab (lsOf s) l.length).1) (en false tab (lsOf s) l.length).2 A' n' c' (q + 1) w') :=
  rput_two _ _ _ _ _ (h.name_ hq false s hs)
theorem Rs.plain (h : Rs W b rt d l tab A n c q wr) (hq : q ≤ 1000) (s : ByteArray) (hs : isNm s = true) : Calls Tryd.prog 72 #[.pointer (some ⟨rt, 0, none⟩), .slice A n c, .string s] wr (Two fun a er w' => ∃ A' n' c', a = .slice A' n' c' ∧ er = .int .i64 0 ∧ Rs W b rt d (l ++ (en true tab (lsOf s) l.length).1) (en true tab (lsOf s) l.length).2 A' n' c' (q + 1) w') :=
  rplain_two _ _ _ _ _ (h.name_ hq true s hs)
theorem Rs.below (h : Rs W b rt d l tab A n c q wr) (hb : Below wr.heap.size wr w') : Rs W b rt d l tab A n c q w' := by
  obtain ⟨vn, vp, hT⟩ := h.T
  have h1 := h.h1
  have h2 := h.h2
  have hz := hb.size
  exact ⟨h.D.below hb, ⟨vn, vp, hT.below hb⟩, h.C.trans (chg_below hb (by omega)), own_below h.own hb, h.len, h.bd, h.tl, h.tb, h1, by omega⟩
theorem Rs.drew (h : Rs W b rt d l tab A n c q wr) : Rs W b rt d l tab A n c q wr.drew := h.below (Below.refl _ _).drew
end
/-- What the document's writing of data tells. -/
def RefD (W : World) (rt : Nat) (l : List UInt8) (tab : Tb) (a b : Value) (w' : World) : Prop :=
  b = .int .i64 0 ∧ w'.ownsRow W.heap.size 5 1 a l.length (bs l) ∧ ∃ vn' vp', RefT w' rt vn' vp' tab ∧ Chg rt W w'
theorem Rs.fin {W : World} {b rt : Nat} {d : Dt} {l : List UInt8} {tab : Tb} {A : Option Addr} {n c q : Nat} {wr : World} (h : Rs W b rt d l tab A n c q wr) : RefD W rt l tab (.slice A n c) (.int .i64 0) wr := by
  obtain ⟨vn, vp, hT⟩ := h.T
  exact ⟨rfl, h.own, vn, vp, hT, h.C⟩
set_option maxRecDepth 100000 in
set_option maxHeartbeats 8000000 in
theorem rputD_ (W : World) (d : Dt) (hz1 : d.host.size ≤ 140737488355328) (hz2 : d.mail.size ≤ 140737488355328) (hz3 : d.raw.size ≤ 100000000) (t : Int) (hok : okR t d = true) (hF : okF (formV t) d = true) (hN : ∀ k, k < 5 → 0 ≤ d.getN k ∧ d.getN k < 4294967296)
    (rt : Nat) (vn0 vp0 : Value) (tab : Tb) (hT : RefT W rt vn0 vp0 tab) (hbd : ∀ p ∈ tab, p.2 ≤ 16383) (A : Option Addr) (n c : Nat) (l : List UInt8) (hr : Rd W 1 A n c (bs l)) (hn : n ≤ 39000000000) (htl : tab.length ≤ 90000000) :
    Calls Tryd.prog 49 #[.slice A n c, .pointer (some ⟨rt, 0, none⟩), .int .u16 t, d.val] W (Two (RefD W rt (encs d (formV t) l tab).1 (encs d (formV t) l tab).2.1)) := by
  obtain rfl : l.length = n := hr.blen
  have hneed := okF_need hF
  have hD1 := Blk.new W 44 d.cells.toArray
  have hb1 := below_new W (.cells d.cells.toArray 44)
  have hck := rcheck_ (W.alloc (.cells d.cells.toArray 44)) t d hz1 hz2 hz3
  rw [hok, if_pos rfl] at hck
  have n0 : 0 ≤ d.n0 ∧ d.n0 < 4294967296 := hN 0 (by omega)
  have n1 : 0 ≤ d.n1 ∧ d.n1 < 4294967296 := hN 1 (by omega)
  have n2 : 0 ≤ d.n2 ∧ d.n2 < 4294967296 := hN 2 (by omega)
  have n3 : 0 ≤ d.n3 ∧ d.n3 < 4294967296 := hN 3 (by omega)
  have n4 : 0 ≤ d.n4 ∧ d.n4 < 4294967296 := hN 4 (by omega)
  have N0 := Lib.hid n0
  have N1 := Lib.hid n1
  have N2 := Lib.hid n2
  have N3 := Lib.hid n3
  have N4 := Lib.hid n4
  obtain ⟨W1, hW1⟩ : ∃ x, W.alloc (.cells d.cells.toArray 44) = x := ⟨_, rfl⟩
  rw [hW1] at hD1 hb1 hck
  have d0 := hD1.cell 0 _ rfl
  have d1 := hD1.cell 1 _ rfl
  have d2 := hD1.cell 2 _ rfl
  have d3 := hD1.cell 3 _ rfl
  have d4 := hD1.cell 4 _ rfl
  have d5 := hD1.cell 5 _ rfl
  have d6 := hD1.cell 6 _ rfl
  have d7 := hD1.cell 7 _ rfl
  obtain ⟨L, hL⟩ : ∃ L, l.length = L := ⟨_, rfl⟩
  have hS3 : ∀ (W2 W3 : World) (v3 : Value), Below W1.heap.size W1 W2 → W3.ownsRow W.heap.size 5 1 v3 L (bs l) → Below W2.heap.size W2 W3 → ∃ A3 c3, v3 = .slice A3 L c3 ∧ Rs W W.heap.size rt d l tab A3 L c3 0 W3 ∧ Below W.heap.size W W3 := by
    intro W2 W3 v3 hb2 ho hb3
    obtain ⟨A3, c3, rfl, -⟩ := own_rd ho
    have hb := below_trans (below_trans hb1 hb2) hb3
    have hb' := below_trans hb2 hb3
    have hrl := hT.lt
    exact ⟨A3, c3, rfl, ⟨hD1.below hb', ⟨vn0, vp0, hT.below hb⟩, chg_below hb (by omega), by rw [hL]; exact ho, hL, by omega, by omega, hbd, hrl, hb.size⟩, hb⟩
  have HR := Lib.hid hr
  have HB1 := Lib.hid hb1
  have HS3 := Lib.hid hS3
  have HND := Lib.hid hneed
  have HT := Lib.hid hT
  unfold Dt.cells at hW1
  obtain ⟨b, hb⟩ : ∃ x, W.heap.size = x := ⟨_, rfl⟩
  rw [hb] at d0 d1 d2 d3 d4 d5 d6 d7
  have HBB := Lib.hid hb
  have HL := Lib.hid hL
  rw [hL] at hn HR ⊢
  clear hok hF hN hT hr hD1 hb1 hneed hbd hL htl hS3 n0 n1 n2 n3 n4
  unfold Dt.val at hck ⊢
  rcases tcase t with rfl | rfl | rfl | rfl | rfl | rfl | rfl | rfl | rfl | hno
  · have hx1 : d.raw.size ≤ 65535 := (HND.out _ (List.mem_of_getElem? (i := 0) rfl)).2.2 (by decide) (by decide) (by decide) (by decide) (by decide)
    go_enter Tryd.func49, Tryd.ntmps49
    go_wp2_with (first | (rw [hW1, hb]; go_at_call 45; refine hck.mono ?_; clear hck; rintro e W2 ⟨rfl, hb2⟩; have hr2 := (HR.out.below HB1.out).below hb2; have hz2 := (below_trans HB1.out hb2).size; have HB2 := Lib.hid hb2; clear hb2 d0 d1 d2 d3 d4 d5 d6 d7 hW1; clear hb) | (go_at_call 45; refine hck.mono ?_; clear hck; rintro e W2 ⟨rfl, hb2⟩; have hr2 := (HR.out.below HB1.out).below hb2; have hz2 := (below_trans HB1.out hb2).size; have HB2 := Lib.hid hb2; clear hb2 d0 d1 d2 d3 d4 d5 d6 d7 hW1) | (at_builtin; refine wpList_app_nil W W2 W.heap.size rfl _ _ 27 27 5 (.int .u8 0) 1 1 rfl Tryd.underlying27 info_u8 rfl (by omega) (by omega) rfl (.slice A L c) L (bs l) rfl (.slice hr2 (bs_one _)) (below_trans HB1.out HB2.out) hz2 (by omega) ?_; intro v3 W3 ho3 hb3 hg3; obtain ⟨A3, c3, rfl, hS, hb3'⟩ := HS3.out W2 W3 v3 HB2.out ho3 (grown_below hg3); have HS := Lib.hid hS; have HB3 := Lib.hid hb3'; clear hS ho3 hb3 hb3' hg3 hr2 hz2 HB2 HS3 HB1; have d0 := HS.out.D.cell 0 _ rfl; rw [HBB.out] at d0) | (at_builtin; refine wpList_app (w0 := W3) W3 W.heap.size rfl _ _ 27 9 5 (.int .u8 0) 1 1 rfl Tryd.underlying27 info_u8 rfl (by omega) (by omega) (.slice A3 L c3) L (bs l) rfl (.own (by have h := HS.out.own; rw [HL.out] at h; exact h)) (.string d.raw) d.raw.size (bs d.raw.data.toList) rfl (.str Tryd.underlying9 Tryd.underlying27 info_u8 rfl d.raw) (Below.refl _ _) HS.out.h2 (by omega) ?_; intro v5 W5 hv5 ho5 hb5 hg5; have HF5 := Lib.hid (And.intro (ho5 (.inr (by have h := HS.out.own; rw [HL.out] at h; exact h))) hb5); clear hv5 ho5 hb5 hg5))
    obtain ⟨ho5, hb5⟩ := HF5.out
    obtain ⟨A5, c5, rfl, -⟩ := own_rd ho5
    go_ret2
    refine ⟨_, _, rfl, rfl, ?_, vn0, vp0, HT.out.below (HB3.out.trans hb5), chg_below (HB3.out.trans hb5) (Nat.le_of_lt HT.out.lt)⟩
    rw [← bs_append] at ho5
    show W5.ownsRow W.heap.size 5 1 _ (l ++ d.raw.data.toList).length (bs (l ++ d.raw.data.toList))
    rw [List.length_append, HL.out, show d.raw.data.toList.length = d.raw.size by simp]
    exact ho5
  · have HH := Lib.hid ((HND.out _ (List.mem_of_getElem? (i := 0) rfl)).1 (.inl rfl))
    go_enter Tryd.func49, Tryd.ntmps49
    go_wp2_with (first | (rw [hW1, hb]; go_at_call 45; refine hck.mono ?_; clear hck; rintro e W2 ⟨rfl, hb2⟩; have hr2 := (HR.out.below HB1.out).below hb2; have hz2 := (below_trans HB1.out hb2).size; have HB2 := Lib.hid hb2; clear hb2 d0 d1 d2 d3 d4 d5 d6 d7 hW1; clear hb) | (go_at_call 45; refine hck.mono ?_; clear hck; rintro e W2 ⟨rfl, hb2⟩; have hr2 := (HR.out.below HB1.out).below hb2; have hz2 := (below_trans HB1.out hb2).size; have HB2 := Lib.hid hb2; clear hb2 d0 d1 d2 d3 d4 d5 d6 d7 hW1) | (at_builtin; refine wpList_app_nil W W2 W.heap.size rfl _ _ 27 27 5 (.int .u8 0) 1 1 rfl Tryd.underlying27 info_u8 rfl (by omega) (by omega) rfl (.slice A L c) L (bs l) rfl (.slice hr2 (bs_one _)) (below_trans HB1.out HB2.out) hz2 (by omega) ?_; intro v3 W3 ho3 hb3 hg3; obtain ⟨A3, c3, rfl, hS, hb3'⟩ := HS3.out W2 W3 v3 HB2.out ho3 (grown_below hg3); have HS := Lib.hid hS; have HB3 := Lib.hid hb3'; clear hS ho3 hb3 hb3' hg3 hr2 hz2 HB2 HS3 HB1; have d1 := HS.out.D.cell 1 _ rfl; rw [HBB.out] at d1) | (go_at_call 48; refine (HS.out.name (by decide) d.host HH.out).mono ?_; rintro e W5 ⟨a5, b5, rfl, A5, n5, c5, rfl, rfl, hS5⟩; replace HS := Lib.hid hS5; clear hS5 HH; clear d1; skip))
    go_ret2
    exact ⟨_, _, rfl, HS.out.fin⟩
  · have HH := Lib.hid ((HND.out _ (List.mem_of_getElem? (i := 0) rfl)).1 (.inl rfl))
    go_enter Tryd.func49, Tryd.ntmps49
    go_wp2_with (first | (rw [hW1, hb]; go_at_call 45; refine hck.mono ?_; clear hck; rintro e W2 ⟨rfl, hb2⟩; have hr2 := (HR.out.below HB1.out).below hb2; have hz2 := (below_trans HB1.out hb2).size; have HB2 := Lib.hid hb2; clear hb2 d0 d1 d2 d3 d4 d5 d6 d7 hW1; clear hb) | (go_at_call 45; refine hck.mono ?_; clear hck; rintro e W2 ⟨rfl, hb2⟩; have hr2 := (HR.out.below HB1.out).below hb2; have hz2 := (below_trans HB1.out hb2).size; have HB2 := Lib.hid hb2; clear hb2 d0 d1 d2 d3 d4 d5 d6 d7 hW1) | (at_builtin; refine wpList_app_nil W W2 W.heap.size rfl _ _ 27 27 5 (.int .u8 0) 1 1 rfl Tryd.underlying27 info_u8 rfl (by omega) (by omega) rfl (.slice A L c) L (bs l) rfl (.slice hr2 (bs_one _)) (below_trans HB1.out HB2.out) hz2 (by omega) ?_; intro v3 W3 ho3 hb3 hg3; obtain ⟨A3, c3, rfl, hS, hb3'⟩ := HS3.out W2 W3 v3 HB2.out ho3 (grown_below hg3); have HS := Lib.hid hS; have HB3 := Lib.hid hb3'; clear hS ho3 hb3 hb3' hg3 hr2 hz2 HB2 HS3 HB1; have d1 := HS.out.D.cell 1 _ rfl; rw [HBB.out] at d1) | (go_at_call 48; refine (HS.out.name (by decide) d.host HH.out).mono ?_; rintro e W5 ⟨a5, b5, rfl, A5, n5, c5, rfl, rfl, hS5⟩; replace HS := Lib.hid hS5; clear hS5 HH; clear d1; skip))
    go_ret2
    exact ⟨_, _, rfl, HS.out.fin⟩
  · have HH := Lib.hid ((HND.out _ (List.mem_of_getElem? (i := 0) rfl)).1 (.inl rfl))
    have HMM := Lib.hid ((HND.out _ (List.mem_of_getElem? (i := 1) rfl)).2.1 rfl)
    go_enter Tryd.func49, Tryd.ntmps49
    go_upto_region 23 with (first | (rw [hW1, hb]; go_at_call 45; refine hck.mono ?_; clear hck; rintro e W2 ⟨rfl, hb2⟩; have hr2 := (HR.out.below HB1.out).below hb2; have hz2 := (below_trans HB1.out hb2).size; have HB2 := Lib.hid hb2; clear hb2 d0 d1 d2 d3 d4 d5 d6 d7 hW1; clear hb) | (go_at_call 45; refine hck.mono ?_; clear hck; rintro e W2 ⟨rfl, hb2⟩; have hr2 := (HR.out.below HB1.out).below hb2; have hz2 := (below_trans HB1.out hb2).size; have HB2 := Lib.hid hb2; clear hb2 d0 d1 d2 d3 d4 d5 d6 d7 hW1) | (at_builtin; refine wpList_app_nil W W2 W.heap.size rfl _ _ 27 27 5 (.int .u8 0) 1 1 rfl Tryd.underlying27 info_u8 rfl (by omega) (by omega) rfl (.slice A L c) L (bs l) rfl (.slice hr2 (bs_one _)) (below_trans HB1.out HB2.out) hz2 (by omega) ?_; intro v3 W3 ho3 hb3 hg3; obtain ⟨A3, c3, rfl, hS, hb3'⟩ := HS3.out W2 W3 v3 HB2.out ho3 (grown_below hg3); have HS := Lib.hid hS; have HB3 := Lib.hid hb3'; clear hS ho3 hb3 hb3' hg3 hr2 hz2 HB2 HS3 HB1; have d1 := HS.out.D.cell 1 _ rfl; rw [HBB.out] at d1) | (go_at_call 48; refine (HS.out.name (by decide) d.host HH.out).mono ?_; rintro e W5 ⟨a5, b5, rfl, A5, n5, c5, rfl, rfl, hS5⟩; replace HS := Lib.hid hS5; clear hS5 HH; clear d1; have d2 := HS.out.D.cell 2 _ rfl; rw [HBB.out] at d2) | (go_at_call 48; refine (HS.out.name (by decide) d.mail HMM.out).mono ?_; rintro e W6 ⟨a6, b6, rfl, A6, n6, c6, rfl, rfl, hS6⟩; replace HS := Lib.hid hS6; clear hS6 HMM; clear d2; have d3 := HS.out.D.cell 3 _ rfl; rw [HBB.out] at d3))
    refine wp_loop_rounds 6 ?_
    rw [rounds_succ]
    go_wp2_with (first | (go_at_call 47; refine (HS.out.num (by decide) 4 (by decide) _ N0.out).mono ?_; rintro e W10 ⟨A10, n10, c10, rfl, hS10⟩; replace HS := Lib.hid hS10; clear hS10 N0; clear d3; skip))
    have d4 := HS.out.D.cell 4 _ rfl
    rw [HBB.out] at d4
    rw [rounds_succ]
    go_wp2_with (first | (go_at_call 47; refine (HS.out.num (by decide) 4 (by decide) _ N1.out).mono ?_; rintro e W11 ⟨A11, n11, c11, rfl, hS11⟩; replace HS := Lib.hid hS11; clear hS11 N1; clear d4; skip))
    have d5 := HS.out.D.cell 5 _ rfl
    rw [HBB.out] at d5
    rw [rounds_succ]
    go_wp2_with (first | (go_at_call 47; refine (HS.out.num (by decide) 4 (by decide) _ N2.out).mono ?_; rintro e W12 ⟨A12, n12, c12, rfl, hS12⟩; replace HS := Lib.hid hS12; clear hS12 N2; clear d5; skip))
    have d6 := HS.out.D.cell 6 _ rfl
    rw [HBB.out] at d6
    rw [rounds_succ]
    go_wp2_with (first | (go_at_call 47; refine (HS.out.num (by decide) 4 (by decide) _ N3.out).mono ?_; rintro e W13 ⟨A13, n13, c13, rfl, hS13⟩; replace HS := Lib.hid hS13; clear hS13 N3; clear d6; skip))
    have d7 := HS.out.D.cell 7 _ rfl
    rw [HBB.out] at d7
    rw [rounds_succ]
    go_wp2_with (first | (go_at_call 47; refine (HS.out.num (by decide) 4 (by decide) _ N4.out).mono ?_; rintro e W14 ⟨A14, n14, c14, rfl, hS14⟩; replace HS := Lib.hid hS14; clear hS14 N4; clear d7; skip))
    rw [rounds_succ]
    go_wp2
    go_ret2
    exact ⟨_, _, rfl, HS.out.fin⟩
  · have HH := Lib.hid ((HND.out _ (List.mem_of_getElem? (i := 0) rfl)).1 (.inl rfl))
    go_enter Tryd.func49, Tryd.ntmps49
    go_wp2_with (first | (rw [hW1, hb]; go_at_call 45; refine hck.mono ?_; clear hck; rintro e W2 ⟨rfl, hb2⟩; have hr2 := (HR.out.below HB1.out).below hb2; have hz2 := (below_trans HB1.out hb2).size; have HB2 := Lib.hid hb2; clear hb2 d0 d1 d2 d3 d4 d5 d6 d7 hW1; clear hb) | (go_at_call 45; refine hck.mono ?_; clear hck; rintro e W2 ⟨rfl, hb2⟩; have hr2 := (HR.out.below HB1.out).below hb2; have hz2 := (below_trans HB1.out hb2).size; have HB2 := Lib.hid hb2; clear hb2 d0 d1 d2 d3 d4 d5 d6 d7 hW1) | (at_builtin; refine wpList_app_nil W W2 W.heap.size rfl _ _ 27 27 5 (.int .u8 0) 1 1 rfl Tryd.underlying27 info_u8 rfl (by omega) (by omega) rfl (.slice A L c) L (bs l) rfl (.slice hr2 (bs_one _)) (below_trans HB1.out HB2.out) hz2 (by omega) ?_; intro v3 W3 ho3 hb3 hg3; obtain ⟨A3, c3, rfl, hS, hb3'⟩ := HS3.out W2 W3 v3 HB2.out ho3 (grown_below hg3); have HS := Lib.hid hS; have HB3 := Lib.hid hb3'; clear hS ho3 hb3 hb3' hg3 hr2 hz2 HB2 HS3 HB1; have d1 := HS.out.D.cell 1 _ rfl; rw [HBB.out] at d1) | (go_at_call 48; refine (HS.out.name (by decide) d.host HH.out).mono ?_; rintro e W5 ⟨a5, b5, rfl, A5, n5, c5, rfl, rfl, hS5⟩; replace HS := Lib.hid hS5; clear hS5 HH; clear d1; skip))
    go_ret2
    exact ⟨_, _, rfl, HS.out.fin⟩
  · have HH := Lib.hid ((HND.out _ (List.mem_of_getElem? (i := 1) rfl)).1 (.inl rfl))
    go_enter Tryd.func49, Tryd.ntmps49
    go_upto_region 12 with (first | (rw [hW1, hb]; go_at_call 45; refine hck.mono ?_; clear hck; rintro e W2 ⟨rfl, hb2⟩; have hr2 := (HR.out.below HB1.out).below hb2; have hz2 := (below_trans HB1.out hb2).size; have HB2 := Lib.hid hb2; clear hb2 d0 d1 d2 d3 d4 d5 d6 d7 hW1; clear hb) | (go_at_call 45; refine hck.mono ?_; clear hck; rintro e W2 ⟨rfl, hb2⟩; have hr2 := (HR.out.below HB1.out).below hb2; have hz2 := (below_trans HB1.out hb2).size; have HB2 := Lib.hid hb2; clear hb2 d0 d1 d2 d3 d4 d5 d6 d7 hW1) | (at_builtin; refine wpList_app_nil W W2 W.heap.size rfl _ _ 27 27 5 (.int .u8 0) 1 1 rfl Tryd.underlying27 info_u8 rfl (by omega) (by omega) rfl (.slice A L c) L (bs l) rfl (.slice hr2 (bs_one _)) (below_trans HB1.out HB2.out) hz2 (by omega) ?_; intro v3 W3 ho3 hb3 hg3; obtain ⟨A3, c3, rfl, hS, hb3'⟩ := HS3.out W2 W3 v3 HB2.out ho3 (grown_below hg3); have HS := Lib.hid hS; have HB3 := Lib.hid hb3'; clear hS ho3 hb3 hb3' hg3 hr2 hz2 HB2 HS3 HB1; have d1 := HS.out.D.cell 1 _ rfl; rw [HBB.out] at d1; have d3 := HS.out.D.cell 3 _ rfl; rw [HBB.out] at d3))
    replace HS := Lib.hid HS.out.drew
    go_region_law (first | (go_simp; go_at_call 47; refine (HS.out.num (by decide) 2 (by decide) _ N0.out).mono ?_; rintro e W5 ⟨A5, n5, c5, rfl, hS5⟩; replace HS := Lib.hid hS5; clear hS5 N0; clear d1 d3; have d1 := HS.out.D.cell 1 _ rfl; rw [HBB.out] at d1) | (go_simp; go_at_call 48; refine (HS.out.name (by decide) d.host HH.out).mono ?_; rintro e W6 ⟨a6, b6, rfl, A6, n6, c6, rfl, rfl, hS6⟩; replace HS := Lib.hid hS6; clear hS6 HH; clear d1; skip))
    all_goals (go_wp2; go_ret2; exact ⟨_, _, rfl, HS.out.fin⟩)
  · have hx1 : d.raw.size ≤ 65535 := (HND.out _ (List.mem_of_getElem? (i := 0) rfl)).2.2 (by decide) (by decide) (by decide) (by decide) (by decide)
    go_enter Tryd.func49, Tryd.ntmps49
    go_wp2_with (first | (rw [hW1, hb]; go_at_call 45; refine hck.mono ?_; clear hck; rintro e W2 ⟨rfl, hb2⟩; have hr2 := (HR.out.below HB1.out).below hb2; have hz2 := (below_trans HB1.out hb2).size; have HB2 := Lib.hid hb2; clear hb2 d0 d1 d2 d3 d4 d5 d6 d7 hW1; clear hb) | (go_at_call 45; refine hck.mono ?_; clear hck; rintro e W2 ⟨rfl, hb2⟩; have hr2 := (HR.out.below HB1.out).below hb2; have hz2 := (below_trans HB1.out hb2).size; have HB2 := Lib.hid hb2; clear hb2 d0 d1 d2 d3 d4 d5 d6 d7 hW1) | (at_builtin; refine wpList_app_nil W W2 W.heap.size rfl _ _ 27 27 5 (.int .u8 0) 1 1 rfl Tryd.underlying27 info_u8 rfl (by omega) (by omega) rfl (.slice A L c) L (bs l) rfl (.slice hr2 (bs_one _)) (below_trans HB1.out HB2.out) hz2 (by omega) ?_; intro v3 W3 ho3 hb3 hg3; obtain ⟨A3, c3, rfl, hS, hb3'⟩ := HS3.out W2 W3 v3 HB2.out ho3 (grown_below hg3); have HS := Lib.hid hS; have HB3 := Lib.hid hb3'; clear hS ho3 hb3 hb3' hg3 hr2 hz2 HB2 HS3 HB1; have d0 := HS.out.D.cell 0 _ rfl; rw [HBB.out] at d0) | (at_builtin; refine wpList_app (w0 := W3) W3 W.heap.size rfl _ _ 27 9 5 (.int .u8 0) 1 1 rfl Tryd.underlying27 info_u8 rfl (by omega) (by omega) (.slice A3 L c3) L (bs l) rfl (.own (by have h := HS.out.own; rw [HL.out] at h; exact h)) (.string d.raw) d.raw.size (bs d.raw.data.toList) rfl (.str Tryd.underlying9 Tryd.underlying27 info_u8 rfl d.raw) (Below.refl _ _) HS.out.h2 (by omega) ?_; intro v5 W5 hv5 ho5 hb5 hg5; have HF5 := Lib.hid (And.intro (ho5 (.inr (by have h := HS.out.own; rw [HL.out] at h; exact h))) hb5); clear hv5 ho5 hb5 hg5))
    obtain ⟨ho5, hb5⟩ := HF5.out
    obtain ⟨A5, c5, rfl, -⟩ := own_rd ho5
    go_ret2
    refine ⟨_, _, rfl, rfl, ?_, vn0, vp0, HT.out.below (HB3.out.trans hb5), chg_below (HB3.out.trans hb5) (Nat.le_of_lt HT.out.lt)⟩
    rw [← bs_append] at ho5
    show W5.ownsRow W.heap.size 5 1 _ (l ++ d.raw.data.toList).length (bs (l ++ d.raw.data.toList))
    rw [List.length_append, HL.out, show d.raw.data.toList.length = d.raw.size by simp]
    exact ho5
  · have hx1 : d.raw.size ≤ 65535 := (HND.out _ (List.mem_of_getElem? (i := 0) rfl)).2.2 (by decide) (by decide) (by decide) (by decide) (by decide)
    go_enter Tryd.func49, Tryd.ntmps49
    go_wp2_with (first | (rw [hW1, hb]; go_at_call 45; refine hck.mono ?_; clear hck; rintro e W2 ⟨rfl, hb2⟩; have hr2 := (HR.out.below HB1.out).below hb2; have hz2 := (below_trans HB1.out hb2).size; have HB2 := Lib.hid hb2; clear hb2 d0 d1 d2 d3 d4 d5 d6 d7 hW1; clear hb) | (go_at_call 45; refine hck.mono ?_; clear hck; rintro e W2 ⟨rfl, hb2⟩; have hr2 := (HR.out.below HB1.out).below hb2; have hz2 := (below_trans HB1.out hb2).size; have HB2 := Lib.hid hb2; clear hb2 d0 d1 d2 d3 d4 d5 d6 d7 hW1) | (at_builtin; refine wpList_app_nil W W2 W.heap.size rfl _ _ 27 27 5 (.int .u8 0) 1 1 rfl Tryd.underlying27 info_u8 rfl (by omega) (by omega) rfl (.slice A L c) L (bs l) rfl (.slice hr2 (bs_one _)) (below_trans HB1.out HB2.out) hz2 (by omega) ?_; intro v3 W3 ho3 hb3 hg3; obtain ⟨A3, c3, rfl, hS, hb3'⟩ := HS3.out W2 W3 v3 HB2.out ho3 (grown_below hg3); have HS := Lib.hid hS; have HB3 := Lib.hid hb3'; clear hS ho3 hb3 hb3' hg3 hr2 hz2 HB2 HS3 HB1; have d0 := HS.out.D.cell 0 _ rfl; rw [HBB.out] at d0) | (at_builtin; refine wpList_app (w0 := W3) W3 W.heap.size rfl _ _ 27 9 5 (.int .u8 0) 1 1 rfl Tryd.underlying27 info_u8 rfl (by omega) (by omega) (.slice A3 L c3) L (bs l) rfl (.own (by have h := HS.out.own; rw [HL.out] at h; exact h)) (.string d.raw) d.raw.size (bs d.raw.data.toList) rfl (.str Tryd.underlying9 Tryd.underlying27 info_u8 rfl d.raw) (Below.refl _ _) HS.out.h2 (by omega) ?_; intro v5 W5 hv5 ho5 hb5 hg5; have HF5 := Lib.hid (And.intro (ho5 (.inr (by have h := HS.out.own; rw [HL.out] at h; exact h))) hb5); clear hv5 ho5 hb5 hg5))
    obtain ⟨ho5, hb5⟩ := HF5.out
    obtain ⟨A5, c5, rfl, -⟩ := own_rd ho5
    go_ret2
    refine ⟨_, _, rfl, rfl, ?_, vn0, vp0, HT.out.below (HB3.out.trans hb5), chg_below (HB3.out.trans hb5) (Nat.le_of_lt HT.out.lt)⟩
    rw [← bs_append] at ho5
    show W5.ownsRow W.heap.size 5 1 _ (l ++ d.raw.data.toList).length (bs (l ++ d.raw.data.toList))
    rw [List.length_append, HL.out, show d.raw.data.toList.length = d.raw.size by simp]
    exact ho5
  · have HH := Lib.hid ((HND.out _ (List.mem_of_getElem? (i := 3) rfl)).1 (.inr rfl))
    go_enter Tryd.func49, Tryd.ntmps49
    go_upto_region 15 with (first | (rw [hW1, hb]; go_at_call 45; refine hck.mono ?_; clear hck; rintro e W2 ⟨rfl, hb2⟩; have hr2 := (HR.out.below HB1.out).below hb2; have hz2 := (below_trans HB1.out hb2).size; have HB2 := Lib.hid hb2; clear hb2 d0 d1 d2 d3 d4 d5 d6 d7 hW1; clear hb) | (go_at_call 45; refine hck.mono ?_; clear hck; rintro e W2 ⟨rfl, hb2⟩; have hr2 := (HR.out.below HB1.out).below hb2; have hz2 := (below_trans HB1.out hb2).size; have HB2 := Lib.hid hb2; clear hb2 d0 d1 d2 d3 d4 d5 d6 d7 hW1) | (at_builtin; refine wpList_app_nil W W2 W.heap.size rfl _ _ 27 27 5 (.int .u8 0) 1 1 rfl Tryd.underlying27 info_u8 rfl (by omega) (by omega) rfl (.slice A L c) L (bs l) rfl (.slice hr2 (bs_one _)) (below_trans HB1.out HB2.out) hz2 (by omega) ?_; intro v3 W3 ho3 hb3 hg3; obtain ⟨A3, c3, rfl, hS, hb3'⟩ := HS3.out W2 W3 v3 HB2.out ho3 (grown_below hg3); have HS := Lib.hid hS; have HB3 := Lib.hid hb3'; clear hS ho3 hb3 hb3' hg3 hr2 hz2 HB2 HS3 HB1; have d3 := HS.out.D.cell 3 _ rfl; rw [HBB.out] at d3))
    refine wp_loop_rounds 4 ?_
    rw [rounds_succ]
    go_wp2_with (first | (go_at_call 47; refine (HS.out.num (by decide) 2 (by decide) _ N0.out).mono ?_; rintro e W10 ⟨A10, n10, c10, rfl, hS10⟩; replace HS := Lib.hid hS10; clear hS10 N0; clear d3; skip))
    have d4 := HS.out.D.cell 4 _ rfl
    rw [HBB.out] at d4
    rw [rounds_succ]
    go_wp2_with (first | (go_at_call 47; refine (HS.out.num (by decide) 2 (by decide) _ N1.out).mono ?_; rintro e W11 ⟨A11, n11, c11, rfl, hS11⟩; replace HS := Lib.hid hS11; clear hS11 N1; clear d4; skip))
    have d5 := HS.out.D.cell 5 _ rfl
    rw [HBB.out] at d5
    rw [rounds_succ]
    go_wp2_with (first | (go_at_call 47; refine (HS.out.num (by decide) 2 (by decide) _ N2.out).mono ?_; rintro e W12 ⟨A12, n12, c12, rfl, hS12⟩; replace HS := Lib.hid hS12; clear hS12 N2; clear d5; skip))
    have d1 := HS.out.D.cell 1 _ rfl
    rw [HBB.out] at d1
    rw [rounds_succ]
    go_wp2_with (first | (go_at_call 72; refine (HS.out.plain (by decide) d.host HH.out).mono ?_; rintro e W20 ⟨a20, b20, rfl, A20, n20, c20, rfl, rfl, hS20⟩; replace HS := Lib.hid hS20; clear hS20 HH; clear d1; skip))
    go_ret2
    exact ⟨_, _, rfl, HS.out.fin⟩
  · have hf := hno.form
    obtain ⟨e1, e2, e5, e6, e12, e15, e16, e28, e33⟩ := hno
    rw [hf] at HND ⊢
    clear hf
    have hx1 : d.raw.size ≤ 65535 := (HND.out _ (List.mem_of_getElem? (i := 0) rfl)).2.2 (by decide) (by decide) (by decide) (by decide) (by decide)
    go_enter Tryd.func49, Tryd.ntmps49
    go_wp2_with (first | (rw [hW1, hb]; go_at_call 45; refine hck.mono ?_; clear hck; rintro e W2 ⟨rfl, hb2⟩; have hr2 := (HR.out.below HB1.out).below hb2; have hz2 := (below_trans HB1.out hb2).size; have HB2 := Lib.hid hb2; clear hb2 d0 d1 d2 d3 d4 d5 d6 d7 hW1; clear hb) | (go_at_call 45; refine hck.mono ?_; clear hck; rintro e W2 ⟨rfl, hb2⟩; have hr2 := (HR.out.below HB1.out).below hb2; have hz2 := (below_trans HB1.out hb2).size; have HB2 := Lib.hid hb2; clear hb2 d0 d1 d2 d3 d4 d5 d6 d7 hW1) | (at_builtin; refine wpList_app_nil W W2 W.heap.size rfl _ _ 27 27 5 (.int .u8 0) 1 1 rfl Tryd.underlying27 info_u8 rfl (by omega) (by omega) rfl (.slice A L c) L (bs l) rfl (.slice hr2 (bs_one _)) (below_trans HB1.out HB2.out) hz2 (by omega) ?_; intro v3 W3 ho3 hb3 hg3; obtain ⟨A3, c3, rfl, hS, hb3'⟩ := HS3.out W2 W3 v3 HB2.out ho3 (grown_below hg3); have HS := Lib.hid hS; have HB3 := Lib.hid hb3'; clear hS ho3 hb3 hb3' hg3 hr2 hz2 HB2 HS3 HB1; have d0 := HS.out.D.cell 0 _ rfl; rw [HBB.out] at d0) | (at_builtin; refine wpList_app (w0 := W3) W3 W.heap.size rfl _ _ 27 9 5 (.int .u8 0) 1 1 rfl Tryd.underlying27 info_u8 rfl (by omega) (by omega) (.slice A3 L c3) L (bs l) rfl (.own (by have h := HS.out.own; rw [HL.out] at h; exact h)) (.string d.raw) d.raw.size (bs d.raw.data.toList) rfl (.str Tryd.underlying9 Tryd.underlying27 info_u8 rfl d.raw) (Below.refl _ _) HS.out.h2 (by omega) ?_; intro v5 W5 hv5 ho5 hb5 hg5; have HF5 := Lib.hid (And.intro (ho5 (.inr (by have h := HS.out.own; rw [HL.out] at h; exact h))) hb5); clear hv5 ho5 hb5 hg5))
    obtain ⟨ho5, hb5⟩ := HF5.out
    obtain ⟨A5, c5, rfl, -⟩ := own_rd ho5
    go_ret2
    refine ⟨_, _, rfl, rfl, ?_, vn0, vp0, HT.out.below (HB3.out.trans hb5), chg_below (HB3.out.trans hb5) (Nat.le_of_lt HT.out.lt)⟩
    rw [← bs_append] at ho5
    show W5.ownsRow W.heap.size 5 1 _ (l ++ d.raw.data.toList).length (bs (l ++ d.raw.data.toList))
    rw [List.length_append, HL.out, show d.raw.data.toList.length = d.raw.size by simp]
    exact ho5
end Go.Proofs.YtdjknikkiojfhaaDoor
