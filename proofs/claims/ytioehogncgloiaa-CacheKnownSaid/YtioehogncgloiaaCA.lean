/- cache.records, the document's aged: records, copied, so many seconds older. -/
import Derived.Test.YtioehogncgloiaaKQ
import Derived.Test.YtioehogncgloiaaFD
import Derived.Test.YtioehogncgloiaaHQ
import Derived.Test.YtioehogncgloiaaHC
import Derived.Deep.Cut
namespace Go.Proofs.Ytioehogncgloiaa
open Go.RowKit Go.HL
set_option linter.unusedVariables false
set_option linter.unusedSimpArgs false
theorem infoRec : (Try.prog.info? 46).map (fun i => (i.zero, i.size, i.bytes)) = some (some Rc.zero.val, 12, 96) := by kernel_rfl
/-- A record, so many seconds older, its name in small letters. -/
def agedR (age : Int) (r : Rc) : Rc := { r with nm := foldS r.nm, ttl := (r.ttl - age) % 4294967296 }
theorem map_take {α β : Type} (f : α → β) {l : List α} {k : Nat} {x : α} (h : l[k]? = some x) : (l.take (k + 1)).map f = (l.take k).map f ++ [f x] := by
  obtain ⟨h2, h3⟩ := List.getElem?_eq_some_iff.1 h
  rw [List.take_succ_eq_append_getElem h2, h3]
  simp
theorem agedR_ok {age : Int} {r : Rc} (h : r.ok) : (agedR age r).ok := ⟨h.ty, h.cl, by show 0 ≤ (r.ttl - age) % 4294967296 ∧ (r.ttl - age) % 4294967296 < 4294967296; omega, h.n0, h.n1, h.n2, h.n3, h.n4, by show (foldS r.nm).size ≤ _; rw [foldS_size]; exact h.nm, h.raw, h.host, h.mail⟩
theorem Rd.litN (w : World) (cs : Array Value) (e : TypeId) (size g : Nat) (hg : w.heap.size = g) (hs : cs.size = size) : Rd (w.alloc (.cells cs e)) size (some ⟨g, 0, none⟩) 1 1 cs.toList := by
  subst hg
  exact ⟨by simp [hs], fun ha => by (cases ha), Nat.le_refl _, fun a ha => by cases ha; exact World.news_of_block (cs := cs) (t := e) (fr := (0, 0)) (heap_alloc_new w _)⟩
theorem size_setCell (w : World) (a : Addr) (v : Value) : (w.setCell a v).heap.size = w.heap.size := by simp [World.setCell]
theorem rc_one (r : Rc) : ∀ u ∈ r.cells, u.oneCell' = true := fun u hu => rcs_one [r] u (by simpa [rcs] using hu)
theorem rcs_snoc (l : List Rc) (r : Rc) : rcs (l ++ [r]) = rcs l ++ r.cells := by simp [rcs]
set_option maxRecDepth 8000 in
set_option maxHeartbeats 2000000 in
theorem records_ (w : World) (A : Option Addr) (n c : Nat) (l : List Rc) (hr : Rd w 12 A n c (rcs l)) (hok : ∀ r ∈ l, r.ok) (hn : n ≤ 1000000) (hnm : ∀ r ∈ l, r.nm.size ≤ 1048576) (age : Int) (h0 : 0 ≤ age) (h1 : age ≤ 4611686018427387904) :
    Calls Try.prog 35 #[.slice A n c, .int .i64 age] w fun e w' => ∃ v, e = .returned v ∧ w'.ownsRow w.heap.size 46 12 v n (rcs (l.map (agedR age))) ∧ Below w.heap.size w w' := by
  have hl := Rd.recs hr
  have H1 := Lib.hid h1
  have H0 := Lib.hid h0
  clear h0 h1
  go_enter Try.func35, Try.ntmps35
  go_wp2
  go_loopw [5, 10] (fun v i wr => ∃ k : Nat, k ≤ n ∧ i = .int .i64 k ∧ wr.ownsRow w.heap.size 46 12 v k (rcs ((l.take k).map (agedR age))) ∧ Below w.heap.size w wr) (fun _ i _ => n - (intOf i).toNat)
  case atStart => exact ⟨0, Nat.zero_le _, rfl, by rw [List.take_zero]; exact World.ownsRow_nil _ _ _ _, Below.refl _ _⟩
  case round =>
    obtain ⟨k, hk, rfl, ho, hbw⟩ := hrel
    by_cases hlt : k < n
    · obtain ⟨r, hrk⟩ : ∃ r, l[k]? = some r := ⟨l[k], List.getElem?_eq_getElem (by omega)⟩
      have hrm := List.mem_of_getElem? hrk
      have hro := hok r hrm
      have hrn := hnm r hrm
      cases A with
      | none => have := (hr.nil_ rfl).1; omega
      | some ad =>
      have hcs := Rd.rec (hr.below hbw) k r hrk
      have hi1 : (k : Int) < (n : Int) := by omega
      have hfold := fun W => fold_ W r.nm (by omega)
      have hbs := hbw.size
      go_wp2_with (first | (refine wpList_getAt rfl 46 (.tmp 12) rfl (ad.add (k * 12)) rfl [.string r.nm, .int .u16 r.ty, .int .u16 r.cl, .int .u32 r.ttl, .string r.raw, .string r.host, .string r.mail, .int .u32 r.n0, .int .u32 r.n1, .int .u32 r.n2, .int .u32 r.n3, .int .u32 r.n4] _ hcs Try.underlying46 rfl sizeRec ?_) | (go_at_call 33; refine (hfold _).mono ?_; rintro e w1 ⟨rfl, hb1⟩; have hB := (Blk.new wr 46 #[.string r.nm, .int .u16 r.ty, .int .u16 r.cl, .int .u32 r.ttl, .string r.raw, .string r.host, .string r.mail, .int .u32 r.n0, .int .u32 r.n1, .int .u32 r.n2, .int .u32 r.n3, .int .u32 r.n4]).below hb1; have c0 := hB.cell 0 _ rfl; have c1 := hB.cell 1 _ rfl; have c2 := hB.cell 2 _ rfl; have c3 := hB.cell 3 _ rfl; have c4 := hB.cell 4 _ rfl; have c5 := hB.cell 5 _ rfl; have c6 := hB.cell 6 _ rfl; have c7 := hB.cell 7 _ rfl; have c8 := hB.cell 8 _ rfl; have c9 := hB.cell 9 _ rfl; have c10 := hB.cell 10 _ rfl; have c11 := hB.cell 11 _ rfl; have f0 := hB.free 0; have f3 := hB.free 3; have HS := fun v1 v2 => Lib.hid (below_setCell (below_setCell (below_trans (below_new wr _) hb1) ⟨wr.heap.size, 0, none⟩ v1 (Nat.le_refl _)) ⟨wr.heap.size, 3, none⟩ v2 (Nat.le_refl _)); have HZ := Lib.hid (below_trans (below_new wr _) hb1).size) | (at_builtin; refine wpList_app (w0 := w) _ w.heap.size rfl (.tmp 24) (.tmp 26) 26 26 46 Rc.zero.val 12 96 rfl Try.underlying26 infoRec rfl (by omega) (by omega) u5 k _ rfl (.own (own_below ho (below_alloc (HS _ _).out _))) _ 1 (agedR age r).cells rfl (.slice (Rd.litN _ _ _ 12 _ (by rw [size_setCell, size_setCell]) rfl) (rc_one _)) (below_alloc (below_trans hbw (HS _ _).out) _) (by rw [World.size_alloc, size_setCell, size_setCell]; have := HZ.out; omega) (by omega) ?_; intro v1 w2 _ ho2 hb2 hg2; replace ho2 := ho2 (.inl (by omega))))
      go_roundw
      case rel =>
        refine ⟨k + 1, by omega, by go_num, ?_, hb2⟩
        rw [map_take _ hrk, rcs_snoc]
        exact ho2
      case measure => simp [intOf]; omega
    · obtain rfl : k = n := by omega
      rw [List.take_of_length_le (by omega)] at ho
      go_wp2
      go_ret
      exact ⟨_, rfl, ho, hbw⟩
set_option maxRecDepth 8000 in
set_option maxHeartbeats 2000000 in
theorem aged_ (w : World) (A : Option Addr) (n c : Nat) (l : List Rc) (hr : Rd w 12 A n c (rcs l)) (hok : ∀ r ∈ l, r.ok) (hn : n ≤ 1000000) (hnm : ∀ r ∈ l, r.nm.size ≤ 1048576) (age : Int) (h0 : 0 ≤ age) (h1 : age ≤ 4611686018427387904) :
    Calls Try.prog 46 #[.slice A n c, .int .i64 age] w fun e w' => ∃ v, e = .returned v ∧ w'.ownsRow w.heap.size 46 12 v n (rcs (l.map (agedR age))) ∧ Below w.heap.size w w' := by
  have hl := Rd.recs hr
  have H1 := Lib.hid h1
  have H0 := Lib.hid h0
  clear h0 h1
  go_enter Try.func46, Try.ntmps46
  go_wp2
  go_loopw [5, 6] (fun v i wr => ∃ k : Nat, k ≤ n ∧ i = .int .i64 k ∧ wr.ownsRow w.heap.size 46 12 v k (rcs ((l.take k).map (agedR age))) ∧ Below w.heap.size w wr) (fun _ i _ => n - (intOf i).toNat)
  case atStart => exact ⟨0, Nat.zero_le _, rfl, by rw [List.take_zero]; exact World.ownsRow_nil _ _ _ _, Below.refl _ _⟩
  case round =>
    obtain ⟨k, hk, rfl, ho, hbw⟩ := hrel
    by_cases hlt : k < n
    · obtain ⟨r, hrk⟩ : ∃ r, l[k]? = some r := ⟨l[k], List.getElem?_eq_getElem (by omega)⟩
      have hrm := List.mem_of_getElem? hrk
      have hro := hok r hrm
      have hrn := hnm r hrm
      cases A with
      | none => have := (hr.nil_ rfl).1; omega
      | some ad =>
      have hcs := Rd.rec (hr.below hbw) k r hrk
      have hi1 : (k : Int) < (n : Int) := by omega
      have hfold := fun W => refFold_ W r.nm (by omega)
      have hbs := hbw.size
      go_wp2_with (first | (refine wpList_getAt rfl 46 (.tmp 16) rfl (ad.add (k * 12)) rfl [.string r.nm, .int .u16 r.ty, .int .u16 r.cl, .int .u32 r.ttl, .string r.raw, .string r.host, .string r.mail, .int .u32 r.n0, .int .u32 r.n1, .int .u32 r.n2, .int .u32 r.n3, .int .u32 r.n4] _ hcs Try.underlying46 rfl sizeRec ?_) | (go_at_call 16; refine (hfold _).mono ?_; rintro e w1 ⟨rfl, hb1⟩; have hB := (Blk.new wr 46 #[.string r.nm, .int .u16 r.ty, .int .u16 r.cl, .int .u32 r.ttl, .string r.raw, .string r.host, .string r.mail, .int .u32 r.n0, .int .u32 r.n1, .int .u32 r.n2, .int .u32 r.n3, .int .u32 r.n4]).below hb1; have c0 := hB.cell 0 _ rfl; have c1 := hB.cell 1 _ rfl; have c2 := hB.cell 2 _ rfl; have c3 := hB.cell 3 _ rfl; have c4 := hB.cell 4 _ rfl; have c5 := hB.cell 5 _ rfl; have c6 := hB.cell 6 _ rfl; have c7 := hB.cell 7 _ rfl; have c8 := hB.cell 8 _ rfl; have c9 := hB.cell 9 _ rfl; have c10 := hB.cell 10 _ rfl; have c11 := hB.cell 11 _ rfl; have f0 := hB.free 0; have f3 := hB.free 3; have HS := fun v1 v2 => Lib.hid (below_setCell (below_setCell (below_trans (below_new wr _) hb1) ⟨wr.heap.size, 0, none⟩ v1 (Nat.le_refl _)) ⟨wr.heap.size, 3, none⟩ v2 (Nat.le_refl _)); have HZ := Lib.hid (below_trans (below_new wr _) hb1).size) | (at_builtin; refine wpList_app (w0 := w) _ w.heap.size rfl (.tmp 28) (.tmp 30) 26 26 46 Rc.zero.val 12 96 rfl Try.underlying26 infoRec rfl (by omega) (by omega) u5 k _ rfl (.own (own_below ho (below_alloc (HS _ _).out _))) _ 1 (agedR age r).cells rfl (.slice (Rd.litN _ _ _ 12 _ (by rw [size_setCell, size_setCell]) rfl) (rc_one _)) (below_alloc (below_trans hbw (HS _ _).out) _) (by rw [World.size_alloc, size_setCell, size_setCell]; have := HZ.out; omega) (by omega) ?_; intro v1 w2 _ ho2 hb2 hg2; replace ho2 := ho2 (.inl (by omega))))
      go_roundw
      case rel =>
        refine ⟨k + 1, by omega, by go_num, ?_, hb2⟩
        rw [map_take _ hrk, rcs_snoc]
        exact ho2
      case measure => simp [intOf]; omega
    · obtain rfl : k = n := by omega
      rw [List.take_of_length_le (by omega)] at ho
      go_wp2
      go_ret
      exact ⟨_, rfl, ho, hbw⟩
end Go.Proofs.Ytioehogncgloiaa
