import Derived.Test.YtdjknikkiojfhaaDoorZMA
import Derived.Test.YtdjknikkiojfhaaDoorZPS
import Derived.Test.YtdjknikkiojfhaaDoorZRDA
import Derived.StillTailTactics
import Derived.Lib.QuietBelow
import Derived.BigQuiet
import Derived.IntWalk
/- message.reader: short, name, need, must. -/
namespace Go.Proofs.YtdjknikkiojfhaaDoor
open Go.RowKit Go.HL Go.Maps Go.Sort
set_option linter.unusedVariables false
set_option linter.unusedSimpArgs false
/-- A panic with an error number. -/
abbrev pan (e : Int) : Ending := .panicked [{ v := .iface 28 (.int .i64 e), recovered := false }]
theorem must_ok (w : World) : Calls Tryd.prog 22 #[.int .i64 0] w fun e w' => e = .returned (.tuple #[]) ∧ w' = w := by
  go_enter Tryd.func22, Tryd.ntmps22
  go_wp2
  exact bodyPost_end (results_none rfl _ _ _) rfl ⟨rfl, rfl⟩
theorem must_no (w : World) (x : Int) (hx : x ≠ 0) : Calls Tryd.prog 22 #[.int .i64 x] w fun e w' => e = pan x ∧ w' = w := by
  have hne : (x != 0) = true := by simpa using hx
  clear hx
  go_enter Tryd.func22, Tryd.ntmps22
  go_wp2
  exact ⟨rfl, rfl, rfl⟩
/-- The reader. -/
def Rdr (w : World) (R : Nat) (A : Option Addr) (n c i : Nat) : Prop := Blk w R 60 [.slice A n c, .int .i64 (i : Int)]
theorem Rdr.drew {w : World} {R : Nat} {A : Option Addr} {n c i : Nat} (h : Rdr w R A n c i) : Rdr w.drew R A n c i := h
def vat (k : Nat) (l : List UInt8) (i : Nat) : Int := val ((l.drop i).take k)
/-- What reading on leaves. -/
def Adv (w : World) (R : Nat) (A : Option Addr) (n c i : Nat) (w' : World) : Prop := Rdr w' R A n c i ∧ w.grownBy w' (some R)
theorem adv_set {w w1 : World} {R : Nat} {A : Option Addr} {n c i : Nat} (h : Rdr w R A n c i) (hb : Below w.heap.size w w1) (j : Nat) (v : Value) (hv : v = .int .i64 (j : Int)) : Adv w R A n c j (w1.setCell ⟨R, 1, none⟩ v) := by
  subst hv
  have h1 : Blk w1 R 60 [.slice A n c, .int .i64 (i : Int)] := Blk.below h hb
  exact ⟨h1.set 1 _, grownBy_then (grown_of_below hb (some R)) (grown_set w1 ⟨R, 1, none⟩ _)⟩
set_option maxRecDepth 8000 in
theorem short_ok (w : World) (R : Nat) (A : Option Addr) (n c i : Nat) (l : List UInt8) (hR : Rdr w R A n c i) (hr : Rd w 1 A n c (bs l)) (hn : n ≤ 281474976710656) (hi : i + 2 ≤ n) :
    Calls Tryd.prog 23 #[.pointer (some ⟨R, 0, none⟩)] w fun e w' => e = .returned (.int .u16 (vat 2 l i)) ∧ Adv w R A n c (i + 2) w' := by
  have c0 := hR.cell 0 _ rfl
  have c1 := hR.cell 1 _ rfl
  have f1 := hR.free 1
  have ht := fun q => (take16w_ok A n c (i : Int) hn (by omega) (by omega) (w.drewN q) l (hr.drewN q)).mono fun e w' (h : _ ∧ _) => (And.intro h.1 h.2.symm : e = _ ∧ w' = w.drewN q)
  simp only [Int.toNat_natCast] at ht
  have hmu := fun w => must_ok w
  have HA := Lib.hid (fun q v hv => adv_set (i := i) hR (below_drewN (Below.refl w.heap.size w) q) (i + 2) v hv)
  clear hR hr
  go_enter Tryd.func23, Tryd.ntmps23
  go_wp2
  go_quiet ((go_at_call 50; exact Calls.quiet_of_same (ht _)))
  go_wp2_with (first | (go_at_call 22; refine (hmu _).mono ?_; clear hmu; rintro e w2 ⟨rfl, rfl⟩))
  go_ret
  exact ⟨rfl, HA.out _ _ (by go_num)⟩
set_option maxRecDepth 8000 in
theorem short_no (w : World) (R : Nat) (A : Option Addr) (n c i : Nat) (l : List UInt8) (hR : Rdr w R A n c i) (hr : Rd w 1 A n c (bs l)) (hn : n ≤ 281474976710656) (hi : i ≤ n) (hi2 : n < i + 2) :
    Calls Tryd.prog 23 #[.pointer (some ⟨R, 0, none⟩)] w fun e w' => e = pan 6 ∧ Below w.heap.size w w' := by
  have c0 := hR.cell 0 _ rfl
  have c1 := hR.cell 1 _ rfl
  have ht := fun q => (take16w_short A n c (i : Int) hr.le hn (by omega) (by omega) (by omega) (w.drewN q)).mono fun e w' (h : _ ∧ _) => (And.intro h.1 h.2.symm : e = _ ∧ w' = w.drewN q)
  have hmu := fun w => must_no w 6 (by decide)
  clear hR hr
  go_enter Tryd.func23, Tryd.ntmps23
  go_wp2
  go_quiet ((go_at_call 50; exact Calls.quiet_of_same (ht _)))
  go_wp2_with (first | (go_at_call 22; refine (hmu _).mono ?_; clear hmu; rintro e w2 ⟨rfl, rfl⟩))
  exact ⟨rfl, rfl, below_drewN (Below.refl _ _) _⟩
set_option maxRecDepth 8000 in
theorem name_ok (w : World) (R : Nat) (A : Option Addr) (n c i : Nat) (l : List UInt8) (hR : Rdr w R A n c i) (hr : Rd w 1 A n c (bs l)) (hn : n ≤ 281474976710656) (he : (tkR l (i : Int)).2.2 = 0) (j : Nat) (hj : (tkR l (i : Int)).2.1 = (j : Int)) :
    Calls Tryd.prog 24 #[.pointer (some ⟨R, 0, none⟩)] w fun e w' => e = .returned (.string (str (tkR l (i : Int)).1)) ∧ Adv w R A n c j w' := by
  have c0 := hR.cell 0 _ rfl
  have c1 := hR.cell 1 _ rfl
  have f1 := hR.free 1
  have cF : ∀ d os, Calls Tryd.prog 52 #[.slice A n c, .int .i64 (i : Int)] (grow (redrawn w d) os) fun e w'' => e = .returned (.tuple #[.string (str (tkR l (i : Int)).1), .int .i64 (tkR l (i : Int)).2.1, .int .i64 (tkR l (i : Int)).2.2]) ∧ ∃ p : Regrown, w'' = grow (redrawn w p.d) p.os := fun d os => Calls.regrown_of (take_ A n c (i : Int) hn _ l (hr.below (below_regrown w d os)))
  have k0 := cell_regrown (hR.cell 0 _ rfl)
  have k1 := cell_regrown (hR.cell 1 _ rfl)
  rw [he, hj] at cF
  have hmu := fun w => must_ok w
  have HA := Lib.hid (fun w1 hb v hv => adv_set (i := i) (w1 := w1) hR hb j v hv)
  have HRR := Lib.hid hR
  obtain ⟨s, hs⟩ : ∃ s, str (tkR l (i : Int)).1 = s := ⟨_, rfl⟩
  rw [hs] at cF ⊢
  clear hR hr he hj hs
  go_enter Tryd.func24, Tryd.ntmps24
  go_wp2
  refine wp_region_quiet_below (by kernel_rfl) (by kernel_rfl) ?_
  repeat (quiet_step (first | exact cF _ _))
  refine wpQuiet_nil ?_
  rintro _ ⟨⟨dq, osq⟩, rfl⟩
  have HB1 := Lib.hid (below_regrown w dq osq)
  obtain ⟨w1, hw1⟩ : ∃ y, grow (redrawn w dq) osq = y := ⟨_, rfl⟩
  rw [hw1] at HB1 ⊢
  clear hw1 cF k0 k1
  have hR1 : Rdr w1 R A n c i := Blk.below HRR.out HB1.out
  have f2 := hR1.free 1
  have c2 := hR1.cell 1 _ rfl
  clear hR1
  go_wp2_with (go_at_call 22; refine (hmu _).mono ?_; clear hmu; rintro e w2 ⟨rfl, rfl⟩)
  go_ret
  exact ⟨rfl, HA.out _ HB1.out _ (by go_num)⟩
set_option maxRecDepth 8000 in
theorem name_no (w : World) (R : Nat) (A : Option Addr) (n c i : Nat) (l : List UInt8) (hR : Rdr w R A n c i) (hr : Rd w 1 A n c (bs l)) (hn : n ≤ 281474976710656) (x : Int) (hx : x ≠ 0) (he : (tkR l (i : Int)).2.2 = x) :
    Calls Tryd.prog 24 #[.pointer (some ⟨R, 0, none⟩)] w fun e w' => e = pan x ∧ Below w.heap.size w w' := by
  have c0 := hR.cell 0 _ rfl
  have c1 := hR.cell 1 _ rfl
  have cF : ∀ d os, Calls Tryd.prog 52 #[.slice A n c, .int .i64 (i : Int)] (grow (redrawn w d) os) fun e w'' => e = .returned (.tuple #[.string (str (tkR l (i : Int)).1), .int .i64 (tkR l (i : Int)).2.1, .int .i64 (tkR l (i : Int)).2.2]) ∧ ∃ p : Regrown, w'' = grow (redrawn w p.d) p.os := fun d os => Calls.regrown_of (take_ A n c (i : Int) hn _ l (hr.below (below_regrown w d os)))
  have k0 := cell_regrown (hR.cell 0 _ rfl)
  have k1 := cell_regrown (hR.cell 1 _ rfl)
  rw [he] at cF
  have hmu := fun w => must_no w x hx
  obtain ⟨s, hs⟩ : ∃ s, str (tkR l (i : Int)).1 = s := ⟨_, rfl⟩
  obtain ⟨y, hy⟩ : ∃ s, (tkR l (i : Int)).2.1 = s := ⟨_, rfl⟩
  rw [hs, hy] at cF
  clear hR hr he hs hy hx
  go_enter Tryd.func24, Tryd.ntmps24
  go_wp2
  refine wp_region_quiet_below (by kernel_rfl) (by kernel_rfl) ?_
  repeat (quiet_step (first | exact cF _ _))
  refine wpQuiet_nil ?_
  rintro _ ⟨⟨dq, osq⟩, rfl⟩
  have HB1 := Lib.hid (below_regrown w dq osq)
  obtain ⟨w1, hw1⟩ : ∃ y, grow (redrawn w dq) osq = y := ⟨_, rfl⟩
  rw [hw1] at HB1 ⊢
  clear hw1 cF k0 k1
  go_wp2_with (go_at_call 22; refine (hmu _).mono ?_; clear hmu; rintro e w2 ⟨rfl, rfl⟩)
  exact ⟨rfl, rfl, HB1.out⟩
set_option maxRecDepth 8000 in
theorem need_ok (w : World) (R : Nat) (A : Option Addr) (n c i k : Nat) (hR : Rdr w R A n c i) (hi : i + k ≤ n) (hn : n ≤ 281474976710656) (hk : k ≤ 100000) :
    Calls Tryd.prog 25 #[.pointer (some ⟨R, 0, none⟩), .int .i64 (k : Int)] w fun e w' => e = .returned (.tuple #[]) ∧ ∃ q, w' = w.drewN q := by
  have c0 := hR.cell 0 _ rfl
  have c1 := hR.cell 1 _ rfl
  have h1 : IntKind.i64.wrap ((n : Int) - (i : Int)) = (n : Int) - (i : Int) := IntWalk.i64_in _ (by omega)
  have h2 : ¬ (n : Int) - (i : Int) < (k : Int) := by omega
  have h3 : decide ((n : Int) - (i : Int) < (k : Int)) = false := by simp; omega
  clear hR hi
  go_enter Tryd.func25, Tryd.ntmps25
  go_wp2
  go_quiet (fail)
  go_wp2
  exact bodyPost_end (results_none rfl _ _ _) rfl ⟨rfl, _, rfl⟩
set_option maxRecDepth 8000 in
theorem need_no (w : World) (R : Nat) (A : Option Addr) (n c i k : Nat) (hR : Rdr w R A n c i) (hi : i ≤ n) (hi2 : n < i + k) (hn : n ≤ 281474976710656) (hk : k ≤ 100000) :
    Calls Tryd.prog 25 #[.pointer (some ⟨R, 0, none⟩), .int .i64 (k : Int)] w fun e w' => e = pan 6 ∧ Below w.heap.size w w' := by
  have c0 := hR.cell 0 _ rfl
  have c1 := hR.cell 1 _ rfl
  have h1 : IntKind.i64.wrap ((n : Int) - (i : Int)) = (n : Int) - (i : Int) := IntWalk.i64_in _ (by omega)
  have h2 : (n : Int) - (i : Int) < (k : Int) := by omega
  have h3 : decide ((n : Int) - (i : Int) < (k : Int)) = true := by simp; omega
  clear hR hi hi2
  go_enter Tryd.func25, Tryd.ntmps25
  go_wp2
  go_quiet (fail)
  go_wp2
  exact ⟨rfl, rfl, below_drewN (Below.refl _ _) _⟩
end Go.Proofs.YtdjknikkiojfhaaDoor
