import Derived.Test.YtdjknikkiojfhaaDoorZML
import Derived.Test.YtdjknikkiojfhaaDoorZMJ
import Derived.Defers
import Derived.Recover
/- message.Unpack: what holds meanwhile; the bytes of wakes. -/
namespace Go.Proofs.YtdjknikkiojfhaaDoor
open Go.RowKit Go.HL Go.Maps
set_option linter.unusedVariables false
set_option linter.unusedSimpArgs false
/-- The deferred closure, where nothing panics. -/
theorem catch_idle (p q : Addr) (w : World) :
    CallsD Tryd.prog 20 #[.pointer (some p), .pointer (some q)] .returning w fun e u' w' => e = .returned (.tuple #[]) ∧ u' = .returning ∧ w' = w := by
  refine callsD_of_wpS Tryd.func20 rfl fun c₀ cs hu => ?_
  apply wpS_seq
  apply wpS_region
  simp [wpOpsS, go_sem, recoverD, hu, Tryd.ntmps20, Exit.thenS]
  apply wpS_seq
  apply wpS_region
  simp [wpOpsS, go_sem, Exit.thenS]
  refine wpS_cond (t := false) (by simp [Act.eval, Array.replicate]) ?_
  simp only [Bool.false_eq_true, if_false]
  refine wpS_of_wp (wp_skip ?_)
  cases c₀
  simp_all [bodyPostS, results, Tryd.results20, Exit.thenS]
/-- What holds while a message is read. -/
structure Us (W : World) (h R N : Nat) (A : Option Addr) (n c : Nat) (cs : List Value) (i : Nat) (ns : List Value) (wr : World) : Prop where
  bM : Blk wr h 26 cs
  bE : Blk wr (h + 1) 28 [.int .i64 0]
  bR : Rdr wr R A n c i
  bN : Blk wr N 61 ns
  B : Below h W wr
  o1 : h + 1 < R
  o2 : R < N
section
variable {W : World} {h R N : Nat} {A : Option Addr} {n c : Nat} {cs : List Value} {i j : Nat} {ns : List Value} {wr w' : World}
theorem Us.adv (k : Us W h R N A n c cs i ns wr) (a : Adv wr R A n c j w') : Us W h R N A n c cs j ns w' := by
  have h1 := k.o1
  have h2 := k.o2
  exact ⟨k.bM.grown a.2 (by simp; omega), k.bE.grown a.2 (by simp; omega), a.1, k.bN.grown a.2 (by simp; omega), Below.grown k.B a.2 (Nat.le_of_lt k.bM.lt) (fun i hi => by cases hi; omega), h1, h2⟩
theorem Us.below (k : Us W h R N A n c cs i ns wr) (hb : Below wr.heap.size wr w') : Us W h R N A n c cs i ns w' :=
  ⟨k.bM.below hb, k.bE.below hb, Blk.below k.bR hb, k.bN.below hb, k.B.trans (hb.mono (Nat.le_of_lt k.bM.lt)), k.o1, k.o2⟩
theorem Us.drewN (k : Us W h R N A n c cs i ns wr) (q : Nat) : Us W h R N A n c cs i ns (wr.drewN q) := k.below (below_drewN (Below.refl _ _) q)
theorem Us.setN (k : Us W h R N A n c cs i ns wr) (p : Nat) (v : Value) : Us W h R N A n c cs i (ns.set p v) (wr.setCell ⟨N, p, none⟩ v) := by
  have h1 := k.o1
  have h2 := k.o2
  exact ⟨k.bM.set_other _ _ (by omega), k.bE.set_other _ _ (by omega), Blk.set_other k.bR _ _ (by omega), k.bN.set _ _, Below.grown k.B (grown_set _ _ _) (Nat.le_of_lt k.bM.lt) (fun i hi => by cases hi; show h ≤ N; omega), h1, h2⟩
theorem Us.setM (k : Us W h R N A n c cs i ns wr) (p : Nat) (v : Value) : Us W h R N A n c (cs.set p v) i ns (wr.setCell ⟨h, p, none⟩ v) := by
  have h1 := k.o1
  have h2 := k.o2
  exact ⟨k.bM.set _ _, k.bE.set_other _ _ (by omega), Blk.set_other k.bR _ _ (by omega), k.bN.set_other _ _ (by omega), Below.grown k.B (grown_set _ _ _) (Nat.le_of_lt k.bM.lt) (fun i hi => by cases hi; exact Nat.le_refl _), h1, h2⟩
end
theorem Us.setQ {W : World} {h R N : Nat} {A : Option Addr} {n c : Nat} {cs : List Value} {i : Nat} {ns : List Value} {wr : World} (k : Us W h R N A n c cs i ns wr) (Q : Nat) (hQ : R < Q ∧ N < Q ∧ h < Q) (p : Nat) (v : Value) : Us W h R N A n c cs i ns (wr.setCell ⟨Q, p, none⟩ v) := by
  have h1 := k.o1
  have h2 := k.o2
  exact ⟨k.bM.set_other _ _ (by omega), k.bE.set_other _ _ (by omega), Blk.set_other k.bR _ _ (by omega), k.bN.set_other _ _ (by omega), Below.grown k.B (grown_set _ _ _) (Nat.le_of_lt k.bM.lt) (fun i hi => by cases hi; show h ≤ Q; omega), h1, h2⟩
theorem results_mc {P : Program} {fn : Func} {p q : Tmp} {ty tz : TypeId} (h : fn.results = #[.cell p ty, .cell q tz]) (tmps : Array Value) {w : World} {a b : Nat} {t t' : TypeId} {cs : List Value} {v : Value} {d d' : TypeDesc} (hp : tmps.getD p undef = .pointer (some ⟨a, 0, none⟩)) (hq : tmps.getD q undef = .pointer (some ⟨b, 0, none⟩))
    (ha : Blk w a t cs) (hb : Blk w b t' [v]) (hu : P.underlying ty = some d) (hd : (match d with | .struct _ | .array _ _ => true | _ => false) = true) (hi : (P.info? ty).map (·.size) = some cs.length) (hu' : P.underlying tz = some d') (hd' : (match d' with | .struct _ | .array _ _ => true | _ => false) = false) :
    (results fn tmps).run P w = .ok (.tuple #[.agg cs.toArray, v]) w := by
  have hp' : tmps[p]?.getD undef = .pointer (some ⟨a, 0, none⟩) := by simpa using hp
  have hq' : tmps[q]?.getD undef = .pointer (some ⟨b, 0, none⟩) := by simpa using hq
  have hl := run_loadVar_row (P := P) w a t ty cs.toArray (0, 0) d ha hu hd (by simpa using hi)
  have hbx : Boxed w b t' v := hb
  simp [results, h, Sem.run_bind, hp', hq', asAddr, hl, run_loadVar_box hbx hu' hd', Result.andThen]
theorem jdx0 (g : Nat) (w : World) : (Instr.index 66 (partsV g) (.int .i64 0)).run Tryd.prog w = .ok (.pointer (some ⟨g, 10, none⟩)) w := by kernel_rfl
theorem jdx1 (g : Nat) (w : World) : (Instr.index 66 (partsV g) (.int .i64 1)).run Tryd.prog w = .ok (.pointer (some ⟨g, 11, none⟩)) w := by kernel_rfl
theorem jdx2 (g : Nat) (w : World) : (Instr.index 66 (partsV g) (.int .i64 2)).run Tryd.prog w = .ok (.pointer (some ⟨g, 12, none⟩)) w := by kernel_rfl
def L0 : List UInt8 := [0, 1, 1, 0, 0, 1, 0, 0, 0, 0, 0, 0, 1, 97, 0, 0, 1, 0, 1]
def UnpK (w : World) (e : Ending) (w' : World) : Prop := ∃ A' c', e = .returned (.tuple #[.agg #[.int .u16 1, .bool false, .int .u8 0, .bool false, .bool false, .bool true, .bool false, .int .u8 0, .int .u8 0, .slice A' 1 c', .slice none 0 0, .slice none 0 0, .slice none 0 0], .int .i64 0]) ∧ Below w.heap.size w w'
set_option maxRecDepth 8000 in
set_option maxHeartbeats 4000000 in
theorem unpackK_ (w : World) (A : Option Addr) (c : Nat) (hr : Rd w 1 A 19 c (bs L0)) : Calls Tryd.prog 11 #[.slice A 19 c] w (UnpK w) := by
  have hmf : ∀ (fn : Fn) (first cap : Array Value) (w : World), (Instr.makeFunc fn first cap).run Tryd.prog w = .ok (.func fn first cap) w := fun _ _ _ _ => rfl
  have hb2 := below_alloc (below_new w (.cells zeroM.cells.toArray 26)) (.cells #[.int .i64 0] 28)
  have hMz := (Blk.new w 26 zeroM.cells.toArray).alloc (.cells #[.int .i64 0] 28)
  have hEz := Blk.new (w.alloc (.cells zeroM.cells.toArray 26)) 28 #[.int .i64 0]
  rw [World.size_alloc] at hEz
  obtain ⟨W2, hW2⟩ : ∃ x, (w.alloc (.cells zeroM.cells.toArray 26)).alloc (.cells #[.int .i64 0] 28) = x := ⟨_, rfl⟩
  rw [hW2] at hb2 hMz hEz
  have hhd := head_ok W2 A 19 c L0 (hr.below hb2) (by omega) (by omega)
  have hHM : (headM L0).val = .agg #[.int .u16 1, .bool false, .int .u8 0, .bool false, .bool false, .bool true, .bool false, .int .u8 0, .int .u8 0, .slice none 0 0, .slice none 0 0, .slice none 0 0, .slice none 0 0] := by kernel_rfl
  unfold HeadR at hhd
  rw [hHM] at hhd
  have HR := Lib.hid hr
  have HM := Lib.hid hMz
  have HE := Lib.hid hEz
  have HB := Lib.hid hb2
  unfold zeroM Mg.cells at hW2
  clear hr hb2 hMz hEz hHM
  go_enter_defers Tryd.func11, Tryd.ntmps11
  go_upto_region 4 with (first
    | ((try rw [hW2]); go_at_call 21; refine hhd.mono ?_; clear hhd; rintro e W3 ⟨rfl, hb3⟩; have HB3 := Lib.hid (below_trans HB.out hb3); have HM3 := Lib.hid (HM.out.below hb3); have HE3 := Lib.hid (HE.out.below hb3); clear hb3 hW2)
    | (refine wpList_put rfl 26 _ _ rfl w.heap.size #[.int .u16 1, .bool false, .int .u8 0, .bool false, .bool false, .bool true, .bool false, .int .u8 0, .int .u8 0, .slice none 0 0, .slice none 0 0, .slice none 0 0, .slice none 0 0] rfl rfl 26 _ HM3.out sizeMsg rfl rfl ?_; have hE4 := HE3.out.grown (grown_row W3 w.heap.size #[.int .u16 1, .bool false, .int .u8 0, .bool false, .bool false, .bool true, .bool false, .int .u8 0, .int .u8 0, .slice none 0 0, .slice none 0 0, .slice none 0 0, .slice none 0 0]) (by simp); have s4 := hE4.cell 0 _ rfl; have f4 := hE4.free 0; clear hE4)
    | (go_at_call 22; refine (must_ok _).mono ?_; rintro e w' ⟨rfl, rfl⟩))
  have hb4 : Below w.heap.size w ((W3.setRow w.heap.size #[.int .u16 1, .bool false, .int .u8 0, .bool false, .bool false, .bool true, .bool false, .int .u8 0, .int .u8 0, .slice none 0 0, .slice none 0 0, .slice none 0 0, .slice none 0 0]).setCell ⟨w.heap.size + 1, 0, none⟩ (.int .i64 0)) := Below.grown (Below.grown HB3.out (grown_row _ _ _) HB3.out.size (fun j hj => by cases hj; exact Nat.le_refl _)) (grown_set _ _ _) (by have := HB3.out.size; simp only [World.setRow, Array.size_modify]; omega) (fun j hj => by cases hj; exact Nat.le_succ _)
  have hE4 : Blk ((W3.setRow w.heap.size #[.int .u16 1, .bool false, .int .u8 0, .bool false, .bool false, .bool true, .bool false, .int .u8 0, .int .u8 0, .slice none 0 0, .slice none 0 0, .slice none 0 0, .slice none 0 0]).setCell ⟨w.heap.size + 1, 0, none⟩ (.int .i64 0)) (w.heap.size + 1) 28 [.int .i64 0] := (HE3.out.grown (grown_row W3 w.heap.size #[.int .u16 1, .bool false, .int .u8 0, .bool false, .bool false, .bool true, .bool false, .int .u8 0, .int .u8 0, .slice none 0 0, .slice none 0 0, .slice none 0 0, .slice none 0 0]) (by simp)).set 0 (.int .i64 0)
  have hM4 : Blk ((W3.setRow w.heap.size #[.int .u16 1, .bool false, .int .u8 0, .bool false, .bool false, .bool true, .bool false, .int .u8 0, .int .u8 0, .slice none 0 0, .slice none 0 0, .slice none 0 0, .slice none 0 0]).setCell ⟨w.heap.size + 1, 0, none⟩ (.int .i64 0)) w.heap.size 26 [.int .u16 1, .bool false, .int .u8 0, .bool false, .bool false, .bool true, .bool false, .int .u8 0, .int .u8 0, .slice none 0 0, .slice none 0 0, .slice none 0 0, .slice none 0 0] := Blk.set_other (HM3.out.row #[.int .u16 1, .bool false, .int .u8 0, .bool false, .bool false, .bool true, .bool false, .int .u8 0, .int .u8 0, .slice none 0 0, .slice none 0 0, .slice none 0 0, .slice none 0 0]) _ _ (by omega)
  obtain ⟨W4, hW4⟩ : ∃ x, ((W3.setRow w.heap.size #[.int .u16 1, .bool false, .int .u8 0, .bool false, .bool false, .bool true, .bool false, .int .u8 0, .int .u8 0, .slice none 0 0, .slice none 0 0, .slice none 0 0, .slice none 0 0]).setCell ⟨w.heap.size + 1, 0, none⟩ (.int .i64 0)) = x := ⟨_, rfl⟩
  rw [hW4] at hb4 hE4 hM4 ⊢
  have hel := hE4.lt
  have HB4 := Lib.hid hb4
  have HE4 := Lib.hid hE4
  have HM4 := Lib.hid hM4
  clear hW4 hb4 hE4 hM4 HB3 HM3 HE3 s4 f4 HM HE HB
  go_upto_region 6 with (fail)
  have hU : Us w w.heap.size W4.heap.size (W4.heap.size + 1) A 19 c [.int .u16 1, .bool false, .int .u8 0, .bool false, .bool false, .bool true, .bool false, .int .u8 0, .int .u8 0, .slice none 0 0, .slice none 0 0, .slice none 0 0, .slice none 0 0] 4 [.int .i64 0, .int .i64 0, .int .i64 0, .int .i64 0] ((W4.alloc (.cells #[.slice A 19 c, .int .i64 4] 60)).alloc (.cells #[.int .i64 0, .int .i64 0, .int .i64 0, .int .i64 0] 61)) := by
    have h1 := Blk.new W4 60 #[.slice A 19 c, .int .i64 4]
    have h2 := Blk.new (W4.alloc (.cells #[.slice A 19 c, .int .i64 4] 60)) 61 #[.int .i64 0, .int .i64 0, .int .i64 0, .int .i64 0]
    rw [World.size_alloc] at h2
    exact ⟨(HM4.out.alloc _).alloc _, (HE4.out.alloc _).alloc _, h1.alloc _, h2, below_alloc (below_alloc HB4.out _) _, hel, Nat.lt_succ_self _⟩
  obtain ⟨X, hX⟩ : ∃ x, ((W4.alloc (.cells #[.slice A 19 c, .int .i64 4] 60)).alloc (.cells #[.int .i64 0, .int .i64 0, .int .i64 0, .int .i64 0] 61)) = x := ⟨_, rfl⟩
  rw [hX] at hU ⊢
  obtain ⟨R, hRe⟩ : ∃ x, W4.heap.size = x := ⟨_, rfl⟩
  rw [hRe] at hU ⊢
  obtain ⟨N, hNe⟩ : ∃ x, R + 1 = x := ⟨_, rfl⟩
  rw [hNe] at hU ⊢
  have HU := Lib.hid hU
  clear hX hRe hNe HB4 HM4 HE4 hU hel
  go_wp2
  refine wp_loop_rounds 5 ?_
  have e0 : vat 2 L0 4 = 1 := by decide
  have E0 := Lib.hid e0
  clear e0
  rw [rounds_succ]
  go_wp2_with (go_at_call 23; have hc := short_ok X R A 19 c 4 L0 HU.out.bR (HR.out.below HU.out.B) (by omega) (by omega); rw [E0.out] at hc; refine hc.mono ?_; clear hc; rintro e X0 ⟨rfl, ha⟩; have hU := HU.out.adv ha; have sN := hU.bN.cell 0 _ rfl; have fN := hU.bN.free 0; have HU1 := Lib.hid hU; clear ha hU HU)
  have hU := HU1.out.setN 0 (.int .i64 1)
  obtain ⟨X, hX⟩ : ∃ x, X0.setCell ⟨N, 0, none⟩ (.int .i64 1) = x := ⟨_, rfl⟩
  rw [hX] at hU ⊢
  have HU := Lib.hid hU
  clear hU hX HU1 sN fN E0
  have e1 : vat 2 L0 6 = 0 := by decide
  have E1 := Lib.hid e1
  clear e1
  rw [rounds_succ]
  go_wp2_with (go_at_call 23; have hc := short_ok X R A 19 c 6 L0 HU.out.bR (HR.out.below HU.out.B) (by omega) (by omega); rw [E1.out] at hc; refine hc.mono ?_; clear hc; rintro e X1 ⟨rfl, ha⟩; have hU := HU.out.adv ha; have sN := hU.bN.cell 1 _ rfl; have fN := hU.bN.free 1; have HU1 := Lib.hid hU; clear ha hU HU)
  have hU := HU1.out.setN 1 (.int .i64 0)
  obtain ⟨X, hX⟩ : ∃ x, X1.setCell ⟨N, 1, none⟩ (.int .i64 0) = x := ⟨_, rfl⟩
  rw [hX] at hU ⊢
  have HU := Lib.hid hU
  clear hU hX HU1 sN fN E1
  have e2 : vat 2 L0 8 = 0 := by decide
  have E2 := Lib.hid e2
  clear e2
  rw [rounds_succ]
  go_wp2_with (go_at_call 23; have hc := short_ok X R A 19 c 8 L0 HU.out.bR (HR.out.below HU.out.B) (by omega) (by omega); rw [E2.out] at hc; refine hc.mono ?_; clear hc; rintro e X2 ⟨rfl, ha⟩; have hU := HU.out.adv ha; have sN := hU.bN.cell 2 _ rfl; have fN := hU.bN.free 2; have HU1 := Lib.hid hU; clear ha hU HU)
  have hU := HU1.out.setN 2 (.int .i64 0)
  obtain ⟨X, hX⟩ : ∃ x, X2.setCell ⟨N, 2, none⟩ (.int .i64 0) = x := ⟨_, rfl⟩
  rw [hX] at hU ⊢
  have HU := Lib.hid hU
  clear hU hX HU1 sN fN E2
  have e3 : vat 2 L0 10 = 0 := by decide
  have E3 := Lib.hid e3
  clear e3
  rw [rounds_succ]
  go_wp2_with (go_at_call 23; have hc := short_ok X R A 19 c 10 L0 HU.out.bR (HR.out.below HU.out.B) (by omega) (by omega); rw [E3.out] at hc; refine hc.mono ?_; clear hc; rintro e X3 ⟨rfl, ha⟩; have hU := HU.out.adv ha; have sN := hU.bN.cell 3 _ rfl; have fN := hU.bN.free 3; have HU1 := Lib.hid hU; clear ha hU HU)
  have hU := HU1.out.setN 3 (.int .i64 0)
  obtain ⟨X, hX⟩ : ∃ x, X3.setCell ⟨N, 3, none⟩ (.int .i64 0) = x := ⟨_, rfl⟩
  rw [hX] at hU ⊢
  have HU := Lib.hid hU
  clear hU hX HU1 sN fN E3
  have sN := HU.out.bN.cell 0 _ rfl
  rw [rounds_succ]
  go_upto_region 16 with (fail)
  clear sN
  refine wp_loop_rounds 2 ?_
  rw [rounds_succ]
  have htk : tkR L0 12 = ([1, 97, 0], 15, 0) := by kernel_rfl
  have HTK := Lib.hid htk
  clear htk
  have e15 : vat 2 L0 15 = 1 := by decide
  have e17 : vat 2 L0 17 = 1 := by decide
  have E15 := Lib.hid e15
  have E17 := Lib.hid e17
  clear e15 e17
  go_upto_region 18 with (go_at_call 24; have hc := name_ok X R A 19 c 12 L0 HU.out.bR (HR.out.below HU.out.B) (by omega) (by show (tkR L0 12).2.2 = 0; rw [HTK.out]) 15 (by show (tkR L0 12).2.1 = 15; rw [HTK.out]); rw [show str (tkR L0 ((12 : Nat) : Int)).1 = (⟨#[1, 97, 0]⟩ : ByteArray) by show str (tkR L0 12).1 = _; rw [HTK.out]; rfl] at hc; refine hc.mono ?_; clear hc; rintro e XN ⟨rfl, ha⟩; have HU1 := Lib.hid (HU.out.adv ha); clear ha HU)
  have hQ := Blk.new XN 55 #[.string ⟨#[1, 97, 0]⟩, .int .u16 0, .int .u16 0]
  have hU := HU1.out.below (below_new XN (.cells #[.string ⟨#[1, 97, 0]⟩, .int .u16 0, .int .u16 0] 55))
  obtain ⟨X, hX⟩ : ∃ x, XN.alloc (.cells #[.string ⟨#[1, 97, 0]⟩, .int .u16 0, .int .u16 0] 55) = x := ⟨_, rfl⟩
  rw [hX] at hQ hU ⊢
  have hQR : R < XN.heap.size ∧ N < XN.heap.size ∧ w.heap.size < XN.heap.size := ⟨HU1.out.bR.lt, HU1.out.bN.lt, HU1.out.bM.lt⟩
  obtain ⟨Q, hQe⟩ : ∃ x, XN.heap.size = x := ⟨_, rfl⟩
  rw [hQe] at hQ hQR ⊢
  have HU := Lib.hid hU
  have HQ := Lib.hid hQ
  have HQR := Lib.hid hQR
  clear hX hQe HU1 hU hQ hQR
  go_upto_region 20 with (first
    | (go_at_call 25; refine (need_ok X R A 19 c 15 4 HU.out.bR (by omega) (by omega) (by omega)).mono ?_; rintro e XD ⟨rfl, q, rfl⟩; have HU1 := Lib.hid (HU.out.drewN q); have HQ1 := Lib.hid (HQ.out.below (below_drewN (Below.refl _ _) q)); clear HU HQ)
    | (go_at_call 23; have hc := short_ok _ R A 19 c 15 L0 HU1.out.bR (HR.out.below HU1.out.B) (by omega) (by omega); rw [E15.out] at hc; refine hc.mono ?_; clear hc; rintro e XE ⟨rfl, ha⟩; have HU2 := Lib.hid (HU1.out.adv ha); have HQ2 := Lib.hid (HQ1.out.grown ha.2 (by have := HQR.out; simp; omega)); clear ha HU1 HQ1)
    | (go_at_call 23; have hc := short_ok _ R A 19 c 17 L0 HU2.out.bR (HR.out.below HU2.out.B) (by omega) (by omega); rw [E17.out] at hc; refine hc.mono ?_; clear hc; rintro e XF ⟨rfl, ha⟩; have HU3 := Lib.hid (HU2.out.adv ha); have hq3 := HQ2.out.grown ha.2 (by have := HQR.out; simp; omega); have q1 := hq3.cell 1 _ rfl; have q2 := hq3.cell 2 _ rfl; have g1 := hq3.free 1; have g2 := hq3.free 2; have HQ3 := Lib.hid hq3; clear ha HU2 HQ2 hq3))
  have hU := (HU3.out.setQ Q HQR.out 1 (.int .u16 1)).setQ Q HQR.out 2 (.int .u16 1)
  have hQ : Blk ((XF.setCell ⟨Q, 1, none⟩ (.int .u16 1)).setCell ⟨Q, 2, none⟩ (.int .u16 1)) Q 55 [.string ⟨#[1, 97, 0]⟩, .int .u16 1, .int .u16 1] := (HQ3.out.set 1 (.int .u16 1)).set 2 (.int .u16 1)
  obtain ⟨Y, hY⟩ : ∃ x, (XF.setCell ⟨Q, 1, none⟩ (.int .u16 1)).setCell ⟨Q, 2, none⟩ (.int .u16 1) = x := ⟨_, rfl⟩
  rw [hY] at hU hQ ⊢
  have c9 := hU.bM.cell 9 _ rfl
  have HU := Lib.hid hU
  have HQ := Lib.hid hQ
  have q0 := hQ.cell 0 _ rfl
  have q1 := hQ.cell 1 _ rfl
  have q2 := hQ.cell 2 _ rfl
  have HUA := Lib.hid (hU.below (below_new Y (.cells #[.string ⟨#[1, 97, 0]⟩, .int .u16 1, .int .u16 1] 55)))
  have hmk : Rd (Y.alloc (.cells #[.string ⟨#[1, 97, 0]⟩, .int .u16 1, .int .u16 1] 55)) 3 (some ⟨Y.heap.size, 0, none⟩) 1 1 (qns [⟨⟨#[1, 97, 0]⟩, 1, 1⟩]) := ⟨rfl, fun h => (by cases h), Nat.le_refl _, fun a ha => by cases ha; exact World.news_of_block (cs := #[.string ⟨#[1, 97, 0]⟩, .int .u16 1, .int .u16 1]) (t := 55) (fr := (0, 0)) (heap_alloc_new Y _)⟩
  have HMK := Lib.hid hmk
  clear hY HU3 HQ3 hU hQ g1 g2 hmk
  go_upto_region 21 with (first
    | (at_builtin; refine wpList_app_nil (Y.alloc (.cells #[.string ⟨#[1, 97, 0]⟩, .int .u16 1, .int .u16 1] 55)) (Y.alloc (.cells #[.string ⟨#[1, 97, 0]⟩, .int .u16 1, .int .u16 1] 55)) (Y.alloc (.cells #[.string ⟨#[1, 97, 0]⟩, .int .u16 1, .int .u16 1] 55)).heap.size rfl _ _ 23 23 55 (.agg #[.string ⟨#[]⟩, .int .u16 0, .int .u16 0]) 3 24 rfl Tryd.underlying23 infoQue rfl (by omega) (by omega) rfl (.slice (some ⟨Y.heap.size, 0, none⟩) 1 1) 1 (qns [⟨⟨#[1, 97, 0]⟩, 1, 1⟩]) rfl (.slice HMK.out (qns_one _)) (Below.refl _ _) (Nat.le_refl _) (by omega) ?_; intro v7 V7 ho7 hb7 hg7; obtain ⟨A7, k7, rfl, hr7⟩ := own_rd ho7; have hU7 := HUA.out.below hb7; have c97 := hU7.bM.cell 9 _ rfl; have f97 := hU7.bM.free 9; have HU7 := Lib.hid hU7; clear ho7 hb7 hg7 hr7 hU7))
  have hU : Us w w.heap.size R N A 19 c [.int .u16 1, .bool false, .int .u8 0, .bool false, .bool false, .bool true, .bool false, .int .u8 0, .int .u8 0, .slice A7 1 k7, .slice none 0 0, .slice none 0 0, .slice none 0 0] 19 [.int .i64 1, .int .i64 0, .int .i64 0, .int .i64 0] (V7.setCell ⟨w.heap.size, 9, none⟩ (.slice A7 1 k7)) := HU7.out.setM 9 (.slice A7 1 k7)
  obtain ⟨Z, hZ⟩ : ∃ x, V7.setCell ⟨w.heap.size, 9, none⟩ (.slice A7 1 k7) = x := ⟨_, rfl⟩
  rw [hZ] at hU ⊢
  clear hZ HU7 HU HQ HUA HMK c97 f97 q0 q1 q2 c9
  have HU := Lib.hid hU
  clear hU
  go_wp2
  rw [rounds_succ]
  go_upto_region 23 with (go_at_call 26; refine (parts_ Z w.heap.size).mono ?_; rintro e Z1 ⟨rfl, hb8⟩; have HU1 := Lib.hid (HU.out.below hb8); clear HU hb8)
  have x0 := jdx0 w.heap.size
  have x1 := jdx1 w.heap.size
  have x2 := jdx2 w.heap.size
  have n1 := HU1.out.bN.cell 1 _ rfl
  have n2 := HU1.out.bN.cell 2 _ rfl
  have n3 := HU1.out.bN.cell 3 _ rfl
  refine wp_loop_rounds 4 ?_
  rw [rounds_succ]
  go_wp2
  refine wp_loop_rounds 1 ?_
  rw [rounds_succ]
  go_wp2
  rw [rounds_succ]
  go_wp2
  refine wp_loop_rounds 1 ?_
  rw [rounds_succ]
  go_wp2
  rw [rounds_succ]
  go_wp2
  refine wp_loop_rounds 1 ?_
  rw [rounds_succ]
  go_wp2
  rw [rounds_succ]
  have r1 := Blk.cell HU1.out.bR 1 _ rfl
  have hM8 : Blk Z1 w.heap.size 26 [.int .u16 1, .bool false, .int .u8 0, .bool false, .bool false, .bool true, .bool false, .int .u8 0, .int .u8 0, .slice A7 1 k7, .slice none 0 0, .slice none 0 0, .slice none 0 0] := HU1.out.bM
  go_wp2_with (first | (refine wpList_get rfl 26 _ rfl w.heap.size rfl 26 _ _ hM8 Tryd.underlying26 rfl sizeMsg ?_) | (refine wpList_put rfl 26 _ _ rfl w.heap.size #[.int .u16 1, .bool false, .int .u8 0, .bool false, .bool false, .bool true, .bool false, .int .u8 0, .int .u8 0, .slice A7 1 k7, .slice none 0 0, .slice none 0 0, .slice none 0 0] rfl rfl 26 _ hM8 sizeMsg rfl rfl ?_; have hE8 := HU1.out.bE.grown (grown_row Z1 w.heap.size #[.int .u16 1, .bool false, .int .u8 0, .bool false, .bool false, .bool true, .bool false, .int .u8 0, .int .u8 0, .slice A7 1 k7, .slice none 0 0, .slice none 0 0, .slice none 0 0]) (by simp); have s8 := hE8.cell 0 _ rfl; have f8 := hE8.free 0; have HE8 := Lib.hid hE8; clear hE8))
  have hMf : Blk ((Z1.setRow w.heap.size #[.int .u16 1, .bool false, .int .u8 0, .bool false, .bool false, .bool true, .bool false, .int .u8 0, .int .u8 0, .slice A7 1 k7, .slice none 0 0, .slice none 0 0, .slice none 0 0]).setCell ⟨w.heap.size + 1, 0, none⟩ (.int .i64 0)) w.heap.size 26 [.int .u16 1, .bool false, .int .u8 0, .bool false, .bool false, .bool true, .bool false, .int .u8 0, .int .u8 0, .slice A7 1 k7, .slice none 0 0, .slice none 0 0, .slice none 0 0] := Blk.set_other (HU1.out.bM.row #[.int .u16 1, .bool false, .int .u8 0, .bool false, .bool false, .bool true, .bool false, .int .u8 0, .int .u8 0, .slice A7 1 k7, .slice none 0 0, .slice none 0 0, .slice none 0 0]) _ _ (by omega)
  have hEf : Blk ((Z1.setRow w.heap.size #[.int .u16 1, .bool false, .int .u8 0, .bool false, .bool false, .bool true, .bool false, .int .u8 0, .int .u8 0, .slice A7 1 k7, .slice none 0 0, .slice none 0 0, .slice none 0 0]).setCell ⟨w.heap.size + 1, 0, none⟩ (.int .i64 0)) (w.heap.size + 1) 28 [.int .i64 0] := HE8.out.set 0 (.int .i64 0)
  have hBf : Below w.heap.size w ((Z1.setRow w.heap.size #[.int .u16 1, .bool false, .int .u8 0, .bool false, .bool false, .bool true, .bool false, .int .u8 0, .int .u8 0, .slice A7 1 k7, .slice none 0 0, .slice none 0 0, .slice none 0 0]).setCell ⟨w.heap.size + 1, 0, none⟩ (.int .i64 0)) := Below.grown (Below.grown HU1.out.B (grown_row _ _ _) HU1.out.B.size (fun j hj => by cases hj; exact Nat.le_refl _)) (grown_set _ _ _) (by have := HU1.out.B.size; simp only [World.setRow, Array.size_modify]; omega) (fun j hj => by cases hj; exact Nat.le_succ _)
  refine leaves_cons (f := 20) (args := #[.pointer (some ⟨w.heap.size, 0, none⟩), .pointer (some ⟨w.heap.size + 1, 0, none⟩)]) (by simp) (by simp [go_sem]) ?_
  refine (catch_idle ⟨w.heap.size, 0, none⟩ ⟨w.heap.size + 1, 0, none⟩ _).mono ?_
  rintro e u' w'' ⟨rfl, rfl, rfl⟩
  exact ⟨_, results_mc rfl _ rfl rfl hMf hEf Tryd.underlying26 rfl sizeMsg Tryd.underlying28 rfl, A7, k7, rfl, hBf⟩
end Go.Proofs.YtdjknikkiojfhaaDoor
