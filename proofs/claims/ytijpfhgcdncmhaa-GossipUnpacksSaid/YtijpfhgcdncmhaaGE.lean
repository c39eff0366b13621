/- gossip: the reader of packets. -/
import Derived.Test.YtijpfhgcdncmhaaGD
import Derived.Deep.QuietTactic
import Derived.BigQuiet
namespace Go.Proofs.Ytijpfhgcdncmhaa
open Go.RowKit Go.HL
set_option linter.unusedVariables false
set_option linter.unusedSimpArgs false

theorem _root_.Go.HL.flip_same {P : Program} {f : FuncId} {args : Array Value} {w : World} {x : Ending} (h : Calls P f args w fun e w' => e = x ∧ w = w') : Calls P f args w fun e w' => e = x ∧ w' = w := h.mono fun _ _ ⟨a, b⟩ => ⟨a, b.symm⟩
def rdr (A : Option Addr) (n c : Nat) (i : Nat) (e : Int) : List Value := [.slice A n c, .int .i64 (i : Int), .int .i64 e]
/-- The next number, the place behind it, and the first error. -/
def tk (k : Nat) (l : List UInt8) (i : Nat) (e : Int) : Int × Nat × Int :=
  if e = 0 then (if i + k ≤ l.length then (val ((l.drop i).take k), i + k, 0) else (0, i, 6)) else (0, i, e)
theorem takeR_tk (k : Nat) (l : List UInt8) (i : Nat) (e : Int) (hi : i ≤ l.length) (he : e = 0) : takeR k l (i : Int) = ((tk k l i e).1, if i + k ≤ l.length then ((tk k l i e).2.1 : Int) else 0, (tk k l i e).2.2) := by
  unfold takeR tk
  rw [if_neg (by omega), if_pos he]
  by_cases h : i + k ≤ l.length
  · rw [if_neg (by omega), if_pos h, if_pos h]
    simp
  · rw [if_pos (by omega), if_neg h, if_neg h]
theorem _root_.Go.HL.Blk.set {w : World} {g : Nat} {t : TypeId} {cs : List Value} (h : Blk w g t cs) (j : Nat) (v : Value) : Blk (w.setCell ⟨g, j, none⟩ v) g t (cs.set j v) := by
  have h' : w.heap[g]? = _ := h
  obtain ⟨hlt, h1⟩ := Array.getElem?_eq_some_iff.1 h'
  unfold Blk
  simp [World.setCell, Array.getElem?_modify, h']
theorem _root_.Go.HL.Blk.drewN {w : World} {g : Nat} {t : TypeId} {cs : List Value} (h : Blk w g t cs) (k : Nat) : Blk (w.drewN k) g t cs := h
theorem size_set' (w : World) (a : Addr) (v : Value) : (w.setCell a v).heap.size = w.heap.size := by simp [World.setCell]
theorem grown_setd (w : World) (R j : Nat) (v : Value) (k : Nat) : w.grownBy ((w.drewN k).setCell ⟨R, j, none⟩ v) (some R) := by
  have h := grown_set (w.drewN k) ⟨R, j, none⟩ v
  exact ⟨h.os, h.tape, h.output, h.size, h.block⟩
theorem grown_sets (w : World) (R j j' : Nat) (v v' : Value) (k : Nat) : w.grownBy (((w.drewN k).setCell ⟨R, j, none⟩ v).setCell ⟨R, j', none⟩ v') (some R) :=
  (grown_setd w R j v k).trans (grown_set _ ⟨R, j', none⟩ v')
def TkP (w : World) (R : Nat) (A : Option Addr) (n c : Nat) (l : List UInt8) (i : Nat) (e : Int) (k : Nat) (kd : IntKind) (ending : Ending) (w' : World) : Prop :=
  ending = .returned (.int kd (tk k l i e).1) ∧ Blk w' R 50 (rdr A n c (tk k l i e).2.1 (tk k l i e).2.2) ∧ w.grownBy w' (some R) ∧ w'.heap.size = w.heap.size
set_option maxHeartbeats 1000000 in
theorem gtake1 (w : World) (R : Nat) (A : Option Addr) (n c : Nat) (l : List UInt8) (i : Nat) (e : Int) (hR : Blk w R 50 (rdr A n c i e)) (hr : Rd w 1 A n c (bs l)) (hn : n ≤ 140737488355328) (hi : i ≤ n) :
    Calls Try.prog 23 #[.pointer (some ⟨R, 0, none⟩)] w (TkP w R A n c l i e 1 .u8) := by
  have hl := hr.blen
  have c0 := hR.cell 0 _ rfl
  have c1 := hR.cell 1 _ rfl
  have c2 := hR.cell 2 _ rfl
  have f1 := hR.free 1
  have f2 := hR.free 2
  by_cases he : e = 0
  · subst he
    have ht := fun W (h : Rd W 1 A n c (bs l)) => take8 A n c (i : Int) hn W l h
    rw [takeR_tk 1 l i 0 (by omega) rfl] at ht
    unfold TkP
    by_cases hk : i + 1 ≤ l.length
    · have e1 : tk 1 l i 0 = (val ((l.drop i).take 1), i + 1, 0) := by unfold tk; rw [if_pos rfl, if_pos hk]
      rw [e1] at ht ⊢
      obtain ⟨v, hv⟩ : ∃ v, val ((l.drop i).take 1) = v := ⟨_, rfl⟩
      rw [hv] at ht ⊢
      dsimp only at ht ⊢
      rw [if_pos hk] at ht
      have HC : (((i + 1 : Nat)) : Int) = (i : Int) + 1 := by omega
      rw [HC] at ht
      have ht' := fun k => ht _ (hr.drewN k)
      clear hv e1 hk ht
      go_enter Try.func23, Try.ntmps23
      go_upto_region 3 with (fail)
      go_quiet (first | (go_at_call 31; refine Calls.quiet_of_same (Go.HL.flip_same (ht' _))))
      go_wp2
      go_ret
      refine ⟨rfl, ?_, ?_, ?_⟩
      · have h := ((hR.drewN nq).set 2 (.int .i64 0)).set 1 (.int .i64 ((i : Int) + 1))
        simpa [rdr] using h
      · exact grown_sets w R _ _ _ _ nq
      · simp [size_set', World.drewN]
    · have e1 : tk 1 l i 0 = (0, i, 6) := by unfold tk; rw [if_pos rfl, if_neg hk]
      rw [e1] at ht ⊢
      dsimp only at ht ⊢
      rw [if_neg hk] at ht
      have ht' := fun k => ht _ (hr.drewN k)
      clear e1 hk ht
      go_enter Try.func23, Try.ntmps23
      go_upto_region 3 with (fail)
      go_quiet (first | (go_at_call 31; refine Calls.quiet_of_same (Go.HL.flip_same (ht' _))))
      go_wp2
      go_ret
      refine ⟨rfl, ?_, ?_, ?_⟩
      · have h := (hR.drewN nq).set 2 (.int .i64 6)
        simpa [rdr] using h
      · exact grown_setd w R _ _ nq
      · simp [size_set', World.drewN]
  · have e1 : tk 1 l i e = (0, i, e) := by unfold tk; rw [if_neg he]
    unfold TkP
    rw [e1]
    have hne : (e != 0) = true := by simpa using he
    go_enter Try.func23, Try.ntmps23
    go_wp2
    go_ret
    exact ⟨rfl, hR, ⟨rfl, rfl, rfl, Nat.le_refl _, fun _ _ _ => rfl⟩, rfl⟩
set_option maxHeartbeats 1000000 in
theorem gtake2 (w : World) (R : Nat) (A : Option Addr) (n c : Nat) (l : List UInt8) (i : Nat) (e : Int) (hR : Blk w R 50 (rdr A n c i e)) (hr : Rd w 1 A n c (bs l)) (hn : n ≤ 140737488355328) (hi : i ≤ n) :
    Calls Try.prog 25 #[.pointer (some ⟨R, 0, none⟩)] w (TkP w R A n c l i e 2 .u16) := by
  have hl := hr.blen
  have c0 := hR.cell 0 _ rfl
  have c1 := hR.cell 1 _ rfl
  have c2 := hR.cell 2 _ rfl
  have f1 := hR.free 1
  have f2 := hR.free 2
  by_cases he : e = 0
  · subst he
    have ht := fun W (h : Rd W 1 A n c (bs l)) => take16 A n c (i : Int) hn W l h
    rw [takeR_tk 2 l i 0 (by omega) rfl] at ht
    unfold TkP
    by_cases hk : i + 2 ≤ l.length
    · have e1 : tk 2 l i 0 = (val ((l.drop i).take 2), i + 2, 0) := by unfold tk; rw [if_pos rfl, if_pos hk]
      rw [e1] at ht ⊢
      obtain ⟨v, hv⟩ : ∃ v, val ((l.drop i).take 2) = v := ⟨_, rfl⟩
      rw [hv] at ht ⊢
      dsimp only at ht ⊢
      rw [if_pos hk] at ht
      have HC : (((i + 2 : Nat)) : Int) = (i : Int) + 2 := by omega
      rw [HC] at ht
      have ht' := fun k => ht _ (hr.drewN k)
      clear hv e1 hk ht
      go_enter Try.func25, Try.ntmps25
      go_upto_region 3 with (fail)
      go_quiet (first | (go_at_call 33; refine Calls.quiet_of_same (Go.HL.flip_same (ht' _))))
      go_wp2
      go_ret
      refine ⟨rfl, ?_, ?_, ?_⟩
      · have h := ((hR.drewN nq).set 2 (.int .i64 0)).set 1 (.int .i64 ((i : Int) + 2))
        simpa [rdr] using h
      · exact grown_sets w R _ _ _ _ nq
      · simp [size_set', World.drewN]
    · have e1 : tk 2 l i 0 = (0, i, 6) := by unfold tk; rw [if_pos rfl, if_neg hk]
      rw [e1] at ht ⊢
      dsimp only at ht ⊢
      rw [if_neg hk] at ht
      have ht' := fun k => ht _ (hr.drewN k)
      clear e1 hk ht
      go_enter Try.func25, Try.ntmps25
      go_upto_region 3 with (fail)
      go_quiet (first | (go_at_call 33; refine Calls.quiet_of_same (Go.HL.flip_same (ht' _))))
      go_wp2
      go_ret
      refine ⟨rfl, ?_, ?_, ?_⟩
      · have h := (hR.drewN nq).set 2 (.int .i64 6)
        simpa [rdr] using h
      · exact grown_setd w R _ _ nq
      · simp [size_set', World.drewN]
  · have e1 : tk 2 l i e = (0, i, e) := by unfold tk; rw [if_neg he]
    unfold TkP
    rw [e1]
    have hne : (e != 0) = true := by simpa using he
    go_enter Try.func25, Try.ntmps25
    go_wp2
    go_ret
    exact ⟨rfl, hR, ⟨rfl, rfl, rfl, Nat.le_refl _, fun _ _ _ => rfl⟩, rfl⟩
set_option maxHeartbeats 1000000 in
theorem gtake4 (w : World) (R : Nat) (A : Option Addr) (n c : Nat) (l : List UInt8) (i : Nat) (e : Int) (hR : Blk w R 50 (rdr A n c i e)) (hr : Rd w 1 A n c (bs l)) (hn : n ≤ 140737488355328) (hi : i ≤ n) :
    Calls Try.prog 24 #[.pointer (some ⟨R, 0, none⟩)] w (TkP w R A n c l i e 4 .u32) := by
  have hl := hr.blen
  have c0 := hR.cell 0 _ rfl
  have c1 := hR.cell 1 _ rfl
  have c2 := hR.cell 2 _ rfl
  have f1 := hR.free 1
  have f2 := hR.free 2
  by_cases he : e = 0
  · subst he
    have ht := fun W (h : Rd W 1 A n c (bs l)) => take32 A n c (i : Int) hn W l h
    rw [takeR_tk 4 l i 0 (by omega) rfl] at ht
    unfold TkP
    by_cases hk : i + 4 ≤ l.length
    · have e1 : tk 4 l i 0 = (val ((l.drop i).take 4), i + 4, 0) := by unfold tk; rw [if_pos rfl, if_pos hk]
      rw [e1] at ht ⊢
      obtain ⟨v, hv⟩ : ∃ v, val ((l.drop i).take 4) = v := ⟨_, rfl⟩
      rw [hv] at ht ⊢
      dsimp only at ht ⊢
      rw [if_pos hk] at ht
      have HC : (((i + 4 : Nat)) : Int) = (i : Int) + 4 := by omega
      rw [HC] at ht
      have ht' := fun k => ht _ (hr.drewN k)
      clear hv e1 hk ht
      go_enter Try.func24, Try.ntmps24
      go_upto_region 3 with (fail)
      go_quiet (first | (go_at_call 32; refine Calls.quiet_of_same (Go.HL.flip_same (ht' _))))
      go_wp2
      go_ret
      refine ⟨rfl, ?_, ?_, ?_⟩
      · have h := ((hR.drewN nq).set 2 (.int .i64 0)).set 1 (.int .i64 ((i : Int) + 4))
        simpa [rdr] using h
      · exact grown_sets w R _ _ _ _ nq
      · simp [size_set', World.drewN]
    · have e1 : tk 4 l i 0 = (0, i, 6) := by unfold tk; rw [if_pos rfl, if_neg hk]
      rw [e1] at ht ⊢
      dsimp only at ht ⊢
      rw [if_neg hk] at ht
      have ht' := fun k => ht _ (hr.drewN k)
      clear e1 hk ht
      go_enter Try.func24, Try.ntmps24
      go_upto_region 3 with (fail)
      go_quiet (first | (go_at_call 32; refine Calls.quiet_of_same (Go.HL.flip_same (ht' _))))
      go_wp2
      go_ret
      refine ⟨rfl, ?_, ?_, ?_⟩
      · have h := (hR.drewN nq).set 2 (.int .i64 6)
        simpa [rdr] using h
      · exact grown_setd w R _ _ nq
      · simp [size_set', World.drewN]
  · have e1 : tk 4 l i e = (0, i, e) := by unfold tk; rw [if_neg he]
    unfold TkP
    rw [e1]
    have hne : (e != 0) = true := by simpa using he
    go_enter Try.func24, Try.ntmps24
    go_wp2
    go_ret
    exact ⟨rfl, hR, ⟨rfl, rfl, rfl, Nat.le_refl _, fun _ _ _ => rfl⟩, rfl⟩
/-- The first error, kept. -/
def msE (is : Bool) (er e : Int) : Int := if e = 0 then (if is then 0 else er) else e
def MustP (w : World) (R : Nat) (A : Option Addr) (n c : Nat) (i : Nat) (e' : Int) (ending : Ending) (w' : World) : Prop :=
  ending = .returned (.tuple #[]) ∧ Blk w' R 50 (rdr A n c i e') ∧ w.grownBy w' (some R) ∧ w'.heap.size = w.heap.size
theorem must_ (w : World) (R V : Nat) (A : Option Addr) (n c : Nat) (i : Nat) (e er : Int) (is : Bool) (hR : Blk w R 50 (rdr A n c i e)) (hV : Blk w V 48 [.pointer (some ⟨R, 0, none⟩)]) :
    Calls Try.prog 22 #[.bool is, .int .i64 er, .pointer (some ⟨V, 0, none⟩)] w (MustP w R A n c i (msE is er e)) := by
  have c2 := hR.cell 2 _ rfl
  have f2 := hR.free 2
  have v0 := hV.cell 0 _ rfl
  by_cases he : e = 0
  · subst he
    cases is with
    | true =>
      have e1 : msE true er 0 = 0 := rfl
      rw [e1]
      go_enter Try.func22, Try.ntmps22
      go_wp2
      exact bodyPost_ret (results_none rfl _ _ _) rfl ⟨rfl, hR, ⟨rfl, rfl, rfl, Nat.le_refl _, fun _ _ _ => rfl⟩, rfl⟩
    | false =>
      have e1 : msE false er 0 = er := rfl
      rw [e1]
      go_enter Try.func22, Try.ntmps22
      go_wp2
      exact bodyPost_ret (results_none rfl _ _ _) rfl ⟨rfl, by have h := hR.set 2 (.int .i64 er); simpa [rdr] using h, grown_set _ ⟨R, 2, none⟩ _, size_set' _ _ _⟩
  · have e1 : msE is er e = e := by unfold msE; rw [if_neg he]
    rw [e1]
    have hne : (e == 0) = false := by simpa using he
    go_enter Try.func22, Try.ntmps22
    go_wp2
    exact bodyPost_ret (results_none rfl _ _ _) rfl ⟨rfl, hR, ⟨rfl, rfl, rfl, Nat.le_refl _, fun _ _ _ => rfl⟩, rfl⟩
end Go.Proofs.Ytijpfhgcdncmhaa
