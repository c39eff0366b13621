/- stream: the iterator over whole messages. -/
import Derived.Test.YtmifnmnpihikgaaSB
import Derived.Test.YtmifnmnpihikgaaChecked
import Derived.RangeFuncNested
import Derived.Shelf.Abstract
import Derived.Shelf.RegionOpen
import Derived.OwnWalkIn
import Derived.TacticsInMore
import Derived.LoopNIn
import Derived.LoopIn
import Derived.ControlIn
import Derived.Deep.QuietTactic
import Derived.BigQuiet
import Derived.BigFrameIn
namespace Go.Proofs.Ytmifnmnpihikgaa
open Go.RowKit Go.HL Go.Shelf
set_option linter.unusedVariables false
set_option linter.unusedSimpArgs false
attribute [local go_sem] Oper.semAt_some

def leftW (wr : World) (R : Nat) : Nat := match wr.cell? ⟨R, 0, none⟩ with | some (.slice _ n _) => n | _ => 0
def encW (m : Ms) : Array Value := #[m.val]
/-- The first message is cut off: what is done of it. -/
structure J3 (w0 : World) (R : Nat) (v : Value) (d9 d12 : Bool) (W : World) : Prop where
  e : W = if d12 then w0.drew.setCell ⟨R, 0, none⟩ v else w0.drew
  o : d12 = true → d9 = true
def I3 (w0 : World) (R : Nat) (v : Value) : List Bool → World → Prop
  | [d9, d12], W => J3 w0 R v d9 d12 W
  | _, _ => False
section
variable {w0 W : World} {R V : Nat} {v u : Value} {d9 d12 : Bool} {T : TypeId}
theorem J3.w (h : J3 w0 R v d9 d12 W) (h12 : d12 = false) : W = w0.drew := by have := h.e; rw [h12] at this; exact this
theorem J3.n (h : J3 w0 R v d9 d12 W) (h9 : d9 = false) : d12 = false := by
  cases hd : d12 with
  | true => have := h.o hd; rw [h9] at this; cases this
  | false => rfl
theorem J3.r (h : J3 w0 R v d9 d12 W) (h9 : d9 = false) (hb : Boxed w0.drew R T u) : W.cell? ⟨R, 0, none⟩ = some u := by
  rw [h.w (h.n h9)]
  exact hb.cell
theorem J3.vv (h : J3 w0 R v d9 d12 W) (hb : Boxed w0.drew V T u) (hne : V ≠ R) : W.cell? ⟨V, 0, none⟩ = some u := by
  have he := h.e
  subst he
  cases d12 with
  | true => exact (hb.kept (grownBy_setCell' w0.drew R v) (by simpa using hne)).cell
  | false => exact hb.cell
theorem J3.s9 (h : J3 w0 R v d9 d12 W) (h9 : d9 = false) (h12 : d12 = false) : J3 w0 R v true d12 W := ⟨h.e, fun _ => rfl⟩
end
def w3c (V R : Nat) (a : Option Addr) (n c N K2 : Nat) : List (Option Value) :=
  [some (.pointer (some ⟨R, 0, none⟩)),
   some (.pointer (some ⟨R, 0, none⟩)),
   some (.pointer (some ⟨R, 0, none⟩)),
   some (.pointer (some ⟨R, 0, none⟩)),
   some (.slice a n c),
   some (.int .i64 2),
   some (.int .u16 (N : Int)),
   some (.int .i64 (N : Int)),
   some (.int .i64 (K2 : Int)),
   some (.slice (cutS a K2 c 1) (n - K2) (c - K2)),
   some (.pointer (some ⟨R, 0, none⟩)),
   some (.pointer (some ⟨R, 0, none⟩)),
   none]
def w3G (V R : Nat) (a : Option Addr) (n c N K2 : Nat) : Nat → Value → World → Prop
  -- ?? 12: slot None := store 26 t55 t53 
  | _, _, _ => True
set_option maxRecDepth 100000 in
set_option maxHeartbeats 4000000 in
theorem whole_iter (k : Nat) (hk : 1 ≤ k) (R V : Nat) (hVR : V ≠ R) (m0 : Ms) (hlen : m0.n ≤ 140737488355328) :
    IterM Fence.wide k Try.prog 27 #[.pointer (some ⟨V, 0, none⟩)] encW R 48 m0.val (cutA m0).2.val (cutA m0).1 (fun W => MsOk W m0 ∧ Boxed W V 24 (.pointer (some ⟨R, 0, none⟩))) := by
  intro l J W hM hJs hJd hY hW h0
  refine callsIn_of_wp Try.func27 rfl trivial ?_ rfl
  simp only [Try.ntmps27, List.size_toArray, List.length_cons, List.length_nil, Nat.reduceAdd, Nat.reduceSub, Array.replicate_succ, Array.replicate_zero, List.push_toArray, List.append_toArray, List.nil_append, List.cons_append]
  gi_wp2
  gi_loopw [3] (fun p wr => ∃ (pre : List Ms) (m : Ms), (cutA m0).1 = pre ++ (cutA m).1 ∧ (cutA m0).2 = (cutA m).2 ∧ (∀ W, MsOk W m0 → MsOk W m) ∧ Boxed wr R 48 m.val ∧ J pre wr ∧ m.n ≤ 140737488355328) (fun p wr => leftW wr R)
  case atStart => exact ⟨[], m0, rfl, rfl, fun _ h => h, hW, h0, hlen⟩
  case round =>
    obtain ⟨pre, m, hx, hx2, hmm, hb, hJ, hlen1⟩ := hrel
    obtain ⟨hm0, hv⟩ := hM _ _ hJ
    have hm := hmm _ hm0
    have hl := hm.len
    have hle := Rd.le hm
    have HX := Lib.hid hx
    have HX2 := Lib.hid hx2
    clear hx hx2
    have hcell := hb.cell
    have hcv := hv.cell
    unfold Ms.val at hcell
    have f28 : Fence.wide.fn 28 := trivial
    have ht := fun q => callsIn_wide (n := q).2 (take16 m.a m.n m.c 0 hlen1 wr m.l hm)
    by_cases h2 : m.l.length < 2
    · have hs : m.l.length < 2 ∨ m.l.length < 2 + nW m.l := .inl h2
      have e1 : takeR 2 m.l 0 = (0, 0, 6) := by unfold takeR; rw [if_neg (by omega), if_pos (by omega)]
      rw [e1] at ht
      have HT := Lib.hid ht
      clear ht e1
      gi_wp2_with (gi_at_call 28; refine (HT.out _).mono ?_; rintro e w' ⟨rfl, rfl⟩)
      refine bodyPost_ret (results_none rfl _ _ _) rfl ?_
      rw [HX2.out, cutA_small hs]
      refine ⟨⟨_, rfl⟩, ?_, hb⟩
      rw [HX.out, cutA_small hs, List.append_nil]
      exact hJ
    · have e1 : takeR 2 m.l 0 = ((nW m.l : Int), 2, 0) := by
        unfold takeR
        rw [if_neg (by omega), if_neg (by omega)]
        have := val_nonneg (m.l.take 2)
        simp only [Int.toNat_zero, List.drop_zero]
        rw [show (nW m.l : Int) = val (m.l.take 2) by unfold nW; omega]
        rfl
      rw [e1] at ht
      obtain ⟨N, hN⟩ : ∃ N, nW m.l = N := ⟨_, rfl⟩
      have hN2 := nW_lt m.l
      rw [hN] at ht hN2
      have HT := Lib.hid ht
      clear ht e1
      have hN3 : (N : Int) < 65536 := by omega
      by_cases h3 : m.l.length < 2 + N
      · have hs : m.l.length < 2 ∨ m.l.length < 2 + nW m.l := .inr (by omega)
        have h4 : (m.n : Int) - 2 < (N : Int) := by omega
        have HN := Lib.hid hN
        clear hN
        gi_wp2_with (gi_at_call 28; refine (HT.out _).mono ?_; rintro e w' ⟨rfl, rfl⟩)
        refine bodyPost_ret (results_none rfl _ _ _) rfl ?_
        rw [HX2.out, cutA_small hs]
        refine ⟨⟨_, rfl⟩, ?_, hb⟩
        rw [HX.out, cutA_small hs, List.append_nil]
        exact hJ
      · have hs : ¬ (m.l.length < 2 ∨ m.l.length < 2 + nW m.l) := by omega
        have h4 : ¬ ((m.n : Int) - 2 < (N : Int)) := by omega
        have HX3 := Lib.hid (cutA_step hs)
        have HN := Lib.hid hN
        obtain ⟨K2, hK2⟩ : ∃ K2, 2 + N = K2 := ⟨_, rfl⟩
        have hhd : m.hd.val = .slice (cutS m.a 2 K2 1) N N := by unfold Ms.hd Ms.val; rw [hN, hK2]
        have htl : m.tl.val = .slice (cutS m.a K2 m.c 1) (m.n - K2) (m.c - K2) := by unfold Ms.tl Ms.val; rw [hN, hK2]
        have hK : (2 : Int) + (N : Int) = (K2 : Int) := by omega
        have HH := Lib.hid (And.intro hhd htl)
        have HK2 := Lib.hid hK2
        clear hN hhd htl hK2
        have hsl : ∀ W : World, (Instr.sliceAt 26 (.slice m.a m.n m.c) (some (.int .i64 2)) (some (.int .i64 (K2 : Int))) (some (.int .i64 (K2 : Int)))).run Try.prog W = .ok (.slice (cutS m.a 2 K2 1) N N) W := fun W => by
          have h := (run_sliceAt_slice (P := Try.prog) W 26 (.slice m.a m.n m.c) (some (.int .i64 2)) (some (.int .i64 (K2 : Int))) (some (.int .i64 (K2 : Int))) Try.underlying26).trans (run_cut3 (P := Try.prog) Try.underlying26 (size := 1) (by kernel_rfl) m.a m.n m.c .i64 .i64 .i64 2 (K2 : Int) (K2 : Int) 2 N K2 rfl (by omega) rfl (by have := HK2.out; omega) (by have := HK2.out; omega) W)
          rw [show K2 - 2 = N by have := HK2.out; omega] at h
          exact h
        have hkc : K2 ≤ m.c := by have := HK2.out; omega
        have hkn : K2 ≤ m.n := by have := HK2.out; omega
        have hN4 : (N : Int) ≤ m.n := by omega
        clear hN2 hN3
        gi_wp2_with (gi_at_call 28; refine (HT.out _).mono ?_; rintro e w' ⟨rfl, rfl⟩)
        have hbv : Boxed wr.drew V 24 (.pointer (some ⟨R, 0, none⟩)) := hv
        have hbr : Boxed wr.drew R 48 (.slice m.a m.n m.c) := hb
        obtain ⟨w0, rfl⟩ : ∃ x, x = wr := ⟨_, rfl⟩
        clear hsl hcell hcv h4
        have hwr : IntKind.i64.wrap (N : Int) = (N : Int) := by rw [IntKind.wrap_i64]; omega
        have hwk : IntKind.i64.wrap (K2 : Int) = (K2 : Int) := by rw [IntKind.wrap_i64]; omega
        refine wpIn_region_loud (by kernel_rfl) (by kernel_rfl) ?fr_w3 ?hfr_w3 [9, 12] (VV (w3c V R m.a m.n m.c N K2) (w3G V R m.a m.n m.c N K2)) (I3 w0 R (.slice (cutS m.a K2 m.c 1) (m.n - K2) (m.c - K2))) ?h0_w3 ?hob_w3 ?hQ_w3 (by decide)
        case hfr_w3 =>
          intro xs
          simp only [fillL]
          go_simp
          exact rfl
        case h0_w3 =>
          exact ⟨rfl, fun h => by cases h⟩
        case hob_w3 =>
          refine ⟨?_, ?_, ?_, ?_, ?_, ?_, ?_, ?_, ?_, ?_, ?_, ?_, ?_, trivial⟩
          · -- 0: slot 44 := load 24 t1
            intro xs d W hd hn hI hV
            have hJ : I3 w0 R (.slice (cutS m.a K2 m.c 1) (m.n - K2) (m.c - K2)) [d 9, d 12] W := hI
            have cv := hJ.vv hbv hVR
            rw [if_neg (by decide)]
            clear hV hd hn hI
            go_simp
            exact rfl
          · -- 1: slot 45 := load 24 t1
            intro xs d W hd hn hI hV
            have hJ : I3 w0 R (.slice (cutS m.a K2 m.c 1) (m.n - K2) (m.c - K2)) [d 9, d 12] W := hI
            have cv := hJ.vv hbv hVR
            rw [if_neg (by decide)]
            clear hV hd hn hI
            go_simp
            exact rfl
          · -- 2: slot 46 := nilCheck t45
            intro xs d W hd hn hI hV
            have x1 : xs 1 = .pointer (some ⟨R, 0, none⟩) := hV 1 (hd 1 (by decide))
            have hJ : I3 w0 R (.slice (cutS m.a K2 m.c 1) (m.n - K2) (m.c - K2)) [d 9, d 12] W := hI
            have cv := hJ.vv hbv hVR
            rw [if_neg (by decide)]
            clear hV hd hn hI
            go_simp
            exact rfl
          · -- 3: slot 47 := fieldAddr 48 t46 0
            intro xs d W hd hn hI hV
            have x2 : xs 2 = .pointer (some ⟨R, 0, none⟩) := hV 2 (hd 2 (by decide))
            have hJ : I3 w0 R (.slice (cutS m.a K2 m.c 1) (m.n - K2) (m.c - K2)) [d 9, d 12] W := hI
            have cv := hJ.vv hbv hVR
            rw [if_neg (by decide)]
            clear hV hd hn hI
            go_simp
            exact rfl
          · -- 4: slot 48 := load 26 t47
            intro xs d W hd hn hI hV
            have x3 : xs 3 = .pointer (some ⟨R, 0, none⟩) := hV 3 (hd 3 (by decide))
            have hJ : I3 w0 R (.slice (cutS m.a K2 m.c 1) (m.n - K2) (m.c - K2)) [d 9, d 12] W := hI
            have cv := hJ.vv hbv hVR
            have hd9 : d 9 = false := hn 9 _ rfl (by decide)
            have cw := hJ.r hd9 hbr
            rw [if_neg (by decide)]
            clear hV hd hn hI
            go_simp
            exact rfl
          · -- 5: slot 49 := move t4
            intro xs d W hd hn hI hV
            have hJ : I3 w0 R (.slice (cutS m.a K2 m.c 1) (m.n - K2) (m.c - K2)) [d 9, d 12] W := hI
            have cv := hJ.vv hbv hVR
            rw [if_neg (by decide)]
            clear hV hd hn hI
            go_simp
            exact rfl
          · -- 6: slot 50 := move t3
            intro xs d W hd hn hI hV
            have hJ : I3 w0 R (.slice (cutS m.a K2 m.c 1) (m.n - K2) (m.c - K2)) [d 9, d 12] W := hI
            have cv := hJ.vv hbv hVR
            rw [if_neg (by decide)]
            clear hV hd hn hI
            go_simp
            exact rfl
          · -- 7: slot 51 := convert 39 3 t50
            intro xs d W hd hn hI hV
            have x6 : xs 6 = .int .u16 (N : Int) := hV 6 (hd 6 (by decide))
            have hJ : I3 w0 R (.slice (cutS m.a K2 m.c 1) (m.n - K2) (m.c - K2)) [d 9, d 12] W := hI
            have cv := hJ.vv hbv hVR
            rw [if_neg (by decide)]
            clear hV hd hn hI
            go_simp
            exact rfl
          · -- 8: slot 52 := binOp BinOp.add 3 t49 t51 3
            intro xs d W hd hn hI hV
            have x5 : xs 5 = .int .i64 2 := hV 5 (hd 5 (by decide))
            have x7 : xs 7 = .int .i64 (N : Int) := hV 7 (hd 7 (by decide))
            have hJ : I3 w0 R (.slice (cutS m.a K2 m.c 1) (m.n - K2) (m.c - K2)) [d 9, d 12] W := hI
            have cv := hJ.vv hbv hVR
            rw [if_neg (by decide)]
            clear hV hd hn hI
            go_simp
            exact rfl
          · -- 9: slot 53 := slice 26 t48 (some t52) none none
            intro xs d W hd hn hI hV
            have x4 : xs 4 = .slice m.a m.n m.c := hV 4 (hd 4 (by decide))
            have x8 : xs 8 = .int .i64 (K2 : Int) := hV 8 (hd 8 (by decide))
            rw [if_pos (by decide)]
            intro hd9
            have hJ : I3 w0 R (.slice (cutS m.a K2 m.c 1) (m.n - K2) (m.c - K2)) [d 9, d 12] W := hI
            have hd12 : d 12 = false := hn 12 _ rfl (by decide)
            have hV' := hV
            clear hV hn hd hI
            refine ⟨?_, rfl⟩
            refine givesIn_cutL (size := 1) 26 5 _ _ rfl Try.underlying26 (by kernel_rfl) m.a m.n m.c x4 x8 K2 (by omega) (by omega) ?_
            exact ⟨hJ.s9 hd9 hd12, rfl, fun j hj => (hV' j hj).any (fun _ _ _ _ _ => trivial)⟩
          · -- 10: slot 54 := nilCheck t44
            intro xs d W hd hn hI hV
            have x0 : xs 0 = .pointer (some ⟨R, 0, none⟩) := hV 0 (hd 0 (by decide))
            have hJ : I3 w0 R (.slice (cutS m.a K2 m.c 1) (m.n - K2) (m.c - K2)) [d 9, d 12] W := hI
            have cv := hJ.vv hbv hVR
            rw [if_neg (by decide)]
            clear hV hd hn hI
            go_simp
            exact rfl
          · -- 11: slot 55 := fieldAddr 48 t54 0
            intro xs d W hd hn hI hV
            have x10 : xs 10 = .pointer (some ⟨R, 0, none⟩) := hV 10 (hd 10 (by decide))
            have hJ : I3 w0 R (.slice (cutS m.a K2 m.c 1) (m.n - K2) (m.c - K2)) [d 9, d 12] W := hI
            have cv := hJ.vv hbv hVR
            rw [if_neg (by decide)]
            clear hV hd hn hI
            go_simp
            exact rfl
          · -- 12: slot None := store 26 t55 t53
            intro xs d W hd hn hI hV
            have x9 : xs 9 = .slice (cutS m.a K2 m.c 1) (m.n - K2) (m.c - K2) := hV 9 (hd 9 (by decide))
            have x11 : xs 11 = .pointer (some ⟨R, 0, none⟩) := hV 11 (hd 11 (by decide))
            rw [if_pos (by decide)]
            intro hd12
            have hJ : I3 w0 R (.slice (cutS m.a K2 m.c 1) (m.n - K2) (m.c - K2)) [d 9, d 12] W := hI
            have hd9 : d 9 = true := hd 9 (by decide)
            have hV' := hV
            have hW := hJ.w hd12
            subst hW
            have cw := hbr.cell
            have fw := hbr.frozen
            clear hV hn hd hI
            go_simp
            exact ⟨⟨by show _ = if true then _ else _; rfl, fun _ => hd9⟩, trivial, fun j hj => (hV' j hj).any (fun _ _ _ _ _ => trivial)⟩
        case hQ_w3 =>
          intro xs W hI hV
          have x0 : xs 0 = .pointer (some ⟨R, 0, none⟩) := hV 0 (by decide)
          have x1 : xs 1 = .pointer (some ⟨R, 0, none⟩) := hV 1 (by decide)
          have x2 : xs 2 = .pointer (some ⟨R, 0, none⟩) := hV 2 (by decide)
          have x3 : xs 3 = .pointer (some ⟨R, 0, none⟩) := hV 3 (by decide)
          have x4 : xs 4 = .slice m.a m.n m.c := hV 4 (by decide)
          have x5 : xs 5 = .int .i64 2 := hV 5 (by decide)
          have x6 : xs 6 = .int .u16 (N : Int) := hV 6 (by decide)
          have x7 : xs 7 = .int .i64 (N : Int) := hV 7 (by decide)
          have x8 : xs 8 = .int .i64 (K2 : Int) := hV 8 (by decide)
          have x9 : xs 9 = .slice (cutS m.a K2 m.c 1) (m.n - K2) (m.c - K2) := hV 9 (by decide)
          have x10 : xs 10 = .pointer (some ⟨R, 0, none⟩) := hV 10 (by decide)
          have x11 : xs 11 = .pointer (some ⟨R, 0, none⟩) := hV 11 (by decide)
          have x12 : w3G V R m.a m.n m.c N K2 12 (xs 12) W := hV 12 (by decide)
          clear hV
          have hJ3 : J3 w0 R (.slice (cutS m.a K2 m.c 1) (m.n - K2) (m.c - K2)) true true W := hI
          have hW3 : W = w0.drew.setCell ⟨R, 0, none⟩ (.slice (cutS m.a K2 m.c 1) (m.n - K2) (m.c - K2)) := hJ3.e
          have hJW : J pre W := by rw [hW3]; exact hJs _ _ _ (hJd _ _ hJ)
          have hbW : Boxed W R 48 (.slice (cutS m.a K2 m.c 1) (m.n - K2) (m.c - K2)) := by rw [hW3]; exact hbr.set _
          obtain ⟨fn, tmps, assign, body, hy, hR⟩ := hY pre m.hd W hJW ⟨(cutA m.tl).1, by rw [HX.out, HX3.out]; simp⟩
          unfold encW at hy
          rw [HH.out.1] at hy
          clear x0 x1 x2 x3 x4 x5 x6 x7 x8 x9 x10 x11 x12 hI hY h0 hW3 hJ3 hbv hbr hwr hwk hK
          gi_wp2
          refine hR.mono ?_
          rintro e W' ⟨rfl, hJ', hk'⟩
          have hbW' := hk' _ hbW
          have hl0 : leftW w0 R = m.n := by unfold leftW; rw [hb.cell]; rfl
          gi_wp2
          go_roundw
          case rel =>
            refine ⟨pre ++ [m.hd], m.tl, by rw [HX.out, HX3.out]; simp, by rw [HX2.out, HX3.out], fun W hm0 => (hmm W hm0).tl hs, by rw [HH.out.2]; exact hbW', hJ', ?_⟩
            show m.n - (2 + nW m.l) ≤ 140737488355328
            omega
          case measure =>
            rw [hl0]
            unfold leftW
            rw [hbW'.cell]
            have := HK2.out
            simp only
            omega
end Go.Proofs.Ytmifnmnpihikgaa
