/- edns: each's iterator. -/
import Derived.Test.YtdgdgioenfglnaaChecked
import Derived.Test.YtdgdgioenfglnaaRF
import Derived.RangeFuncNested
import Derived.Shelf.Abstract
import Derived.Shelf.RegionOpen
import Derived.OwnWalkIn
import Derived.TacticsInMore
import Derived.LoopNIn
import Derived.LoopIn
import Derived.ControlIn
import Derived.Deep.QuietTactic
import Derived.BigQuiet
namespace Go.Proofs.Ytdgdgioenfglnaa
open Go.RowKit Go.HL Go.Shelf
set_option linter.unusedVariables false
set_option linter.unusedSimpArgs false
attribute [local go_sem] Oper.semAt_some

def leftE (wr : World) (Bs : Nat) : Nat := match wr.cell? ⟨Bs, 0, none⟩ with | some (.string s) => s.size | _ => 0
def encE (x : Int × ByteArray) : Array Value := #[.int .u16 x.1, .string x.2]
def gb (s : ByteArray) (i : Nat) : Nat := (s.data.toList.getD i 0).toNat
def nOf (s : ByteArray) : Nat := 256 * gb s 2 + gb s 3
def kOf (s : ByteArray) : Nat := 256 * gb s 0 + gb s 1
def chain : Nat → ByteArray → List (Int × ByteArray) × ByteArray
  | 0, s => ([], s)
  | k + 1, s => if s.size < 4 ∨ s.size < 4 + nOf s then ([], s) else (((kOf s : Int), s.extract 4 (4 + nOf s)) :: (chain k (s.extract (4 + nOf s) s.size)).1, (chain k (s.extract (4 + nOf s) s.size)).2)

theorem idx_gb {P : Program} (t : TypeId) (ht : P.underlying t = some .string) (k : IntKind) (z : Int) (i : Nat) (hz : z = (i : Int)) (s : ByteArray) (hi : i < s.size) (w : World) :
    (Instr.index t (.string s) (.int k z)).run P w = .ok (.int .u8 (gb s i : Int)) w := by
  subst hz
  rw [run_index_string w t s k _ ht, dif_pos ⟨by omega, by omega⟩]
  have e : ((i : Int)).toNat = i := by omega
  simp only [e]
  have h' : i < s.data.toList.length := by simpa using hi
  rw [gb, List.getD_eq_getElem?_getD, List.getElem?_eq_getElem h']
  rfl
theorem gb_lt (s : ByteArray) (i : Nat) : gb s i < 256 := UInt8.toNat_lt _
theorem or_64 (x y : Nat) (hx : x < 256) (hy : y < 256) : bits .or .i64 ((x : Int) * 256) (y : Int) = ((256 * x + y : Nat) : Int) := by
  rw [bits_join .i64 32 (by decide) (fun n h0 h1 => by rw [IntKind.wrap_i64]; omega) 8 _ _ (by omega) (by omega) (by omega) (by omega) (by omega) (by omega)]
  omega
theorem or_16 (x y : Nat) (hx : x < 256) (hy : y < 256) : bits .or .u16 ((x : Int) * 256) (y : Int) = ((256 * x + y : Nat) : Int) := by
  rw [bits_join .u16 16 (by decide) (fun n h0 h1 => wraps_u16 n h0 h1) 8 _ _ (by omega) (by omega) (by omega) (by omega) (by omega) (by omega)]
  omega

def e2c (l Bs N : Nat) (s1 : ByteArray) : List (Option Value) :=
  [some (.string s1),
   some (.int .i64 (s1.size : Int)),
   some (.int .i64 ((s1.size : Int) - 4)),
   some (.int .i64 (N : Int)),
   some (.bool false),
   some (.bool false),
   some (.func (.yield l) #[] #[]),
   some (.string s1),
   some (.int .u8 (gb s1 0 : Int)),
   some (.int .u16 (gb s1 0 : Int)),
   some (.int .u16 ((gb s1 0 : Int) * 256)),
   some (.string s1),
   some (.int .u8 (gb s1 1 : Int)),
   some (.int .u16 (gb s1 1 : Int)),
   some (.int .u16 (kOf s1 : Int)),
   some (.string s1),
   some (.int .i64 (N : Int)),
   some (.int .i64 (4 + (N : Int))),
   some (.string (s1.extract 4 (4 + N))),
   some (.bool true),
   some (.bool false),
   some (.bool false)]
def e2G (l Bs N : Nat) (s1 : ByteArray) : Nat → Value → World → Prop
  | _, _, _ => True
theorem drewN_of {J : List (Int × ByteArray) → World → Prop} {pre : List (Int × ByteArray)} (h : ∀ pre W1, J pre W1 → J pre W1.drew) {W : World} (h0 : J pre W) : ∀ k, J pre (W.drewN k)
  | 0 => h0
  | k + 1 => h _ _ (drewN_of h h0 k)
def iE (Bs : Nat) (s1 : ByteArray) (pre : List (Int × ByteArray)) (x : Int × ByteArray) (J : List (Int × ByteArray) → World → Prop) (ls : List Bool) (W : World) : Prop :=
  Boxed W Bs 9 (.string s1) ∧ J (if ls = [true] then pre ++ [x] else pre) W
theorem chain_fuel : ∀ (k : Nat) (s : ByteArray), s.size ≤ k → chain k s = chain s.size s := by
  intro k
  induction k using Nat.strongRecOn with
  | ind k ih =>
    intro s hs
    cases k with
    | zero => rw [show s.size = 0 by omega]
    | succ k =>
      by_cases h : s.size < 4 ∨ s.size < 4 + nOf s
      · have e1 : chain (k + 1) s = ([], s) := by simp only [chain]; rw [if_pos h]
        rw [e1]
        cases hz : s.size with
        | zero => rfl
        | succ m => simp only [chain]; rw [if_pos h]
      · obtain ⟨m, hm⟩ : ∃ m, s.size = m + 1 := ⟨s.size - 1, by omega⟩
        have hsz : (s.extract (4 + nOf s) s.size).size = s.size - (4 + nOf s) := by rw [ByteArray.size_extract]; omega
        rw [hm] at h ⊢
        simp only [chain]
        rw [← hm] at h
        rw [if_neg h, if_neg h, ih k (by omega) _ (by omega), ih m (by omega) _ (by omega)]

set_option maxHeartbeats 4000000 in
theorem each_iter (n : Nat) (hn : 1 ≤ n) (Bs : Nat) (s : ByteArray) (hlen : s.size ≤ 140737488351232) : IterC Fence.wide n Try.prog 27 #[.pointer (some ⟨Bs, 0, none⟩)] encE Bs 9 (.string s) (chain s.size s).1 := by
  intro l J W hJs hJd hY hW h0
  refine callsIn_of_wp Try.func27 rfl trivial ?_ rfl
  simp only [Try.ntmps27, List.size_toArray, List.length_cons, List.length_nil, Nat.reduceAdd, Nat.reduceSub, Array.replicate_succ, Array.replicate_zero, List.push_toArray, List.append_toArray, List.nil_append, List.cons_append]
  gi_wp2
  gi_loopw [3] (fun p wr => ∃ (pre : List (Int × ByteArray)) (s1 : ByteArray), (chain s.size s).1 = pre ++ (chain s1.size s1).1 ∧ Boxed wr Bs 9 (.string s1) ∧ J pre wr ∧ s1.size ≤ 140737488351232) (fun p wr => leftE wr Bs)
  case atStart => exact ⟨[], s, rfl, hW, h0, hlen⟩
  case round =>
    obtain ⟨pre, s1, hx, hb, hJ, hlen1⟩ := hrel
    have hc := hb.cell
    have hf := hb.frozen
    by_cases h4 : s1.size < 4
    · have h5 : (s1.size : Int) < 4 := by omega
      have e0 : (chain s1.size s1).1 = [] := by
        cases hz : s1.size with
        | zero => rfl
        | succ m => simp only [chain]; rw [if_pos (.inl h4)]
      rw [e0, List.append_nil] at hx
      gi_wp2
      go_end0
      exact ⟨⟨_, rfl⟩, by rw [hx]; exact hJ⟩
    · have h5 : ¬ ((s1.size : Int) < 4) := by omega
      have i0 := fun W => idx_gb (P := Try.prog) 9 Try.underlying9 .i64 0 0 rfl s1 (by omega) W
      have i1 := fun W => idx_gb (P := Try.prog) 9 Try.underlying9 .i64 1 1 rfl s1 (by omega) W
      have i2 := fun W => idx_gb (P := Try.prog) 9 Try.underlying9 .i64 2 2 rfl s1 (by omega) W
      have i3 := fun W => idx_gb (P := Try.prog) 9 Try.underlying9 .i64 3 3 rfl s1 (by omega) W
      have g0 := gb_lt s1 0
      have g1 := gb_lt s1 1
      have g2 := gb_lt s1 2
      have g3 := gb_lt s1 3
      have hor := or_64 (gb s1 2) (gb s1 3) g2 g3
      have hor1 := or_16 (gb s1 0) (gb s1 1) g0 g1
      gi_wp2
      refine wpIn_wide.2 ?_
      go_quiet (fail)
      have eN : (256 * (gb s1 2 : Int) + (gb s1 3 : Int)) = ((nOf s1 : Nat) : Int) := by unfold nOf; omega
      rw [eN]
      have hJq : J pre (wr.drewN nq) := by
        clear eN hor hor1
        induction nq with
        | zero => exact hJ
        | succ k ih => exact hJd _ _ ih
      have hb1 : Boxed ((wr.drewN nq)).drew Bs 9 (.string s1) := hb
      clear i2 i3 hor eN
      obtain ⟨N, hN⟩ : ∃ N, nOf s1 = N := ⟨_, rfl⟩
      rw [hN]
      have hw1 : IntKind.i64.wrap ((s1.size : Int) - 4) = (s1.size : Int) - 4 := by rw [IntKind.wrap_i64]; omega
      have hw2 : IntKind.u16.wrap (gb s1 0 : Int) = (gb s1 0 : Int) := by rw [IntKind.wrap_u16]; omega
      have hw3 : IntKind.u16.wrap ((gb s1 0 : Int) * 256) = (gb s1 0 : Int) * 256 := by rw [IntKind.wrap_u16]; omega
      have hw4 : IntKind.u16.wrap (gb s1 1 : Int) = (gb s1 1 : Int) := by rw [IntKind.wrap_u16]; omega
      by_cases hs : s1.size < 4 + N
      · have e0 : (chain s1.size s1).1 = [] := by
          obtain ⟨m, hm⟩ : ∃ m, s1.size = m + 1 := ⟨s1.size - 1, by omega⟩
          rw [hm]
          simp only [chain]
          rw [if_pos (.inr (by omega))]
        rw [e0, List.append_nil] at hx
        have hs2 : (s1.size : Int) - 4 < (N : Int) := by omega
        have hd2 : decide ((s1.size : Int) - 4 < (N : Int)) = true := decide_eq_true hs2
        gi_wp2
        refine wpIn_wide.2 ?_
        go_quiet (fail)
        gi_wp2
        refine bodyPost_ret (results_none rfl _ _ _) rfl ?_
        exact ⟨⟨_, rfl⟩, by rw [hx]; exact drewN_of hJd hJq _⟩
      · have hs2 : ¬ ((s1.size : Int) - 4 < (N : Int)) := by omega
        have hs3 : ((s1.size : Int) - 4 < (N : Int)) = False := by simp; omega
        have hsz : (s1.extract (4 + N) s1.size).size = s1.size - (4 + N) := by rw [ByteArray.size_extract]; omega
        have e0 : (chain s1.size s1).1 = ((kOf s1 : Int), s1.extract 4 (4 + N)) :: (chain (s1.extract (4 + N) s1.size).size (s1.extract (4 + N) s1.size)).1 := by
          obtain ⟨m, hm⟩ : ∃ m, s1.size = m + 1 := ⟨s1.size - 1, by omega⟩
          have h9 : ¬ (s1.size < 4 ∨ s1.size < 4 + nOf s1) := by omega
          conv => lhs; rw [hm]
          simp only [chain]
          rw [if_neg h9, hN, chain_fuel m _ (by omega)]
        rw [e0] at hx
        have hpre : pre ++ [((kOf s1 : Int), s1.extract 4 (4 + N))] <+: (chain s.size s).1 := by
          rw [hx]
          exact ⟨(chain (s1.extract (4 + N) s1.size).size (s1.extract (4 + N) s1.size)).1, by simp⟩
        have hw5 : IntKind.i64.wrap (4 + (N : Int)) = 4 + (N : Int) := by rw [IntKind.wrap_i64]; omega
        have h6 : 4 + (N : Int) ≤ (s1.size : Int) := by omega
        have h7 : (0 : Int) ≤ 4 + (N : Int) := by omega
        have h8 : (4 : Int) ≤ 4 + (N : Int) := by omega
        have ht : (4 + (N : Int)).toNat = 4 + N := by omega
        have ek : (256 * (gb s1 0 : Int) + (gb s1 1 : Int)) = ((kOf s1 : Nat) : Int) := by unfold kOf; omega
        gi_wp2
        refine wpIn_region_loud (by kernel_rfl) (by kernel_rfl) ?fr_e2 ?hfr_e2 [19] (VV (e2c l Bs N s1) (e2G l Bs N s1)) (iE Bs s1 pre ((kOf s1 : Int), s1.extract 4 (4 + N)) J) ?h0_e2 ?hob_e2 ?hQ_e2 (by decide)
        case hfr_e2 =>
          intro xs
          simp only [fillL]
          go_simp
          exact rfl
        case h0_e2 =>
          exact ⟨hb1, hJd _ _ hJq⟩
        case hob_e2 =>
          refine ⟨?_, ?_, ?_, ?_, ?_, ?_, ?_, ?_, ?_, ?_, ?_, ?_, ?_, ?_, ?_, ?_, ?_, ?_, ?_, ?_, ?_, ?_, trivial⟩
          · -- 0: slot 15 := load 9 t1
            intro xs d W hd hn hI hV
            have hc := hI.1.cell
            rw [if_neg (by decide)]
            clear hV hd hn hI
            go_simp
            exact rfl
          · -- 1: slot 16 := call { builtin len, args := #[t15], argTypes := #[9] }
            intro xs d W hd hn hI hV
            have x0 : xs 0 = .string s1 := hV 0 (hd 0 (by decide))
            have hc := hI.1.cell
            rw [if_neg (by decide)]
            clear hV hd hn hI
            go_simp
            exact rfl
          · -- 2: slot 17 := binOp BinOp.sub 3 t16 (const (4:i64)) 3
            intro xs d W hd hn hI hV
            have x1 : xs 1 = .int .i64 (s1.size : Int) := hV 1 (hd 1 (by decide))
            have hc := hI.1.cell
            rw [if_neg (by decide)]
            clear hV hd hn hI
            go_simp
            exact rfl
          · -- 3: slot 18 := move t3
            intro xs d W hd hn hI hV
            have hc := hI.1.cell
            rw [if_neg (by decide)]
            clear hV hd hn hI
            go_simp
            exact rfl
          · -- 4: slot 19 := binOp BinOp.lss 3 t17 t18 3
            intro xs d W hd hn hI hV
            have x2 : xs 2 = .int .i64 ((s1.size : Int) - 4) := hV 2 (hd 2 (by decide))
            have x3 : xs 3 = .int .i64 (N : Int) := hV 3 (hd 3 (by decide))
            have hc := hI.1.cell
            rw [if_neg (by decide)]
            clear hV hd hn hI
            go_simp
            exact rfl
          · -- 5: slot 20 := move t19
            intro xs d W hd hn hI hV
            have x4 : xs 4 = .bool false := hV 4 (hd 4 (by decide))
            have hc := hI.1.cell
            rw [if_neg (by decide)]
            clear hV hd hn hI
            go_simp
            exact rfl
          · -- 6: slot 21 := move t0
            intro xs d W hd hn hI hV
            have x5 : xs 5 = .bool false := hV 5 (hd 5 (by decide))
            have hc := hI.1.cell
            rw [if_neg (by decide)]
            clear hV hd hn hI
            go_simp
            exact rfl
          · -- 7: slot 22 := load 9 t1
            intro xs d W hd hn hI hV
            have x5 : xs 5 = .bool false := hV 5 (hd 5 (by decide))
            have hc := hI.1.cell
            rw [if_neg (by decide)]
            clear hV hd hn hI
            go_simp
            exact rfl
          · -- 8: slot 23 := index 9 t22 (const (0:i64))
            intro xs d W hd hn hI hV
            have x7 : xs 7 = .string s1 := hV 7 (hd 7 (by decide))
            have x5 : xs 5 = .bool false := hV 5 (hd 5 (by decide))
            have hc := hI.1.cell
            rw [if_neg (by decide)]
            clear hV hd hn hI
            go_simp
            exact rfl
          · -- 9: slot 24 := convert 5 22 t23
            intro xs d W hd hn hI hV
            have x8 : xs 8 = .int .u8 (gb s1 0 : Int) := hV 8 (hd 8 (by decide))
            have x5 : xs 5 = .bool false := hV 5 (hd 5 (by decide))
            have hc := hI.1.cell
            rw [if_neg (by decide)]
            clear hV hd hn hI
            go_simp
            exact rfl
          · -- 10: slot 25 := binOp BinOp.shl 22 t24 (const (8:u64)) 53
            intro xs d W hd hn hI hV
            have x9 : xs 9 = .int .u16 (gb s1 0 : Int) := hV 9 (hd 9 (by decide))
            have x5 : xs 5 = .bool false := hV 5 (hd 5 (by decide))
            have hc := hI.1.cell
            rw [if_neg (by decide)]
            clear hV hd hn hI
            go_simp
            exact rfl
          · -- 11: slot 26 := load 9 t1
            intro xs d W hd hn hI hV
            have x5 : xs 5 = .bool false := hV 5 (hd 5 (by decide))
            have hc := hI.1.cell
            rw [if_neg (by decide)]
            clear hV hd hn hI
            go_simp
            exact rfl
          · -- 12: slot 27 := index 9 t26 (const (1:i64))
            intro xs d W hd hn hI hV
            have x11 : xs 11 = .string s1 := hV 11 (hd 11 (by decide))
            have x5 : xs 5 = .bool false := hV 5 (hd 5 (by decide))
            have hc := hI.1.cell
            rw [if_neg (by decide)]
            clear hV hd hn hI
            go_simp
            exact rfl
          · -- 13: slot 28 := convert 5 22 t27
            intro xs d W hd hn hI hV
            have x12 : xs 12 = .int .u8 (gb s1 1 : Int) := hV 12 (hd 12 (by decide))
            have x5 : xs 5 = .bool false := hV 5 (hd 5 (by decide))
            have hc := hI.1.cell
            rw [if_neg (by decide)]
            clear hV hd hn hI
            go_simp
            exact rfl
          · -- 14: slot 29 := binOp BinOp.or 22 t25 t28 22
            intro xs d W hd hn hI hV
            have x10 : xs 10 = .int .u16 ((gb s1 0 : Int) * 256) := hV 10 (hd 10 (by decide))
            have x13 : xs 13 = .int .u16 (gb s1 1 : Int) := hV 13 (hd 13 (by decide))
            have x5 : xs 5 = .bool false := hV 5 (hd 5 (by decide))
            have hc := hI.1.cell
            rw [if_neg (by decide)]
            clear hV hd hn hI
            go_simp
            exact rfl
          · -- 15: slot 30 := load 9 t1
            intro xs d W hd hn hI hV
            have x5 : xs 5 = .bool false := hV 5 (hd 5 (by decide))
            have hc := hI.1.cell
            rw [if_neg (by decide)]
            clear hV hd hn hI
            go_simp
            exact rfl
          · -- 16: slot 31 := move t3
            intro xs d W hd hn hI hV
            have x5 : xs 5 = .bool false := hV 5 (hd 5 (by decide))
            have hc := hI.1.cell
            rw [if_neg (by decide)]
            clear hV hd hn hI
            go_simp
            exact rfl
          · -- 17: slot 32 := binOp BinOp.add 3 (const (4:i64)) t31 3
            intro xs d W hd hn hI hV
            have x16 : xs 16 = .int .i64 (N : Int) := hV 16 (hd 16 (by decide))
            have x5 : xs 5 = .bool false := hV 5 (hd 5 (by decide))
            have hc := hI.1.cell
            rw [if_neg (by decide)]
            clear hV hd hn hI
            go_simp
            exact rfl
          · -- 18: slot 33 := slice 9 t30 (some (const (4:i64))) (some t32) none
            intro xs d W hd hn hI hV
            have x15 : xs 15 = .string s1 := hV 15 (hd 15 (by decide))
            have x17 : xs 17 = .int .i64 (4 + (N : Int)) := hV 17 (hd 17 (by decide))
            have x5 : xs 5 = .bool false := hV 5 (hd 5 (by decide))
            have hc := hI.1.cell
            rw [if_neg (by decide)]
            clear hV hd hn hI
            go_simp
            exact rfl
          · -- 19: slot 34 := call { value t21, args := #[t29, t33], argTypes := #[22, 9] }
            intro xs d W hd hn hI hV
            have x6 : xs 6 = .func (.yield l) #[] #[] := hV 6 (hd 6 (by decide))
            have x14 : xs 14 = .int .u16 (kOf s1 : Int) := hV 14 (hd 14 (by decide))
            have x18 : xs 18 = .string (s1.extract 4 (4 + N)) := hV 18 (hd 18 (by decide))
            have x5 : xs 5 = .bool false := hV 5 (hd 5 (by decide))
            rw [if_pos (by decide)]
            intro hd19
            have hJW : J pre W := by have := hI.2; simpa [hd19] using this
            obtain ⟨fn, tmps, assign, body, hy, hR⟩ := hY pre _ W hJW hpre
            dsimp only [encE] at hy
            have hbW := hI.1
            have hV' := hV
            clear hV hn hd hI
            go_simp
            refine hR.mono ?_
            rintro e W' ⟨rfl, hJ', hk⟩
            exact ⟨_, rfl, ⟨hk _ hbW, by simpa [upd] using hJ'⟩, rfl, fun j hj => (hV' j hj).any (fun _ _ _ _ _ => trivial)⟩
          · -- 20: slot 35 := unOp UnOp.not 4 t34
            intro xs d W hd hn hI hV
            have x19 : xs 19 = .bool true := hV 19 (hd 19 (by decide))
            have x5 : xs 5 = .bool false := hV 5 (hd 5 (by decide))
            have hc := hI.1.cell
            rw [if_neg (by decide)]
            clear hV hd hn hI
            go_simp
            exact rfl
          · -- 21: slot 36 := pick t20 (const (Value.bool true)) t35
            intro xs d W hd hn hI hV
            have x5 : xs 5 = .bool false := hV 5 (hd 5 (by decide))
            have x20 : xs 20 = .bool false := hV 20 (hd 20 (by decide))
            have hc := hI.1.cell
            rw [if_neg (by decide)]
            clear hV hd hn hI
            go_simp
            exact rfl
        case hQ_e2 =>
          intro xs W hI hV
          have x0 : xs 0 = .string s1 := hV 0 (by decide)
          have x1 : xs 1 = .int .i64 (s1.size : Int) := hV 1 (by decide)
          have x2 : xs 2 = .int .i64 ((s1.size : Int) - 4) := hV 2 (by decide)
          have x3 : xs 3 = .int .i64 (N : Int) := hV 3 (by decide)
          have x4 : xs 4 = .bool false := hV 4 (by decide)
          have x5 : xs 5 = .bool false := hV 5 (by decide)
          have x6 : xs 6 = .func (.yield l) #[] #[] := hV 6 (by decide)
          have x7 : xs 7 = .string s1 := hV 7 (by decide)
          have x8 : xs 8 = .int .u8 (gb s1 0 : Int) := hV 8 (by decide)
          have x9 : xs 9 = .int .u16 (gb s1 0 : Int) := hV 9 (by decide)
          have x10 : xs 10 = .int .u16 ((gb s1 0 : Int) * 256) := hV 10 (by decide)
          have x11 : xs 11 = .string s1 := hV 11 (by decide)
          have x12 : xs 12 = .int .u8 (gb s1 1 : Int) := hV 12 (by decide)
          have x13 : xs 13 = .int .u16 (gb s1 1 : Int) := hV 13 (by decide)
          have x14 : xs 14 = .int .u16 (kOf s1 : Int) := hV 14 (by decide)
          have x15 : xs 15 = .string s1 := hV 15 (by decide)
          have x16 : xs 16 = .int .i64 (N : Int) := hV 16 (by decide)
          have x17 : xs 17 = .int .i64 (4 + (N : Int)) := hV 17 (by decide)
          have x18 : xs 18 = .string (s1.extract 4 (4 + N)) := hV 18 (by decide)
          have x19 : xs 19 = .bool true := hV 19 (by decide)
          have x20 : xs 20 = .bool false := hV 20 (by decide)
          have x21 : xs 21 = .bool false := hV 21 (by decide)
          clear hV
          rw [x21]
          have hbW := hI.1
          have hJW : J (pre ++ [((kOf s1 : Int), s1.extract 4 (4 + N))]) W := hI.2
          have hcW := hbW.cell
          have hfW := hbW.frozen
          clear x0 x1 x2 x3 x4 x5 x6 x7 x8 x9 x10 x11 x12 x13 x14 x15 x16 x17 x18 x19 x20 x21 hI hY h0 hb1 hJq
          gi_wp2
          go_roundw
          case rel =>
            refine ⟨pre ++ [((kOf s1 : Int), s1.extract 4 (4 + N))], s1.extract (4 + N) s1.size, by rw [hx]; simp, hbW.set _, hJs _ _ _ hJW, by omega⟩
          case measure =>
            unfold leftE
            rw [(hbW.set (.string (s1.extract (4 + N) s1.size))).cell, hc]
            simp only
            omega
end Go.Proofs.Ytdgdgioenfglnaa
