/- The law EdnsFinds. -/
import Derived.Test.YtdgdgioenfglnaaLI
namespace Go.Proofs.Ytdgdgioenfglnaa
open Go.RowKit Go.HL
set_option linter.unusedVariables false
set_option linter.unusedSimpArgs false

def q5c (sz hi ve fl : Int) (s : ByteArray) (is : Bool) (er : Int) (m : Mg) (A : Option Addr) (n c : Nat) (l : List Rc) (ga gb ge : Nat) : List (Option Value) :=
  [some ((.agg #[.int .u16 sz, .int .u8 hi, .int .u8 ve, .int .u16 fl, .string s])),
   some ((.agg #[.int .u16 sz, .int .u8 hi, .int .u8 ve, .int .u16 fl, .string s])),
   some (.bool true),
   some (.bool true),
   some (.bool is),
   some (.bool is),
   some (.bool true),
   some (.bool true),
   some (.bool true),
   some (.int .i64 er),
   some (.int .i64 er),
   some (.bool true),
   some (.bool true),
   some (.bool true),
   some ((.agg #[.int .u16 m.id, .bool m.reply, .int .u8 m.op, .bool m.aa, .bool m.tc, .bool m.rd, .bool m.ra, .int .u8 m.z, .int .u8 m.rc, .slice m.qa m.qn m.qc, .slice m.aA m.an m.ac, .slice m.uA m.un m.uc, .slice A n c])),
   some (.int .u16 (codeV m.rc l)),
   some ((.agg #[.int .u16 m.id, .bool m.reply, .int .u8 m.op, .bool m.aa, .bool m.tc, .bool m.rd, .bool m.ra, .int .u8 m.z, .int .u8 m.rc, .slice m.qa m.qn m.qc, .slice m.aA m.an m.ac, .slice m.uA m.un m.uc, .slice A n c])),
   some (.int .u16 (codeV m.rc l)),
   some (.bool true),
   some (.bool true),
   some (.bool true),
   some (.bool true),
   some (.bool true),
   some (.bool true)]
def q5G (sz hi ve fl : Int) (s : ByteArray) (is : Bool) (er : Int) (m : Mg) (A : Option Addr) (n c : Nat) (l : List Rc) (ga gb ge : Nat) : Nat → Value → World → Prop
  | _, _, _ => True
theorem q5G_st (sz hi ve fl : Int) (s : ByteArray) (is : Bool) (er : Int) (m : Mg) (A : Option Addr) (n c : Nat) (l : List Rc) (ga gb ge : Nat) : ∀ j u W W', Below W.heap.size W W' → q5G sz hi ve fl s is er m A n c l ga gb ge j u W → q5G sz hi ve fl s is er m A n c l ga gb ge j u W' := by
  intro j u W W' hb h
  unfold q5G at h ⊢
  split at h
  · trivial

set_option maxRecDepth 100000 in
set_option maxHeartbeats 4000000 in
theorem ednsFinds_core (w : World) (m : Mg) (A : Option Addr) (n c : Nat) (l : List Rc) (hr : Rd w 12 A n c (rcs l)) (hn : n ≤ 1048576) (hok : ∀ r ∈ l, r.ok) (r0 : 0 ≤ m.rc) (r1 : m.rc < 256) :
    Calls Try.prog 5 #[m.val A n c] w (Tells w (.bool true)) := by
  obtain ⟨sz, hi, ve, fl, s, is, er, h1, h2⟩ := finds_ m A n c l hn hok w hr
  have hb0 := below_new w (.cells (m.cells A n c).toArray 46)
  have hr0 := hr.below hb0
  have hE0 := Blk.new w 46 (m.cells A n c).toArray
  have hF1 := h1 _ hr0
  unfold FindP ednsCells at hF1 h2
  unfold Mg.val at hF1 h2 ⊢
  clear h1
  go_enter Try.func5, Try.ntmps5
  go_upto_region 2 with (go_at_call 14; refine hF1.mono ?_; clear hF1; rintro e w1 ⟨rfl, hb1⟩)
  have hE1 := hE0.below hb1
  have hr1 := hr0.below hb1
  have hb01 := below_trans hb0 hb1
  have hE1a := hE1.alloc (.cells #[.int .u16 sz, .int .u8 hi, .int .u8 ve, .int .u16 fl, .string s] 24)
  have hr1a := hr1.alloc (.cells #[.int .u16 sz, .int .u8 hi, .int .u8 ve, .int .u16 fl, .string s] 24)
  have hb1a := below_alloc hb01 (.cells #[.int .u16 sz, .int .u8 hi, .int .u8 ve, .int .u16 fl, .string s] 24)
  have hA1 := Blk.new w1 24 #[.int .u16 sz, .int .u8 hi, .int .u8 ve, .int .u16 fl, .string s]
  obtain ⟨ga, hga⟩ : ∃ g, w1.heap.size = g := ⟨_, rfl⟩
  rw [hga] at hA1 ⊢
  obtain ⟨wa, hwa⟩ : ∃ wa, w1.alloc (.cells #[.int .u16 sz, .int .u8 hi, .int .u8 ve, .int .u16 fl, .string s] 24) = wa := ⟨_, rfl⟩
  rw [hwa] at hE1a hr1a hb1a hA1 ⊢
  have hF2 := h2 wa hr1a
  have c0 := hE1a.cell 0 _ rfl
  have c1 := hE1a.cell 1 _ rfl
  have c2 := hE1a.cell 2 _ rfl
  have c3 := hE1a.cell 3 _ rfl
  have c4 := hE1a.cell 4 _ rfl
  have c5 := hE1a.cell 5 _ rfl
  have c6 := hE1a.cell 6 _ rfl
  have c7 := hE1a.cell 7 _ rfl
  have c8 := hE1a.cell 8 _ rfl
  have c9 := hE1a.cell 9 _ rfl
  have c10 := hE1a.cell 10 _ rfl
  have c11 := hE1a.cell 11 _ rfl
  have c12 := hE1a.cell 12 _ rfl
  clear hE0 hr0 hb0 hE1 hr1 hb01 hb1 hwa hga h2
  go_upto_region 3 with (go_at_call 15; refine hF2.mono ?_; clear hF2; rintro e w2 ⟨rfl, hb2⟩)
  have hE2 := (hE1a.below hb2).alloc (.cells #[.int .u16 sz, .int .u8 hi, .int .u8 ve, .int .u16 fl, .string s] 24)
  have hr3 := (hr1a.below hb2).alloc (.cells #[.int .u16 sz, .int .u8 hi, .int .u8 ve, .int .u16 fl, .string s] 24)
  have hbw := below_alloc (below_trans hb1a hb2) (.cells #[.int .u16 sz, .int .u8 hi, .int .u8 ve, .int .u16 fl, .string s] 24)
  have hAA := (hA1.below hb2).alloc (.cells #[.int .u16 sz, .int .u8 hi, .int .u8 ve, .int .u16 fl, .string s] 24)
  have hBB := Blk.new w2 24 #[.int .u16 sz, .int .u8 hi, .int .u8 ve, .int .u16 fl, .string s]
  obtain ⟨gb, hgb⟩ : ∃ g, w2.heap.size = g := ⟨_, rfl⟩
  obtain ⟨ge, hge⟩ : ∃ g, w.heap.size = g := ⟨_, rfl⟩
  obtain ⟨w3, hw3⟩ : ∃ w3, w2.alloc (.cells #[.int .u16 sz, .int .u8 hi, .int .u8 ve, .int .u16 fl, .string s] 24) = w3 := ⟨_, rfl⟩
  rw [hgb] at hBB ⊢
  rw [hge] at hE2
  rw [hw3] at hE2 hr3 hbw hAA hBB ⊢
  rw [hge]
  have hE : Blk w3 ge 46 (m.cells A n c) := hE2
  clear hE2 hE1a hr1a hb1a hA1 hb2 hw3 hgb c0 c1 c2 c3 c4 c5 c6 c7 c8 c9 c10 c11 c12
  refine wp_region_grow (by kernel_rfl) (by kernel_rfl) ?fr_q5 ?hfr_q5 (VV (q5c sz hi ve fl s is er m A n c l ga gb ge) (q5G sz hi ve fl s is er m A n c l ga gb ge)) (VV.stable (q5G_st sz hi ve fl s is er m A n c l ga gb ge)) ?hob_q5 ?hQ_q5
  case hfr_q5 =>
    intro xs
    simp only [fillL]
    go_simp
    exact rfl
  case hob_q5 =>
    refine ⟨?_, ?_, ?_, ?_, ?_, ?_, ?_, ?_, ?_, ?_, ?_, ?_, ?_, ?_, ?_, ?_, ?_, ?_, ?_, ?_, ?_, ?_, ?_, ?_, trivial⟩
    · -- 0: slot 21 := load 24 t3
      intro xs W hb hA
      show OpGives _ _ _ _ _
      refine gives_get 24 _ rfl _ rfl 24 (ednsCells sz hi ve fl s) _ (hAA.below hb) Try.underlying24 rfl sizeEdns ?_
      exact ⟨Below.refl _ _, rfl⟩
    · -- 1: slot 22 := load 24 t6
      intro xs W hb hA
      show OpGives _ _ _ _ _
      refine gives_get 24 _ rfl _ rfl 24 (ednsCells sz hi ve fl s) _ (hBB.below hb) Try.underlying24 rfl sizeEdns ?_
      exact ⟨Below.refl _ _, rfl⟩
    · -- 2: slot 23 := binOp BinOp.eql 24 t21 t22 24
      intro xs W hb hA
      have x0 : xs 0 = (.agg #[.int .u16 sz, .int .u8 hi, .int .u8 ve, .int .u16 fl, .string s]) := hA 0 (by decide)
      have x1 : xs 1 = (.agg #[.int .u16 sz, .int .u8 hi, .int .u8 ve, .int .u16 fl, .string s]) := hA 1 (by decide)
      clear hA
      go_simp
      exact ⟨Below.refl _ _, rfl⟩
    · -- 3: slot 24 := move t23
      intro xs W hb hA
      have x2 : xs 2 = .bool true := hA 2 (by decide)
      clear hA
      go_simp
      exact ⟨Below.refl _ _, rfl⟩
    · -- 4: slot 25 := move t4
      intro xs W hb hA
      have x3 : xs 3 = .bool true := hA 3 (by decide)
      clear hA
      go_simp
      exact ⟨Below.refl _ _, rfl⟩
    · -- 5: slot 26 := move t7
      intro xs W hb hA
      have x3 : xs 3 = .bool true := hA 3 (by decide)
      clear hA
      go_simp
      exact ⟨Below.refl _ _, rfl⟩
    · -- 6: slot 27 := binOp BinOp.eql 4 t25 t26 4
      intro xs W hb hA
      have x4 : xs 4 = .bool is := hA 4 (by decide)
      have x5 : xs 5 = .bool is := hA 5 (by decide)
      have x3 : xs 3 = .bool true := hA 3 (by decide)
      clear hA
      go_simp
      exact ⟨Below.refl _ _, rfl⟩
    · -- 7: slot 28 := pick t24 t27 (const (Value.bool false))
      intro xs W hb hA
      have x3 : xs 3 = .bool true := hA 3 (by decide)
      have x6 : xs 6 = .bool true := hA 6 (by decide)
      clear hA
      go_simp
      exact ⟨Below.refl _ _, rfl⟩
    · -- 8: slot 29 := move t28
      intro xs W hb hA
      have x7 : xs 7 = .bool true := hA 7 (by decide)
      clear hA
      go_simp
      exact ⟨Below.refl _ _, rfl⟩
    · -- 9: slot 30 := move t5
      intro xs W hb hA
      have x8 : xs 8 = .bool true := hA 8 (by decide)
      clear hA
      go_simp
      exact ⟨Below.refl _ _, rfl⟩
    · -- 10: slot 31 := move t8
      intro xs W hb hA
      have x8 : xs 8 = .bool true := hA 8 (by decide)
      clear hA
      go_simp
      exact ⟨Below.refl _ _, rfl⟩
    · -- 11: slot 32 := binOp BinOp.eql 32 t30 t31 32
      intro xs W hb hA
      have x9 : xs 9 = .int .i64 er := hA 9 (by decide)
      have x10 : xs 10 = .int .i64 er := hA 10 (by decide)
      have x8 : xs 8 = .bool true := hA 8 (by decide)
      clear hA
      go_simp
      exact ⟨Below.refl _ _, rfl⟩
    · -- 12: slot 33 := pick t29 t32 (const (Value.bool false))
      intro xs W hb hA
      have x8 : xs 8 = .bool true := hA 8 (by decide)
      have x11 : xs 11 = .bool true := hA 11 (by decide)
      clear hA
      go_simp
      exact ⟨Below.refl _ _, rfl⟩
    · -- 13: slot 34 := move t33
      intro xs W hb hA
      have x12 : xs 12 = .bool true := hA 12 (by decide)
      clear hA
      go_simp
      exact ⟨Below.refl _ _, rfl⟩
    · -- 14: slot 35 := load 46 t1
      intro xs W hb hA
      have x13 : xs 13 = .bool true := hA 13 (by decide)
      clear hA
      have hc0 := (hE.below hb).cell 0 _ rfl
      have hc1 := (hE.below hb).cell 1 _ rfl
      have hc2 := (hE.below hb).cell 2 _ rfl
      have hc3 := (hE.below hb).cell 3 _ rfl
      have hc4 := (hE.below hb).cell 4 _ rfl
      have hc5 := (hE.below hb).cell 5 _ rfl
      have hc6 := (hE.below hb).cell 6 _ rfl
      have hc7 := (hE.below hb).cell 7 _ rfl
      have hc8 := (hE.below hb).cell 8 _ rfl
      have hc9 := (hE.below hb).cell 9 _ rfl
      have hc10 := (hE.below hb).cell 10 _ rfl
      have hc11 := (hE.below hb).cell 11 _ rfl
      have hc12 := (hE.below hb).cell 12 _ rfl
      go_simp
      exact ⟨Below.refl _ _, rfl⟩
    · -- 15: slot 36 := call { value (Operand.func 16), args := #[t35], argTypes := #[46] }
      intro xs W hb hA
      have x14 : xs 14 = (.agg #[.int .u16 m.id, .bool m.reply, .int .u8 m.op, .bool m.aa, .bool m.tc, .bool m.rd, .bool m.ra, .int .u8 m.z, .int .u8 m.rc, .slice m.qa m.qn m.qc, .slice m.aA m.an m.ac, .slice m.uA m.un m.uc, .slice A n c]) := hA 14 (by decide)
      have x13 : xs 13 = .bool true := hA 13 (by decide)
      clear hA
      go_simp
      refine (code_ W m A n c l (hr3.below hb) hn hok r0 r1).mono ?_
      rintro e w5 ⟨rfl, hb5⟩
      exact ⟨_, rfl, hb5, rfl⟩
    · -- 16: slot 37 := load 46 t1
      intro xs W hb hA
      have x13 : xs 13 = .bool true := hA 13 (by decide)
      clear hA
      have hc0 := (hE.below hb).cell 0 _ rfl
      have hc1 := (hE.below hb).cell 1 _ rfl
      have hc2 := (hE.below hb).cell 2 _ rfl
      have hc3 := (hE.below hb).cell 3 _ rfl
      have hc4 := (hE.below hb).cell 4 _ rfl
      have hc5 := (hE.below hb).cell 5 _ rfl
      have hc6 := (hE.below hb).cell 6 _ rfl
      have hc7 := (hE.below hb).cell 7 _ rfl
      have hc8 := (hE.below hb).cell 8 _ rfl
      have hc9 := (hE.below hb).cell 9 _ rfl
      have hc10 := (hE.below hb).cell 10 _ rfl
      have hc11 := (hE.below hb).cell 11 _ rfl
      have hc12 := (hE.below hb).cell 12 _ rfl
      go_simp
      exact ⟨Below.refl _ _, rfl⟩
    · -- 17: slot 38 := call { value (Operand.func 17), args := #[t37], argTypes := #[46] }
      intro xs W hb hA
      have x16 : xs 16 = (.agg #[.int .u16 m.id, .bool m.reply, .int .u8 m.op, .bool m.aa, .bool m.tc, .bool m.rd, .bool m.ra, .int .u8 m.z, .int .u8 m.rc, .slice m.qa m.qn m.qc, .slice m.aA m.an m.ac, .slice m.uA m.un m.uc, .slice A n c]) := hA 16 (by decide)
      have x13 : xs 13 = .bool true := hA 13 (by decide)
      clear hA
      go_simp
      refine (refCode_ W m A n c l (hr3.below hb) hn hok r0 r1).mono ?_
      rintro e w5 ⟨rfl, hb5⟩
      exact ⟨_, rfl, hb5, rfl⟩
    · -- 18: slot 39 := binOp BinOp.eql 22 t36 t38 22
      intro xs W hb hA
      have x15 : xs 15 = .int .u16 (codeV m.rc l) := hA 15 (by decide)
      have x17 : xs 17 = .int .u16 (codeV m.rc l) := hA 17 (by decide)
      have x13 : xs 13 = .bool true := hA 13 (by decide)
      clear hA
      go_simp
      exact ⟨Below.refl _ _, rfl⟩
    · -- 19: slot 40 := pick t34 t39 (const (Value.bool false))
      intro xs W hb hA
      have x13 : xs 13 = .bool true := hA 13 (by decide)
      have x18 : xs 18 = .bool true := hA 18 (by decide)
      clear hA
      go_simp
      exact ⟨Below.refl _ _, rfl⟩
    · -- 20: slot 41 := move t40
      intro xs W hb hA
      have x19 : xs 19 = .bool true := hA 19 (by decide)
      clear hA
      go_simp
      exact ⟨Below.refl _ _, rfl⟩
    · -- 21: slot 42 := call { value (Operand.func 11), args := #[], argTypes := #[] }
      intro xs W hb hA
      have x20 : xs 20 = .bool true := hA 20 (by decide)
      clear hA
      go_simp
      refine (wakes W).mono ?_
      rintro e w5 ⟨rfl, hb5⟩
      exact ⟨_, rfl, hb5, rfl⟩
    · -- 22: slot 43 := pick t41 t42 (const (Value.bool false))
      intro xs W hb hA
      have x20 : xs 20 = .bool true := hA 20 (by decide)
      have x21 : xs 21 = .bool true := hA 21 (by decide)
      clear hA
      go_simp
      exact ⟨Below.refl _ _, rfl⟩
    · -- 23: slot 2 := assign t43
      intro xs W hb hA
      have x22 : xs 22 = .bool true := hA 22 (by decide)
      clear hA
      go_simp
      exact ⟨Below.refl _ _, rfl⟩
  case hQ_q5 =>
    intro xs W hb hV
    have x0 : xs 0 = (.agg #[.int .u16 sz, .int .u8 hi, .int .u8 ve, .int .u16 fl, .string s]) := hV 0 (by decide)
    have x1 : xs 1 = (.agg #[.int .u16 sz, .int .u8 hi, .int .u8 ve, .int .u16 fl, .string s]) := hV 1 (by decide)
    have x2 : xs 2 = .bool true := hV 2 (by decide)
    have x3 : xs 3 = .bool true := hV 3 (by decide)
    have x4 : xs 4 = .bool is := hV 4 (by decide)
    have x5 : xs 5 = .bool is := hV 5 (by decide)
    have x6 : xs 6 = .bool true := hV 6 (by decide)
    have x7 : xs 7 = .bool true := hV 7 (by decide)
    have x8 : xs 8 = .bool true := hV 8 (by decide)
    have x9 : xs 9 = .int .i64 er := hV 9 (by decide)
    have x10 : xs 10 = .int .i64 er := hV 10 (by decide)
    have x11 : xs 11 = .bool true := hV 11 (by decide)
    have x12 : xs 12 = .bool true := hV 12 (by decide)
    have x13 : xs 13 = .bool true := hV 13 (by decide)
    have x14 : xs 14 = (.agg #[.int .u16 m.id, .bool m.reply, .int .u8 m.op, .bool m.aa, .bool m.tc, .bool m.rd, .bool m.ra, .int .u8 m.z, .int .u8 m.rc, .slice m.qa m.qn m.qc, .slice m.aA m.an m.ac, .slice m.uA m.un m.uc, .slice A n c]) := hV 14 (by decide)
    have x15 : xs 15 = .int .u16 (codeV m.rc l) := hV 15 (by decide)
    have x16 : xs 16 = (.agg #[.int .u16 m.id, .bool m.reply, .int .u8 m.op, .bool m.aa, .bool m.tc, .bool m.rd, .bool m.ra, .int .u8 m.z, .int .u8 m.rc, .slice m.qa m.qn m.qc, .slice m.aA m.an m.ac, .slice m.uA m.un m.uc, .slice A n c]) := hV 16 (by decide)
    have x17 : xs 17 = .int .u16 (codeV m.rc l) := hV 17 (by decide)
    have x18 : xs 18 = .bool true := hV 18 (by decide)
    have x19 : xs 19 = .bool true := hV 19 (by decide)
    have x20 : xs 20 = .bool true := hV 20 (by decide)
    have x21 : xs 21 = .bool true := hV 21 (by decide)
    have x22 : xs 22 = .bool true := hV 22 (by decide)
    have x23 : xs 23 = .bool true := hV 23 (by decide)
    clear hV
    rw [x23]
    go_wp2
    go_ret
    exact ⟨rfl, below_trans hbw hb⟩
end Go.Proofs.Ytdgdgioenfglnaa
