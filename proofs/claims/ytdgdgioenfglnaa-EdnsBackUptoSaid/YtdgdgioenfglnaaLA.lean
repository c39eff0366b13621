/- The law EdnsRecords. -/
import Derived.Test.YtdgdgioenfglnaaEC
namespace Go.Proofs.Ytdgdgioenfglnaa
open Go.RowKit Go.HL
set_option linter.unusedVariables false
set_option linter.unusedSimpArgs false

/-- A call tells a value, and leaves whatever lay there. -/
def Tells (w : World) (v : Value) (e : Ending) (w' : World) : Prop := e = .returned v ∧ Below w.heap.size w w'
theorem recOk_nil : recOk ⟨#[]⟩ = true := by decide +kernel
theorem wakes (w : World) : Calls Try.prog 11 #[] w (Tells w (.bool true)) := by
  have hr := record_ w 1232 0 0 32768 ⟨#[]⟩ (by decide) (by omega) (by omega) (by omega) (by omega) (by omega) (by omega)
  unfold RecP ednsV optRec recCells at hr
  rw [recOk_nil] at hr
  have hl := fun W => limit_ W false 0 0 0 0 4096 ⟨#[]⟩ (by omega) (by omega)
  unfold ednsV at hl
  rw [show limV false 0 4096 = 512 from rfl] at hl
  go_enter Try.func11, Try.ntmps11
  go_wp2_with (first | (go_at_call 7; refine hr.mono ?_; clear hr; rintro e w' ⟨rfl, hb⟩) | (go_at_call 9; refine (hl _).mono ?_; rintro e w5 ⟨rfl, hb5⟩))
  go_ret
  exact ⟨rfl, below_trans (below_alloc hb _) hb5⟩
def q3c (has : Bool) (sz hi ve fl most : Int) (s : ByteArray) (nm : ByteArray) (ty cl ttl : Int) (raw host mail : ByteArray) (n0 n1 n2 n3 n4 er : Int) (ga gb : Nat) (ge : Nat) : List (Option Value) :=
  [some ((.agg #[.string nm, .int .u16 ty, .int .u16 cl, .int .u32 ttl, .string raw, .string host, .string mail, .int .u32 n0, .int .u32 n1, .int .u32 n2, .int .u32 n3, .int .u32 n4])),
   some ((.agg #[.string nm, .int .u16 ty, .int .u16 cl, .int .u32 ttl, .string raw, .string host, .string mail, .int .u32 n0, .int .u32 n1, .int .u32 n2, .int .u32 n3, .int .u32 n4])),
   some (.bool true),
   some (.bool true),
   some (.int .i64 er),
   some (.int .i64 er),
   some (.bool true),
   some (.bool true),
   some (.bool true),
   some (.bool has),
   some ((.agg #[.int .u16 sz, .int .u8 hi, .int .u8 ve, .int .u16 fl, .string s])),
   some (.int .i64 most),
   some (.int .i64 (limV has sz most)),
   some (.bool has),
   some ((.agg #[.int .u16 sz, .int .u8 hi, .int .u8 ve, .int .u16 fl, .string s])),
   some (.int .i64 most),
   some (.int .i64 (limV has sz most)),
   some (.bool true),
   some (.bool true),
   some (.bool true),
   some (.bool true),
   some (.bool true),
   some (.bool true)]
def q3G (has : Bool) (sz hi ve fl most : Int) (s : ByteArray) (nm : ByteArray) (ty cl ttl : Int) (raw host mail : ByteArray) (n0 n1 n2 n3 n4 er : Int) (ga gb : Nat) (ge : Nat) : Nat → Value → World → Prop
  | _, _, _ => True
theorem q3G_st (has : Bool) (sz hi ve fl most : Int) (s : ByteArray) (nm : ByteArray) (ty cl ttl : Int) (raw host mail : ByteArray) (n0 n1 n2 n3 n4 er : Int) (ga gb : Nat) (ge : Nat) : ∀ j u W W', Below W.heap.size W W' → q3G has sz hi ve fl most s nm ty cl ttl raw host mail n0 n1 n2 n3 n4 er ga gb ge j u W → q3G has sz hi ve fl most s nm ty cl ttl raw host mail n0 n1 n2 n3 n4 er ga gb ge j u W' := by
  intro j u W W' hb h
  unfold q3G at h ⊢
  split at h
  · trivial

theorem sizeEdns : (Try.prog.info? 24).map (·.size) = some 5 := by kernel_rfl
theorem recs_ (b : Bool) (sz hi ve fl : Int) (s : ByteArray) : ∃ nm ty cl ttl raw host mail n0 n1 n2 n3 n4, (if b then optRec sz hi ve fl s else zeroRec) = .agg #[.string nm, .int .u16 ty, .int .u16 cl, .int .u32 ttl, .string raw, .string host, .string mail, .int .u32 n0, .int .u32 n1, .int .u32 n2, .int .u32 n3, .int .u32 n4] := by
  cases b
  · exact ⟨_, _, _, _, _, _, _, _, _, _, _, _, rfl⟩
  · exact ⟨_, _, _, _, _, _, _, _, _, _, _, _, rfl⟩
set_option maxRecDepth 100000 in
set_option maxHeartbeats 4000000 in
theorem ednsRecords_core (w : World) (sz hi ve fl most : Int) (has : Bool) (s : ByteArray) (hlen : s.size ≤ 1048576) (h0 : 0 ≤ sz) (h1 : sz < 65536) (i0 : 0 ≤ hi) (i1 : hi < 256) (v0 : 0 ≤ ve) (v1 : ve < 256) (f0 : 0 ≤ fl) (f1 : fl < 65536) :
    Calls Try.prog 3 #[ednsV sz hi ve fl s, .bool has, .int .i64 most] w (Tells w (.bool true)) := by
  have hr := fun W => record_ W sz hi ve fl s hlen i0 i1 v0 v1 f0 f1
  have hq := fun W => refRecord_ W sz hi ve fl s hlen i0 i1 v0 v1 f0 f1
  obtain ⟨nm, ty, cl, ttl, raw, host, mail, n0, n1, n2, n3, n4, hR⟩ := recs_ (recOk s) sz hi ve fl s
  obtain ⟨er, hE⟩ : ∃ er : Int, (if recOk s then (0 : Int) else 70) = er := ⟨_, rfl⟩
  unfold RecP ednsV at hr hq
  rw [hR, hE] at hr hq
  unfold ednsV
  clear hR hE
  go_enter Try.func3, Try.ntmps3
  go_wp2_with (first | (go_at_call 7; refine (hr _).mono ?_; clear hr; rintro e w1 ⟨rfl, hb1⟩; have hE1 := (Blk.new w 24 (ednsCells sz hi ve fl s).toArray).below hb1; have hE1a := hE1.alloc (.cells #[.string nm, .int .u16 ty, .int .u16 cl, .int .u32 ttl, .string raw, .string host, .string mail, .int .u32 n0, .int .u32 n1, .int .u32 n2, .int .u32 n3, .int .u32 n4] 31); have c0 := hE1a.cell 0 _ rfl; have c1 := hE1a.cell 1 _ rfl; have c2 := hE1a.cell 2 _ rfl; have c3 := hE1a.cell 3 _ rfl; have c4 := hE1a.cell 4 _ rfl; have hb1 := below_trans (below_new w _) hb1) | (go_at_call 8; refine (hq _).mono ?_; clear hq; rintro e w2 ⟨rfl, hb2⟩))
  have hA2 := (Blk.new w1 31 (recCells nm ty cl ttl raw host mail n0 n1 n2 n3 n4).toArray).below hb2
  have hA7 := hA2.alloc (.cells (recCells nm ty cl ttl raw host mail n0 n1 n2 n3 n4).toArray 31)
  have hA9 := Blk.new w2 31 (recCells nm ty cl ttl raw host mail n0 n1 n2 n3 n4).toArray
  have hE2 := ((hE1.alloc _).below hb2).alloc (.cells (recCells nm ty cl ttl raw host mail n0 n1 n2 n3 n4).toArray 31)
  have hbw := below_alloc (below_trans (below_alloc hb1 _) hb2) (.cells (recCells nm ty cl ttl raw host mail n0 n1 n2 n3 n4).toArray 31)
  obtain ⟨ga, hga⟩ : ∃ g, w1.heap.size = g := ⟨_, rfl⟩
  obtain ⟨gb, hgb⟩ : ∃ g, w2.heap.size = g := ⟨_, rfl⟩
  obtain ⟨ge, hge⟩ : ∃ g, w.heap.size = g := ⟨_, rfl⟩
  obtain ⟨w3, hw3⟩ : ∃ w3, w2.alloc (.cells #[.string nm, .int .u16 ty, .int .u16 cl, .int .u32 ttl, .string raw, .string host, .string mail, .int .u32 n0, .int .u32 n1, .int .u32 n2, .int .u32 n3, .int .u32 n4] 31) = w3 := ⟨_, rfl⟩
  have hA7 : Blk w3 ga 31 (recCells nm ty cl ttl raw host mail n0 n1 n2 n3 n4) := by rw [← hw3, ← hga]; exact hA7
  have hA9 : Blk w3 gb 31 (recCells nm ty cl ttl raw host mail n0 n1 n2 n3 n4) := by rw [← hw3, ← hgb]; exact hA9
  have hE : Blk w3 ge 24 (ednsCells sz hi ve fl s) := by rw [← hw3, ← hge]; exact hE2
  have hbw : Below w.heap.size w w3 := by rw [← hw3]; exact hbw
  rw [hw3, hga, hgb, hge]
  clear hA2 hE1 hE1a hE2 hb1 hb2 c0 c1 c2 c3 c4 hw3 hga hgb
  refine wp_region_grow (by kernel_rfl) (by kernel_rfl) ?fr_q3 ?hfr_q3 (VV (q3c has sz hi ve fl most s nm ty cl ttl raw host mail n0 n1 n2 n3 n4 er ga gb ge) (q3G has sz hi ve fl most s nm ty cl ttl raw host mail n0 n1 n2 n3 n4 er ga gb ge)) (VV.stable (q3G_st has sz hi ve fl most s nm ty cl ttl raw host mail n0 n1 n2 n3 n4 er ga gb ge)) ?hob_q3 ?hQ_q3
  case hfr_q3 =>
    intro xs
    simp only [fillL]
    go_simp
    exact rfl
  case hob_q3 =>
    refine ⟨?_, ?_, ?_, ?_, ?_, ?_, ?_, ?_, ?_, ?_, ?_, ?_, ?_, ?_, ?_, ?_, ?_, ?_, ?_, ?_, ?_, ?_, ?_, trivial⟩
    · -- 0: slot 21 := load 31 t7
      intro xs W hb hA
      show OpGives _ _ _ _ _
      refine gives_get 31 _ rfl _ rfl 31 (recCells nm ty cl ttl raw host mail n0 n1 n2 n3 n4) _ (hA7.below hb) Try.underlying31 rfl sizeRec ?_
      exact ⟨Below.refl _ _, rfl⟩
    · -- 1: slot 22 := load 31 t9
      intro xs W hb hA
      show OpGives _ _ _ _ _
      refine gives_get 31 _ rfl _ rfl 31 (recCells nm ty cl ttl raw host mail n0 n1 n2 n3 n4) _ (hA9.below hb) Try.underlying31 rfl sizeRec ?_
      exact ⟨Below.refl _ _, rfl⟩
    · -- 2: slot 23 := binOp BinOp.eql 31 t21 t22 31
      intro xs W hb hA
      have x0 : xs 0 = (.agg #[.string nm, .int .u16 ty, .int .u16 cl, .int .u32 ttl, .string raw, .string host, .string mail, .int .u32 n0, .int .u32 n1, .int .u32 n2, .int .u32 n3, .int .u32 n4]) := hA 0 (by decide)
      have x1 : xs 1 = (.agg #[.string nm, .int .u16 ty, .int .u16 cl, .int .u32 ttl, .string raw, .string host, .string mail, .int .u32 n0, .int .u32 n1, .int .u32 n2, .int .u32 n3, .int .u32 n4]) := hA 1 (by decide)
      have hq : (Op.equalIn 9998 27 (.agg #[.int .u32 n0, .int .u32 n1, .int .u32 n2, .int .u32 n3, .int .u32 n4]) (.agg #[.int .u32 n0, .int .u32 n1, .int .u32 n2, .int .u32 n3, .int .u32 n4])).run Try.prog W = _ := eqArr 9996 n0 n1 n2 n3 n4 n0 n1 n2 n3 n4 W
      clear hA
      go_simp
      exact ⟨Below.refl _ _, rfl⟩
    · -- 3: slot 24 := move t23
      intro xs W hb hA
      have x2 : xs 2 = .bool true := hA 2 (by decide)
      clear hA
      go_simp
      exact ⟨Below.refl _ _, rfl⟩
    · -- 4: slot 25 := move t8
      intro xs W hb hA
      have x3 : xs 3 = .bool true := hA 3 (by decide)
      clear hA
      go_simp
      exact ⟨Below.refl _ _, rfl⟩
    · -- 5: slot 26 := move t10
      intro xs W hb hA
      have x3 : xs 3 = .bool true := hA 3 (by decide)
      clear hA
      go_simp
      exact ⟨Below.refl _ _, rfl⟩
    · -- 6: slot 27 := binOp BinOp.eql 32 t25 t26 32
      intro xs W hb hA
      have x4 : xs 4 = .int .i64 er := hA 4 (by decide)
      have x5 : xs 5 = .int .i64 er := hA 5 (by decide)
      have x3 : xs 3 = .bool true := hA 3 (by decide)
      clear hA
      go_simp
      exact ⟨Below.refl _ _, rfl⟩
    · -- 7: slot 28 := pick t24 t27 (const (Value.bool false))
      intro xs W hb hA
      have x3 : xs 3 = .bool true := hA 3 (by decide)
      have x6 : xs 6 = .bool true := hA 6 (by decide)
      clear hA
      go_simp
      exact ⟨Below.refl _ _, rfl⟩
    · -- 8: slot 29 := move t28
      intro xs W hb hA
      have x7 : xs 7 = .bool true := hA 7 (by decide)
      clear hA
      go_simp
      exact ⟨Below.refl _ _, rfl⟩
    · -- 9: slot 30 := move t1
      intro xs W hb hA
      have x8 : xs 8 = .bool true := hA 8 (by decide)
      clear hA
      go_simp
      exact ⟨Below.refl _ _, rfl⟩
    · -- 10: slot 31 := load 24 t3
      intro xs W hb hA
      have x8 : xs 8 = .bool true := hA 8 (by decide)
      clear hA
      have hc0 := (hE.below hb).cell 0 _ rfl
      have hc1 := (hE.below hb).cell 1 _ rfl
      have hc2 := (hE.below hb).cell 2 _ rfl
      have hc3 := (hE.below hb).cell 3 _ rfl
      have hc4 := (hE.below hb).cell 4 _ rfl
      go_simp
      exact ⟨Below.refl _ _, rfl⟩
    · -- 11: slot 32 := move t2
      intro xs W hb hA
      have x8 : xs 8 = .bool true := hA 8 (by decide)
      clear hA
      go_simp
      exact ⟨Below.refl _ _, rfl⟩
    · -- 12: slot 33 := call { value (Operand.func 9), args := #[t30, t31, t32], argTypes := #[4, 24, 3]
      intro xs W hb hA
      have x9 : xs 9 = .bool has := hA 9 (by decide)
      have x10 : xs 10 = (.agg #[.int .u16 sz, .int .u8 hi, .int .u8 ve, .int .u16 fl, .string s]) := hA 10 (by decide)
      have x11 : xs 11 = .int .i64 most := hA 11 (by decide)
      have x8 : xs 8 = .bool true := hA 8 (by decide)
      clear hA
      go_simp
      refine (limit_ W has sz hi ve fl most s h0 h1).mono ?_
      rintro e w5 ⟨rfl, hb5⟩
      exact ⟨_, rfl, hb5, rfl⟩
    · -- 13: slot 34 := move t1
      intro xs W hb hA
      have x8 : xs 8 = .bool true := hA 8 (by decide)
      clear hA
      go_simp
      exact ⟨Below.refl _ _, rfl⟩
    · -- 14: slot 35 := load 24 t3
      intro xs W hb hA
      have x8 : xs 8 = .bool true := hA 8 (by decide)
      clear hA
      have hc0 := (hE.below hb).cell 0 _ rfl
      have hc1 := (hE.below hb).cell 1 _ rfl
      have hc2 := (hE.below hb).cell 2 _ rfl
      have hc3 := (hE.below hb).cell 3 _ rfl
      have hc4 := (hE.below hb).cell 4 _ rfl
      go_simp
      exact ⟨Below.refl _ _, rfl⟩
    · -- 15: slot 36 := move t2
      intro xs W hb hA
      have x8 : xs 8 = .bool true := hA 8 (by decide)
      clear hA
      go_simp
      exact ⟨Below.refl _ _, rfl⟩
    · -- 16: slot 37 := call { value (Operand.func 10), args := #[t34, t35, t36], argTypes := #[4, 24, 3
      intro xs W hb hA
      have x13 : xs 13 = .bool has := hA 13 (by decide)
      have x14 : xs 14 = (.agg #[.int .u16 sz, .int .u8 hi, .int .u8 ve, .int .u16 fl, .string s]) := hA 14 (by decide)
      have x15 : xs 15 = .int .i64 most := hA 15 (by decide)
      have x8 : xs 8 = .bool true := hA 8 (by decide)
      clear hA
      go_simp
      refine (refLimit_ W has sz hi ve fl most s h0 h1).mono ?_
      rintro e w5 ⟨rfl, hb5⟩
      exact ⟨_, rfl, hb5, rfl⟩
    · -- 17: slot 38 := binOp BinOp.eql 3 t33 t37 3
      intro xs W hb hA
      have x12 : xs 12 = .int .i64 (limV has sz most) := hA 12 (by decide)
      have x16 : xs 16 = .int .i64 (limV has sz most) := hA 16 (by decide)
      have x8 : xs 8 = .bool true := hA 8 (by decide)
      clear hA
      go_simp
      exact ⟨Below.refl _ _, rfl⟩
    · -- 18: slot 39 := pick t29 t38 (const (Value.bool false))
      intro xs W hb hA
      have x8 : xs 8 = .bool true := hA 8 (by decide)
      have x17 : xs 17 = .bool true := hA 17 (by decide)
      clear hA
      go_simp
      exact ⟨Below.refl _ _, rfl⟩
    · -- 19: slot 40 := move t39
      intro xs W hb hA
      have x18 : xs 18 = .bool true := hA 18 (by decide)
      clear hA
      go_simp
      exact ⟨Below.refl _ _, rfl⟩
    · -- 20: slot 41 := call { value (Operand.func 11), args := #[], argTypes := #[] }
      intro xs W hb hA
      have x19 : xs 19 = .bool true := hA 19 (by decide)
      clear hA
      go_simp
      refine (wakes W).mono ?_
      rintro e w5 ⟨rfl, hb5⟩
      exact ⟨_, rfl, hb5, rfl⟩
    · -- 21: slot 42 := pick t40 t41 (const (Value.bool false))
      intro xs W hb hA
      have x19 : xs 19 = .bool true := hA 19 (by decide)
      have x20 : xs 20 = .bool true := hA 20 (by decide)
      clear hA
      go_simp
      exact ⟨Below.refl _ _, rfl⟩
    · -- 22: slot 6 := assign t42
      intro xs W hb hA
      have x21 : xs 21 = .bool true := hA 21 (by decide)
      clear hA
      go_simp
      exact ⟨Below.refl _ _, rfl⟩
  case hQ_q3 =>
    intro xs W hb hV
    have x0 : xs 0 = (.agg #[.string nm, .int .u16 ty, .int .u16 cl, .int .u32 ttl, .string raw, .string host, .string mail, .int .u32 n0, .int .u32 n1, .int .u32 n2, .int .u32 n3, .int .u32 n4]) := hV 0 (by decide)
    have x1 : xs 1 = (.agg #[.string nm, .int .u16 ty, .int .u16 cl, .int .u32 ttl, .string raw, .string host, .string mail, .int .u32 n0, .int .u32 n1, .int .u32 n2, .int .u32 n3, .int .u32 n4]) := hV 1 (by decide)
    have x2 : xs 2 = .bool true := hV 2 (by decide)
    have x3 : xs 3 = .bool true := hV 3 (by decide)
    have x4 : xs 4 = .int .i64 er := hV 4 (by decide)
    have x5 : xs 5 = .int .i64 er := hV 5 (by decide)
    have x6 : xs 6 = .bool true := hV 6 (by decide)
    have x7 : xs 7 = .bool true := hV 7 (by decide)
    have x8 : xs 8 = .bool true := hV 8 (by decide)
    have x9 : xs 9 = .bool has := hV 9 (by decide)
    have x10 : xs 10 = (.agg #[.int .u16 sz, .int .u8 hi, .int .u8 ve, .int .u16 fl, .string s]) := hV 10 (by decide)
    have x11 : xs 11 = .int .i64 most := hV 11 (by decide)
    have x12 : xs 12 = .int .i64 (limV has sz most) := hV 12 (by decide)
    have x13 : xs 13 = .bool has := hV 13 (by decide)
    have x14 : xs 14 = (.agg #[.int .u16 sz, .int .u8 hi, .int .u8 ve, .int .u16 fl, .string s]) := hV 14 (by decide)
    have x15 : xs 15 = .int .i64 most := hV 15 (by decide)
    have x16 : xs 16 = .int .i64 (limV has sz most) := hV 16 (by decide)
    have x17 : xs 17 = .bool true := hV 17 (by decide)
    have x18 : xs 18 = .bool true := hV 18 (by decide)
    have x19 : xs 19 = .bool true := hV 19 (by decide)
    have x20 : xs 20 = .bool true := hV 20 (by decide)
    have x21 : xs 21 = .bool true := hV 21 (by decide)
    have x22 : xs 22 = .bool true := hV 22 (by decide)
    clear hV
    rw [x22]
    go_wp2
    go_ret
    exact ⟨rfl, below_trans hbw hb⟩
theorem ednsRecords_walk (w : World) (sz hi ve fl : Int) (s : ByteArray) (has : Bool) (most : Int) (h0 : 0 ≤ sz) (h1 : sz < 65536) (i0 : 0 ≤ hi) (i1 : hi < 256) (v0 : 0 ≤ ve) (v1 : ve < 256) (f0 : 0 ≤ fl) (f1 : fl < 65536) (hlen : s.size ≤ 1048576) (m0 : -9223372036854775808 ≤ most) (m1 : most ≤ 9223372036854775807) :
    Calls Try.prog 3 #[ednsV sz hi ve fl s, .bool has, .int .i64 most] w (Tells w (.bool true)) := ednsRecords_core w sz hi ve fl most has s hlen h0 h1 i0 i1 v0 v1 f0 f1
end Go.Proofs.Ytdgdgioenfglnaa
