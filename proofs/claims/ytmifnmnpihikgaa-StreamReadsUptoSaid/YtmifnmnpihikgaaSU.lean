/- stream: StreamReads. -/
import Derived.Test.YtmifnmnpihikgaaST
namespace Go.Proofs.Ytmifnmnpihikgaa
open Go.RowKit Go.HL
set_option linter.unusedVariables false
set_option linter.unusedSimpArgs false
theorem ifp {p a b : Prop} [Decidable p] (h : a) (hp : p) : if p then a else b := by rw [if_pos hp]; exact h
theorem Byt_lt {W : World} {b : Nat} (h : Byt W b) : b < W.heap.size := by
  obtain ⟨cs, fr, hb⟩ := h
  exact (Array.getElem?_eq_some_iff.1 hb).1
theorem MsT.kept2 {W W' : World} {m : Ms} {row : Option Nat} (h : MsT W m) (hg : W.grownBy W' row) (hne : ∀ a, m.a = some a → some a.block ≠ row) : MsT W' m := ⟨rd_grown h.1 hg hne, fun a ha => (h.2 a ha).kept hg (hne a ha)⟩
theorem own_oth {W W' : World} {base m s : Nat} {e : TypeId} {v : Value} {x : List Value} {row : Option Nat} (h : W.ownsRow base e s v m x) (hg : W.grownBy W' row) (hne : ∀ k, v.ownBlock = some k → row ≠ some k) : W'.ownsRow base e s v m x :=
  h.kept hg (by
    cases hv : v.ownBlock with
    | none => exact .inl rfl
    | some k => exact .inr (fun e => hne k hv e.symm))
theorem Mss.drewN {W : World} {A : Option Addr} {n c : Nat} {X : List Ms} (h : Mss W A n c X) (k : Nat) : Mss (W.drewN k) A n c X := ⟨h.r.drewN k, fun m hm => Rd.drewN (h.m m hm) k⟩
theorem flip_same' {P : Program} {f : FuncId} {args : Array Value} {w : World} {v : Value} (h : Calls P f args w fun e w' => e = .returned v ∧ w = w') : Calls P f args w fun e w' => e = .returned v ∧ w' = w := h.mono fun _ _ ⟨a, b⟩ => ⟨a, b.symm⟩
def r11c (A4 : Option Addr) (n4 c4 : Nat) (ad : Addr) (n c j : Nat) (ma : Option Addr) (mn mc : Nat) (v1 : Value) (A2 : Option Addr) (n2 c2 : Nat) (W2 : World) (L : List UInt8) : List (Option Value) :=
  [some (.slice A4 n4 c4),
   some (v1),
   some (.slice (some ad) n c),
   some (.int .i64 (j : Int)),
   some (.pointer (some (ad.add j))),
   some (.slice ma mn mc),
   some (.slice A2 n2 c2),
   none,
   none,
   none,
   none,
   none,
   none]
def r11G (A4 : Option Addr) (n4 c4 : Nat) (ad : Addr) (n c j : Nat) (ma : Option Addr) (mn mc : Nat) (v1 : Value) (A2 : Option Addr) (n2 c2 : Nat) (W2 : World) (L : List UInt8) : Nat → Value → World → Prop
  | 7, u, W => ∃ v r, u = .tuple #[v, r] ∧ PV W2 L v W ∧ PR W2 L r W
  | 8, u, W => ∃ v r, u = .tuple #[v, r] ∧ PV W2 L v W ∧ PR W2 L r W
  | 9, u, W => PV W2 L u W
  | 10, u, W => PR W2 L u W
  | 11, u, W => PV W2 L u W
  | 12, u, W => PR W2 L u W
  | _, _, _ => True
set_option maxRecDepth 100000 in
set_option maxHeartbeats 8000000 in
theorem streamReads_walk (w : World) (A : Option Addr) (n c : Nat) (X : List Ms) (hX : Mss w A n c X) (hXs : ∀ m ∈ X, m.n ≤ 1048576) :
    Calls Try.prog 3 #[.slice A n c] w (Tells w (.bool true)) := by
  have HXN := Lib.hid hX.len
  have hnc := hX.r.le
  go_enter Try.func3, Try.ntmps3
  by_cases h200 : 200 < n
  · have h200' : (200 : Int) < (n : Int) := by omega
    go_wp2_with (go_at_call 8; refine (wakes _).mono ?_; rintro e w7 ⟨rfl, hb7⟩)
    go_ret
    exact ⟨rfl, hb7⟩
  have h200' : ¬ (200 : Int) < (n : Int) := by omega
  have hR0 := Boxed.new w 48 (.slice none 0 0)
  have hbr1 := below_new w (.cells #[.slice none 0 0] 48)
  go_wp2_with (go_at_call 9; refine (newReader_ _).mono ?_; rintro e w' ⟨rfl, rfl⟩)
  have hz1 := World.size_alloc w (.cells #[.slice none 0 0] 48)
  obtain ⟨R, hRR⟩ : ∃ x, w.heap.size = x := ⟨_, rfl⟩
  have hwR : w.heap.size ≤ R := by omega
  have hR1 : Boxed (w.alloc (.cells #[.slice none 0 0] 48)) R 48 (.slice none 0 0) := by rw [← hRR]; exact hR0
  have hz1 : (w.alloc (.cells #[.slice none 0 0] 48)).heap.size = R + 1 := by rw [← hRR]; exact hz1
  rw [show Value.pointer (some (⟨w.heap.size, 0, none⟩ : Addr)) = .pointer (some ⟨R, 0, none⟩) by rw [hRR]]
  obtain ⟨W0, hW⟩ : ∃ x, w.alloc (.cells #[.slice none 0 0] 48) = x := ⟨_, rfl⟩
  rw [hW] at hR1 hbr1 hz1 ⊢
  clear hW hRR hR0
  go_loopw [4, 5, 6, 7] (fun u4 u5 u6 u7 wr => ∃ (j : Nat) (Aw : Option Addr) (nw cw : Nat) (lw : List UInt8) (T Y : List Ms), j ≤ n ∧ u7 = .int .i64 j ∧ nw < 65538 ∧ Boxed wr R 48 (.slice Aw nw cw) ∧ Rd wr 1 Aw nw cw (bs lw) ∧ (∀ a, Aw = some a → Byt wr a.block) ∧ wr.ownsRow (R + 1) 5 1 u4 nw (bs lw) ∧ wr.ownsRow (R + 1) 26 1 u5 T.length (T.map Ms.val) ∧ (∀ m ∈ T, MsT wr m) ∧ wr.ownsRow (R + 1) 26 1 u6 Y.length (Y.map Ms.val) ∧ (∀ m ∈ Y, MsT wr m) ∧ T.map Ms.l = Y.map Ms.l ∧ T.length ≤ j * 2000000 ∧ (∀ k, u5.ownBlock = some k → u6.ownBlock ≠ some k) ∧ Below w.heap.size w wr ∧ R + 1 ≤ wr.heap.size) (fun _ _ _ u7 _ => n - (intOf u7).toNat)
  case atStart => exact ⟨0, none, 0, 0, [], [], [], Nat.zero_le _, rfl, by omega, hR1, Rd.nil _ _, (fun a ha => by cases ha), World.ownsRow_nil _ _ _ _, World.ownsRow_nil _ _ _ _, by simp, World.ownsRow_nil _ _ _ _, by simp, rfl, by simp, (fun k hk => by cases hk), hbr1, by omega⟩
  case round =>
    clear hR1 hbr1 hz1
    obtain ⟨j, Aw, nw, cw, lw, T, Y, hj, rfl, hnw, hbx, hrw, hrwB, ho4, ho5, hT, ho6, hY, hTY, hTn, hdist, hbr, hzr⟩ := hrel
    have HT := Lib.hid (And.intro hT (And.intro hY (And.intro hTY hTn)))
    have HD := Lib.hid hdist
    have HB := Lib.hid hrwB
    have hlwn := hrw.blen
    have HLW := Lib.hid hlwn
    clear hT hY hTY hTn hdist hrwB hlwn
    have hXr := hX.below hbr
    by_cases hlt : j < n
    · have hlt' : (j : Int) < (n : Int) := by omega
      obtain ⟨m, hm⟩ : ∃ m, X[j]? = some m := ⟨_, List.getElem?_eq_getElem (by have := HXN.out; omega)⟩
      obtain ⟨ad, rfl⟩ : ∃ a, A = some a := by
        cases A with
        | none => have := (hX.r.nil_ rfl).1; omega
        | some a => exact ⟨a, rfl⟩
      have hcj := hXr.at j m hm
      have hmo := hXr.m m (List.mem_of_getElem? hm)
      have hms := hXs m (List.mem_of_getElem? hm)
      obtain ⟨ma, mn, mc, ml⟩ := m
      unfold MsOk at hmo
      dsimp only at hcj hmo hms
      have hml := hmo.blen
      have HML := Lib.hid hml
      have HJ := Lib.hid hm
      clear hml hm
      -- the piece, and the reader fed
      go_upto_region 11 with (first | (at_builtin; refine wpList_app_nil wr wr wr.heap.size rfl (.const (.slice none 0 0)) (.tmp 28) 26 26 5 (.int .u8 0) 1 1 rfl Try.underlying26 info_u8 rfl (by omega) (by omega) rfl _ mn (bs ml) rfl (.slice hmo (bs_one _)) (Below.refl _ _) (Nat.le_refl _) (by omega) ?_; intro v8 w1 ho1 hb1 hg1; obtain ⟨Af, cf, rfl, hr1⟩ := own_rd ho1; have hbx1 : Boxed w1 R 48 (.slice Aw nw cw) := (hb1.block R hzr).trans hbx; have hf := feed_ w1 R Aw nw cw lw Af mn cf ml hbx1 (hrw.below hb1) hr1 (by omega); unfold FeedP at hf; have HF2 := Lib.hid hf; clear hf) | (go_at_call 10; refine HF2.out.mono ?_; rintro e w2 ⟨T2, v9, r9, rfl, ho9, hT2, hT2l, hR2, hor, hg2⟩))
      obtain ⟨L, hL⟩ : ∃ L, lw ++ ml = L := ⟨_, rfl⟩
      rw [hL] at hT2l hor
      obtain ⟨A9, c9, rfl, hr9⟩ := own_rd ho9
      obtain ⟨Ar, cr, rfl, hrr⟩ := own_rd hor
      have hb01 : Below wr.heap.size wr w1 := hb1
      have hz01 := hb1.size
      have hz12 := hg2.size
      have hXq : Mss w2 (some ad) n c X := hX.below (feed_below (below_trans hbr hb1) hwR hg2)
      have hbr2 := feed_below (below_trans hbr hb1) hwR hg2
      -- what lies behind the feeding
      have p4 := own_oth (own_below ho4 hb1) hg2 (fun k hk e => by have := own_base ho4 k hk; cases e; omega)
      have p5 := own_oth (own_below ho5 hb1) hg2 (fun k hk e => by have := own_base ho5 k hk; cases e; omega)
      have p6 := own_oth (own_below ho6 hb1) hg2 (fun k hk e => by have := own_base ho6 k hk; cases e; omega)
      have l4 := fun k hk => (ho4.lt k hk)
      have l5 := fun k hk => (ho5.lt k hk)
      have l6 := fun k hk => (ho6.lt k hk)
      have lf := fun k hk => (ho1.lt k hk)
      have pf := own_oth ho1 hg2 (fun k hk e => by have := own_base ho1 k hk; cases e; omega)
      have pT : ∀ m ∈ T, MsT w2 m ∧ ∀ a, m.a = some a → a.block < wr.heap.size := fun m hm => ⟨((HT.out.1 m hm).below hb1).kept hg2 (fun k hk => by cases hk; exact not_byt_box hbx1), fun a ha => Byt_lt ((HT.out.1 m hm).2 a ha)⟩
      have pY : ∀ m ∈ Y, MsT w2 m ∧ ∀ a, m.a = some a → a.block < wr.heap.size := fun m hm => ⟨((HT.out.2.1 m hm).below hb1).kept hg2 (fun k hk => by cases hk; exact not_byt_box hbx1), fun a ha => Byt_lt ((HT.out.2.1 m hm).2 a ha)⟩
      have pT2 : ∀ m ∈ T2, MsT w2 m ∧ ∀ a, m.a = some a → w1.heap.size ≤ a.block := fun m hm => ⟨⟨(hT2 m hm).1, fun a ha => ((hT2 m hm).2 a ha).2⟩, fun a ha => ((hT2 m hm).2 a ha).1⟩
      have HP := Lib.hid (And.intro pT (And.intro pY pT2))
      have HLL := Lib.hid (And.intro hL hT2l)
      have hcj2 : w2.cell? (ad.add j) = some (.slice ma mn mc) := hg2.cell ((hb1.cell (World.block_lt_of_cell? _ _ hcj)).trans hcj) (by
        have := World.block_lt_of_cell? _ _ (hX.at j ⟨ma, mn, mc, ml⟩ HJ.out)
        intro e
        cases e
        omega)
      clear pT pY pT2 hL hT2l hT2 hcj hXr HF2
      obtain ⟨A4, c4, rfl, hr4⟩ := own_rd p4
      obtain ⟨i0, hi, hzz⟩ := Option.map_eq_some_iff.1 info_u8
      simp only [Prod.mk.injEq] at hzz
      obtain ⟨hz0, hz1', hz2'⟩ := hzz
      obtain ⟨v1, W1, HR1, q1, g1, _⟩ := own_fresh (P := Try.prog) w2.drew w2.heap.size 26 26 5 i0 (.int .u8 0) 1 Try.underlying26 hi hz0 hz1' hz2' rfl (.slice none 0 0) 0 [] (World.ownsRow_nil _ _ _ _) A4 nw c4 (bs lw) hr4.drew (bs_one _) (by simp only [maxLen]; omega) (by omega) (by omega) (Nat.le_refl _)
      rw [Nat.zero_add, List.nil_append] at q1
      have HB1 : Below w2.heap.size w2 W1 := (Below.refl _ _).drew.grown g1 (Nat.le_refl _) (fun k hk => by cases hk)
      have hmo2 : Rd w2 1 ma mn mc (bs ml) := hXq.m ⟨ma, mn, mc, ml⟩ (List.mem_of_getElem? HJ.out)
      obtain ⟨v2, W2, HR2, q2, g2, _⟩ := own_fresh (P := Try.prog) W1 w2.heap.size 26 26 5 i0 (.int .u8 0) 1 Try.underlying26 hi hz0 hz1' hz2' rfl v1 nw (bs lw) q1 ma mn mc (bs ml) (hmo2.below HB1) (bs_one _) (by simp only [maxLen]; omega) (by omega) (by omega) HB1.size
      have HB2 : Below w2.heap.size w2 W2 := HB1.grown g2 HB1.size (fun k hk => own_base q1 k hk)
      obtain ⟨A2, c2, rfl, hr2⟩ := own_rd q2
      rw [← bs_append, HLL.out.1] at hr2
      have HCUT := refCut W2 A2 (nw + mn) c2 L hr2 (by omega)
      clear hi hz0 hz1' hz2' q1 g1 q2 g2 hr2
      refine wp_region_loudR (by kernel_rfl) (by kernel_rfl) ?fr_r11 ?hfr_r11 [1, 6, 7] (VV (r11c A4 nw c4 ad n c j ma mn mc v1 A2 (nw + mn) c2 W2 L) (r11G A4 nw c4 ad n c j ma mn mc v1 A2 (nw + mn) c2 W2 L)) (I11 w2 W1 W2) ?h0_r11 ?hob_r11 ?hQ_r11 (by decide)
      case hfr_r11 =>
        intro xs
        simp only [fillL]
        go_simp
        exact rfl
      case h0_r11 =>
        exact ⟨(fun h => by cases h), (fun h => by cases h), (fun _ => rfl), (fun h => by cases h)⟩
      case hob_r11 =>
        refine ⟨?_, ?_, ?_, ?_, ?_, ?_, ?_, ?_, ?_, ?_, ?_, ?_, ?_, trivial⟩
        · -- 0: slot 37 := move t4
          intro xs d W hd hn hI hV
          rw [if_neg (by decide)]
          refine ifp (fun hdi => ?_) rfl
          clear hV hd hn hI
          go_simp
          exact rfl
        · -- 1: slot 38 := call { builtin append, args := #[const (Value.slice none 0 0), t37], argTypes :=
          intro xs d W hd hn hI hV
          have x0 : xs 0 = .slice A4 nw c4 := hV 0 (hd 0 (by decide))
          rw [if_pos (by decide)]
          intro hd1
          have hJ : I11 w2 W1 W2 [d 1, d 6, d 7] W := hI
          obtain ⟨h6, h7, hW⟩ := hJ.e0 hd1
          have hV' := hV
          have hn' := fun k hk => hn k hd1 hk
          rw [hW]
          refine ⟨?_, rfl⟩
          show OpGives _ _ _ _ _
          refine gives_run _ _ _ 26 26 rfl (.slice none 0 0) (.slice A4 nw c4) rfl x0 v1 W1 HR1 ⟨?_, rfl, fun j' hj' => ?_⟩
          · show I11 w2 W1 W2 [true, d 6, d 7] W1
            rw [h6, h7]
            exact ⟨(fun h => by cases h), (fun h => by cases h), (fun _ => rfl), (fun h => by cases h)⟩
          · rcases j' with _ | _ | _ | _ | _ | _ | _ | _ | _ | _ | _ | _ | _ | j' <;> first | exact hV' _ hj' | exact absurd hj' (by rw [hn' _ (by kernel_rfl)]; decide) | trivial
        · -- 2: slot 39 := move t0
          intro xs d W hd hn hI hV
          rw [if_neg (by decide)]
          refine ifp (fun hdi => ?_) rfl
          clear hV hd hn hI
          go_simp
          exact rfl
        · -- 3: slot 40 := move t7
          intro xs d W hd hn hI hV
          rw [if_neg (by decide)]
          refine ifp (fun hdi => ?_) rfl
          clear hV hd hn hI
          go_simp
          exact rfl
        · -- 4: slot 41 := indexAddr 22 t39 t40
          intro xs d W hd hn hI hV
          have x2 : xs 2 = .slice (some ad) n c := hV 2 (hd 2 (by decide))
          have x3 : xs 3 = .int .i64 (j : Int) := hV 3 (hd 3 (by decide))
          rw [if_neg (by decide)]
          refine ifp (fun hdi => ?_) rfl
          clear hV hd hn hI
          go_simp
          exact rfl
        · -- 5: slot 42 := load 26 t41
          intro xs d W hd hn hI hV
          have x4 : xs 4 = .pointer (some (ad.add j)) := hV 4 (hd 4 (by decide))
          rw [if_neg (by decide)]
          refine ifp (fun hdi => ?_) rfl
          have hJ : I11 w2 W1 W2 [d 1, d 6, d 7] W := hI
          have hcell := ((hJ.at HB1 HB2).cell (World.block_lt_of_cell? _ _ hcj2)).trans hcj2
          clear hV hd hn hI hJ
          go_simp
          exact rfl
        · -- 6: slot 43 := call { builtin append, args := #[t38, t42], argTypes := #[26, 26] }
          intro xs d W hd hn hI hV
          have x1 : xs 1 = v1 := hV 1 (hd 1 (by decide))
          have x5 : xs 5 = .slice ma mn mc := hV 5 (hd 5 (by decide))
          rw [if_pos (by decide)]
          intro hd6
          have hJ : I11 w2 W1 W2 [d 1, d 6, d 7] W := hI
          have hd1 : d 1 = true := hd 1 (by decide)
          obtain ⟨h7, hW⟩ := hJ.e1 hd1 hd6
          have hV' := hV
          have hn' := fun k hk => hn k hd6 hk
          rw [hW]
          refine ⟨?_, rfl⟩
          show OpGives _ _ _ _ _
          refine gives_run _ _ _ 26 26 rfl v1 (.slice ma mn mc) x1 x5 (.slice A2 (nw + mn) c2) W2 HR2 ⟨?_, rfl, fun j' hj' => ?_⟩
          · show I11 w2 W1 W2 [d 1, true, d 7] W2
            rw [hd1, h7]
            exact ⟨(fun _ => rfl), (fun h => by cases h), (fun _ => rfl), (fun h => by cases h)⟩
          · rcases j' with _ | _ | _ | _ | _ | _ | _ | _ | _ | _ | _ | _ | _ | j' <;> first | exact hV' _ hj' | exact absurd hj' (by rw [hn' _ (by kernel_rfl)]; decide) | trivial
        · -- 7: slot 44 := call { value (Operand.func 11), args := #[t43], argTypes := #[26] }
          intro xs d W hd hn hI hV
          have x6 : xs 6 = .slice A2 (nw + mn) c2 := hV 6 (hd 6 (by decide))
          rw [if_pos (by decide)]
          intro hd7
          have hJ : I11 w2 W1 W2 [d 1, d 6, d 7] W := hI
          have hd6 : d 6 = true := hd 6 (by decide)
          have hd1 : d 1 = true := by
            cases h1 : d 1 with
            | true => rfl
            | false => have := (hJ.e0 h1).1; rw [hd6] at this; cases this
          have hW := hJ.e2 hd6 hd7
          have hV' := hV
          have hn' := fun k hk => hn k hd7 hk
          rw [hW]
          clear hV hd hn hI hJ hW
          go_simp
          refine HCUT.mono ?_
          rintro e w5 ⟨Y, v, r, rfl, q1, q2, q3, q4, q5⟩
          refine ⟨_, rfl, ?_, ⟨v, r, rfl, ⟨Y, q1, q2, q3⟩, q4⟩, fun j' hj' => ?_⟩
          · show I11 w2 W1 W2 [d 1, d 6, true] w5
            rw [hd1, hd6]
            exact ⟨(fun _ => rfl), (fun _ => rfl), (fun h => by cases h), (fun _ => q5)⟩
          · rcases j' with _ | _ | _ | _ | _ | _ | _ | _ | _ | _ | _ | _ | _ | j' <;> first | exact hV' _ hj' | exact absurd hj' (show ¬ d 7 = true by rw [hd7]; decide) | exact absurd hj' (by rw [hn' _ (by kernel_rfl)]; decide) | trivial
        · -- 8: slot 36 := move t44
          intro xs d W hd hn hI hV
          have g7 : (r11G A4 nw c4 ad n c j ma mn mc v1 A2 (nw + mn) c2 W2 L 7 (xs 7) W) := hV 7 (hd 7 (by decide))
          rw [if_neg (by decide)]
          refine ifp (fun hdi => ?_) rfl
          clear hV hd hn hI
          obtain ⟨v, r, e7, p1, p2⟩ := g7
          go_simp
          exact ⟨v, r, rfl, p1, p2⟩
        · -- 9: slot 45 := extract t36 0
          intro xs d W hd hn hI hV
          have g8 : (r11G A4 nw c4 ad n c j ma mn mc v1 A2 (nw + mn) c2 W2 L 8 (xs 8) W) := hV 8 (hd 8 (by decide))
          rw [if_neg (by decide)]
          refine ifp (fun hdi => ?_) rfl
          clear hV hd hn hI
          obtain ⟨v, r, e8, p1, p2⟩ := g8
          go_simp
          exact p1
        · -- 10: slot 46 := extract t36 1
          intro xs d W hd hn hI hV
          have g8 : (r11G A4 nw c4 ad n c j ma mn mc v1 A2 (nw + mn) c2 W2 L 8 (xs 8) W) := hV 8 (hd 8 (by decide))
          rw [if_neg (by decide)]
          refine ifp (fun hdi => ?_) rfl
          clear hV hd hn hI
          obtain ⟨v, r, e8, p1, p2⟩ := g8
          go_simp
          exact p2
        · -- 11: slot 11 := assign t45
          intro xs d W hd hn hI hV
          have g9 : (r11G A4 nw c4 ad n c j ma mn mc v1 A2 (nw + mn) c2 W2 L 9 (xs 9) W) := hV 9 (hd 9 (by decide))
          rw [if_neg (by decide)]
          refine ifp (fun hdi => ?_) rfl
          clear hV hd hn hI
          go_simp
          exact g9
        · -- 12: slot 12 := assign t46
          intro xs d W hd hn hI hV
          have g10 : (r11G A4 nw c4 ad n c j ma mn mc v1 A2 (nw + mn) c2 W2 L 10 (xs 10) W) := hV 10 (hd 10 (by decide))
          rw [if_neg (by decide)]
          refine ifp (fun hdi => ?_) rfl
          clear hV hd hn hI
          go_simp
          exact g10
      case hQ_r11 =>
        intro xs W hI hV
        have x0 : xs 0 = .slice A4 nw c4 := hV 0 (by decide)
        have x1 : xs 1 = v1 := hV 1 (by decide)
        have x2 : xs 2 = .slice (some ad) n c := hV 2 (by decide)
        have x3 : xs 3 = .int .i64 (j : Int) := hV 3 (by decide)
        have x4 : xs 4 = .pointer (some (ad.add j)) := hV 4 (by decide)
        have x5 : xs 5 = .slice ma mn mc := hV 5 (by decide)
        have x6 : xs 6 = .slice A2 (nw + mn) c2 := hV 6 (by decide)
        have x7 : r11G A4 nw c4 ad n c j ma mn mc v1 A2 (nw + mn) c2 W2 L 7 (xs 7) W := hV 7 (by decide)
        have x8 : r11G A4 nw c4 ad n c j ma mn mc v1 A2 (nw + mn) c2 W2 L 8 (xs 8) W := hV 8 (by decide)
        have x9 : r11G A4 nw c4 ad n c j ma mn mc v1 A2 (nw + mn) c2 W2 L 9 (xs 9) W := hV 9 (by decide)
        have x10 : r11G A4 nw c4 ad n c j ma mn mc v1 A2 (nw + mn) c2 W2 L 10 (xs 10) W := hV 10 (by decide)
        have x11 : r11G A4 nw c4 ad n c j ma mn mc v1 A2 (nw + mn) c2 W2 L 11 (xs 11) W := hV 11 (by decide)
        have x12 : r11G A4 nw c4 ad n c j ma mn mc v1 A2 (nw + mn) c2 W2 L 12 (xs 12) W := hV 12 (by decide)
        clear hV
        have hb3 : Below W2.heap.size W2 W := (show I11 w2 W1 W2 [true, true, true] W from hI).2.2.2 rfl
        obtain ⟨Y2, o11, y11, yl⟩ : PV W2 L (xs 11) W := x11
        have o12 : PR W2 L (xs 12) W := x12
        unfold PR at o12
        have hb23 : Below w2.heap.size w2 W := HB2.trans (hb3.mono HB2.size)
        have hz23 := hb23.size
        have hzW2 := HB2.size
        obtain ⟨nr, hnr⟩ : ∃ nr, (cut L).2.length = nr := ⟨_, rfl⟩
        have hnr2 := cut_rest L
        rw [hnr] at hor hrr hR2 o12 hnr2
        obtain ⟨A11, c11, e11, hr11⟩ := own_rd o11
        obtain ⟨A12, c12, e12, hr12⟩ := own_rd o12
        have hTY2 : T2.map Ms.l = Y2.map Ms.l := HLL.out.2.trans yl.symm
        have hT2n : T2.length ≤ 1114113 := by
          have h1 := congrArg List.length HLL.out.2
          have h2 := cut_num L
          have h3 := congrArg List.length HLL.out.1
          have h4 := HLW.out
          have h5 := HML.out
          simp only [List.length_map, List.length_append] at h1 h3
          omega
        have HNR := Lib.hid hnr
        have HL2 := Lib.hid (And.intro yl (And.intro hTY2 y11))
        clear x7 x8 x9 x10 x12 hI hnr yl hTY2 y11 HCUT HR1 HR2
        rw [e11] at o11
        rw [e12] at o12
        have hR3 : Boxed W R 48 (.slice Ar nr cr) := (hb23.block R (by omega)).trans hR2
        have hXW := hXq.below hb23
        have o9' := ho9
        -- all that lies there, the document having cut
        have s9 := own_below o9' hb23
        have sr := own_below hor hb23
        have sf := own_below pf hb23
        have s5 := own_below p5 hb23
        have s6 := own_below p6 hb23
        have hrf : Rd W 1 (some ad) n c (X.map Ms.val) := hXW.r
        have hrm : Rd W 1 ma mn mc (bs ml) := hXW.m ⟨ma, mn, mc, ml⟩ (List.mem_of_getElem? HJ.out)
        have hcj3 := hXW.at j ⟨ma, mn, mc, ml⟩ HJ.out
        dsimp only at hcj3
        have hfr : Rd W 1 Af mn cf (bs ml) := by obtain ⟨a', c', e', h'⟩ := own_rd sf; cases e'; exact h'
        have hM9 : Mss W A9 T2.length c9 T2 := ⟨by obtain ⟨a', c', e', h'⟩ := own_rd s9; cases e'; exact h', fun m hm => ((HP.out.2.2 m hm).1.below hb23).1⟩
        have hM11 : Mss W A11 Y2.length c11 Y2 := ⟨hr11, fun m hm => ((HL2.out.2.2 m hm).1).1⟩
        have htx := fun q => texts_ (W.drewN q) A9 T2.length c9 T2 A11 Y2.length c11 Y2 (hM9.drewN q) (hM11.drewN q) HL2.out.2.1 (by omega)
        have hlf := fun q => left_ (W.drewN q) R Ar nr cr hR3.cell
        obtain ⟨sl, hsl⟩ : ∃ sl, str ml = sl := ⟨_, rfl⟩
        have k1 := fun q => run_conv_str (P := Try.prog) (W.drewN q) (dst := 9) Try.underlying26 Try.underlying5 Try.underlying9 (hfr.drewN q)
        have k2 := fun q => run_conv_str (P := Try.prog) (W.drewN q) (dst := 9) Try.underlying26 Try.underlying5 Try.underlying9 (hrm.drewN q)
        rw [hsl] at k1 k2
        have HTX := Lib.hid htx
        have HLF := Lib.hid hlf
        have HW1 := Lib.hid (And.intro hM9 (And.intro hM11 (And.intro hfr (And.intro hrm hrf))))
        clear htx hlf hsl hM9 hM11 hfr hrm hrf hXW hXq hmo hmo2 hr4 hr9 hr11 hr12 hrr hR2
        rw [e11, e12]
        clear e11 e12
        go_wp2
        go_quiet (first | (go_at_call 12; exact Calls.quiet_of (HTX.out _)) | (go_at_call 13; exact Calls.quiet_of_same (flip_same' (HLF.out _))))
        clear k1 k2
        go_wp2
        have hb4 := below_drewN (Below.refl W.heap.size W) nq
        have hbW := below_trans hbr2 (hb23.trans (below_drewN (Below.refl w2.heap.size W) nq))
        obtain ⟨S0, hS0⟩ : ∃ s, wr.heap.size = s := ⟨_, rfl⟩
        have t4 := own_below o12 hb4
        have t5 := own_below s5 hb4
        have t6 := own_below s6 hb4
        have t9 := own_below s9 hb4
        have t11 := own_below o11 hb4
        have tr := own_below sr hb4
        have tf := own_below sf hb4
        have tR : Boxed (W.drewN nq) R 48 (.slice Ar nr cr) := hR3
        have pT := fun m hm => (⟨((HP.out.1 m hm).1.below hb23).below hb4, (HP.out.1 m hm).2⟩ : MsT (W.drewN nq) m ∧ ∀ a, m.a = some a → a.block < wr.heap.size)
        have pY := fun m hm => (⟨((HP.out.2.1 m hm).1.below hb23).below hb4, (HP.out.2.1 m hm).2⟩ : MsT (W.drewN nq) m ∧ ∀ a, m.a = some a → a.block < wr.heap.size)
        have pT2 := fun m hm => (⟨((HP.out.2.2 m hm).1.below hb23).below hb4, (HP.out.2.2 m hm).2⟩ : MsT (W.drewN nq) m ∧ ∀ a, m.a = some a → w1.heap.size ≤ a.block)
        have pY2 := fun m hm => (⟨(HL2.out.2.2 m hm).1.below hb4, (HL2.out.2.2 m hm).2⟩ : MsT (W.drewN nq) m ∧ ∀ a, m.a = some a → W2.heap.size ≤ a.block)
        have hzW := hb4.size
        rw [hS0] at l5 l6 lf tf pT pY hz01 hzr
        obtain ⟨S1, hS1⟩ : ∃ s, w1.heap.size = s := ⟨_, rfl⟩
        rw [hS1] at lf hz01 hz12 t9 tr pT2
        obtain ⟨S2, hS2⟩ : ∃ s, w2.heap.size = s := ⟨_, rfl⟩
        rw [hS2] at hz12 hz23 hzW2
        obtain ⟨S3, hS3⟩ : ∃ s, W2.heap.size = s := ⟨_, rfl⟩
        rw [hS3] at hzW2 t4 t11 pY2
        have hz3 := hb3.size
        rw [hS3] at hz3
        obtain ⟨W4, hW4⟩ : ∃ x, W.drewN nq = x := ⟨_, rfl⟩
        rw [hW4] at hzW hbW t4 t5 t6 t9 t11 tr tf tR pT pY pT2 pY2 ⊢
        have HTT := Lib.hid (And.intro (And.intro HT.out.2.2.1 HL2.out.2.1) (And.intro HNR.out HD.out))
        have hTn := HT.out.2.2.2
        have HQ := Lib.hid (And.intro pT (And.intro pY (And.intro pT2 pY2)))
        clear pT pY pT2 pY2 HP HL2 HT HD s9 sr sf s5 s6 o11 o12 hR3 hcj3 hcj2 HB1 HB2 hb3 hb23 hb4 hbr2 hS0 hS1 hS2 hS3 hW4 p4 p5 p6 pf ho1 ho4 ho5 ho6 ho9 hor hg2 hb01 hb1 hbx1 hbx hrw hbr hr1 hg1 HTX HLF HW1 HLL HB HLW hX o9'
        have hlm := tf.1
        have hbr0 : w.heap.size ≤ W4.heap.size := hbW.size
        go_loopw [13] (fun u13 V => ∃ (i : Nat) (ys : List Int), i ≤ mn ∧ u13 = .int .i64 i ∧ V.ownsRow S0 5 1 (.slice Af mn cf) mn (ys.map (Value.int .u8)) ∧ W4.grownBy V (Value.slice Af mn cf).ownBlock) (fun u13 _ => mn - (intOf u13).toNat)
        case atStart => exact ⟨0, ml.map (fun b => (b.toNat : Int)), Nat.zero_le _, rfl, by rw [← bs_nums]; exact tf, ⟨rfl, rfl, rfl, Nat.le_refl _, fun _ _ _ => rfl⟩⟩
        case round =>
          obtain ⟨i, ys, hi, rfl, hof, hgf⟩ := hrel
          by_cases hlt3 : i < mn
          · have hlt3' : (i : Int) < (mn : Int) := by omega
            obtain ⟨g, c', e', _⟩ := own_some hof (by omega)
            cases e'
            have hyl : ys.length = mn := by have := hof.1; simpa using this
            obtain ⟨y, hy⟩ : ∃ y, ys[i]? = some y := ⟨_, List.getElem?_eq_getElem (by omega)⟩
            have hcy := own_cellj hof i (.int .u8 y) (by simp [hy])
            have hfy := own_free hof i
            have HOF := Lib.hid hof
            have HYL := Lib.hid hyl
            clear hof hyl hy
            go_wp2
            have hof2 := fun u => own_put HOF.out i u hlt3
            have hgs := fun u => grown_set wr ⟨g, i, none⟩ u
            go_roundw
            case rel => exact ⟨i + 1, ys.set i _, by omega, by go_num, by rw [List.map_set]; exact hof2 _, hgf.trans (hgs _)⟩
            case measure => simp [intOf]; omega
          · have hlt3' : ¬ (i : Int) < (mn : Int) := by omega
            have hzf := hgf.size
            have hnF : ∀ k, k < S0 ∨ S1 ≤ k → (Value.slice Af mn cf).ownBlock ≠ some k := fun k hk e => by have := lf k e; omega
            have f4 := own_oth t4 hgf (fun k hk => hnF k (by have := own_base t4 k hk; omega))
            have f5 := own_oth t5 hgf (fun k hk => hnF k (by have := l5 k hk; omega))
            have f6 := own_oth t6 hgf (fun k hk => hnF k (by have := l6 k hk; omega))
            have f9 := own_oth t9 hgf (fun k hk => hnF k (by have := own_base t9 k hk; omega))
            have f11 := own_oth t11 hgf (fun k hk => hnF k (by have := own_base t11 k hk; omega))
            have fr := own_oth tr hgf (fun k hk => hnF k (by have := own_base tr k hk; omega))
            have fR := tR.kept hgf (fun e => hnF R (by omega) e.symm)
            have hbF := hbW.grown hgf (by have := hbr0; omega) (fun k hk => by have := lf k hk; omega)
            have fT : ∀ m ∈ T ++ T2, MsT wr m := fun m hm => by
              rcases List.mem_append.1 hm with h | h
              · exact (HQ.out.1 m h).1.kept2 hgf (fun a ha e => hnF _ (.inl ((HQ.out.1 m h).2 a ha)) e.symm)
              · exact (HQ.out.2.2.1 m h).1.kept2 hgf (fun a ha e => hnF _ (.inr ((HQ.out.2.2.1 m h).2 a ha)) e.symm)
            have fY : ∀ m ∈ Y ++ Y2, MsT wr m := fun m hm => by
              rcases List.mem_append.1 hm with h | h
              · exact (HQ.out.2.1 m h).1.kept2 hgf (fun a ha e => hnF _ (.inl ((HQ.out.2.1 m h).2 a ha)) e.symm)
              · exact (HQ.out.2.2.2 m h).1.kept2 hgf (fun a ha e => hnF _ (.inr (Nat.le_trans (by omega) ((HQ.out.2.2.2 m h).2 a ha))) e.symm)
            have HFT := Lib.hid (And.intro fT fY)
            have r9 : Rd wr 1 A9 T2.length c9 (T2.map Ms.val) := by obtain ⟨a', c', e', h'⟩ := own_rd f9; cases e'; exact h'
            clear fT fY t4 t5 t6 t9 t11 tr tR HQ hof
            have hY2n : Y2.length = T2.length := by have := congrArg List.length HTT.out.1.2; simpa using this.symm
            have hYn : Y.length = T.length := by have := congrArg List.length HTT.out.1.1; simpa using this.symm
            have HYn := Lib.hid (And.intro hYn hY2n)
            have hYb : (Y.length + Y2.length) * 24 ≤ 140737488355328 := by omega
            have hTb : (T.length + T2.length) * 24 ≤ 140737488355328 := by omega
            clear hYn hY2n
            go_wp2_with (first | (refine wpList_appF wr (R + 1) rfl (.tmp 87) (.tmp 88) 22 26 (.slice none 0 0) 24 rfl Try.underlying22 info_bytes rfl (by omega) u5 T.length (T.map Ms.val) rfl f5 A9 T2.length c9 (T2.map Ms.val) rfl r9 (ms_one _) (by omega) hTb ?_; intro v5 V5 o5 g5 d5; have hz5 := g5.size; have e6 := own_oth f6 g5 (fun k hk e => HTT.out.2.2 k e hk); have e11 := own_oth f11 g5 (fun k hk e => by have := l5 k e; have := own_base f11 k hk; omega); have r11 : Rd V5 1 A11 Y2.length c11 (Y2.map Ms.val) := by { obtain ⟨a', c', e', h'⟩ := own_rd e11; cases e'; exact h' }) | (refine wpList_appF V5 (R + 1) rfl (.tmp 90) (.tmp 91) 22 26 (.slice none 0 0) 24 rfl Try.underlying22 info_bytes rfl (by omega) u6 Y.length (Y.map Ms.val) rfl e6 A11 Y2.length c11 (Y2.map Ms.val) rfl r11 (ms_one _) (by omega) hYb ?_; intro v6 V6 o6 g6 d6))
            have hz6 := g6.size
            have hv5 : ∀ k, v5.ownBlock = some k → u6.ownBlock ≠ some k := fun k hk e => by
              rcases d5 with d | d
              · rw [hk] at d
                exact HTT.out.2.2 k d.symm e
              · have h1 := d k hk
                have h2 := l6 k e
                omega
            have hv6 : ∀ k, v5.ownBlock = some k → v6.ownBlock ≠ some k := fun k hk e => by
              rcases d6 with d | d
              · rw [e] at d
                exact hv5 k hk d.symm
              · have h1 := d k e
                have h2 := (o5.lt k hk).2
                omega
            have o5' := own_oth o5 g6 (fun k hk e => hv5 k hk e)
            rw [← List.map_append, ← List.length_append] at o5' o6
            have kr := own_oth (own_oth fr g5 (fun k hk e => by have := l5 k e; have := own_base fr k hk; omega)) g6 (fun k hk e => by have := l6 k e; have := own_base fr k hk; omega)
            have k4 := own_lower (own_oth (own_oth f4 g5 (fun k hk e => by have := l5 k e; have := own_base f4 k hk; omega)) g6 (fun k hk e => by have := l6 k e; have := own_base f4 k hk; omega)) (show R + 1 ≤ S3 by omega)
            have kR := (fR.kept g5 (by intro e; have := own_base f5 R e.symm; omega)).kept g6 (by intro e; have := own_base f6 R e.symm; omega)
            have kT : ∀ m ∈ T ++ T2, MsT V6 m := fun m hm => ((HFT.out.1 m hm).kept g5 (not_byt_own f5)).kept g6 (not_byt_own e6)
            have kY : ∀ m ∈ Y ++ Y2, MsT V6 m := fun m hm => ((HFT.out.2 m hm).kept g5 (not_byt_own f5)).kept g6 (not_byt_own e6)
            have kb := (hbF.grown g5 (by omega) (fun k hk => by have := l5 k hk; omega)).grown g6 (by omega) (fun k hk => by have := l6 k hk; omega)
            have krr : Rd V6 1 Ar nr cr (bs (cut L).2) := by obtain ⟨a', c', e', h'⟩ := own_rd kr; cases e'; exact h'
            go_roundw
            case rel => exact ⟨j + 1, Ar, nr, cr, (cut L).2, T ++ T2, Y ++ Y2, by omega, by go_num, hnr2, kR, krr, (fun a ha => Byt.of_own kr a.block (by rw [ha]; rfl)), k4, o5', kT, o6, kY, by rw [List.map_append, List.map_append, HTT.out.1.1, HTT.out.1.2], by rw [List.length_append]; omega, hv6, kb, by omega⟩
            case measure => simp [intOf]; omega
    · have hlt' : ¬ (j : Int) < (n : Int) := by omega
      obtain ⟨A5, c5, rfl, hr5⟩ := own_rd ho5
      obtain ⟨A6, c6, rfl, hr6⟩ := own_rd ho6
      have htx := texts_ wr A5 T.length c5 T A6 Y.length c6 Y ⟨hr5, fun m hm => (HT.out.1 m hm).1⟩ ⟨hr6, fun m hm => (HT.out.2.1 m hm).1⟩ HT.out.2.2.1 (by have := HT.out.2.2.2; omega)
      have HTX := Lib.hid htx
      clear htx hr5 hr6 ho5 ho6 ho4 hrw hbx
      go_wp2_with (first | (go_at_call 12; refine HTX.out.mono ?_; rintro e w6 ⟨rfl, q, rfl⟩) | (go_at_call 8; refine (wakes _).mono ?_; rintro e w7 ⟨rfl, hb7⟩))
      go_ret
      exact ⟨rfl, below_trans (below_drewN hbr _) hb7⟩
end Go.Proofs.Ytmifnmnpihikgaa
