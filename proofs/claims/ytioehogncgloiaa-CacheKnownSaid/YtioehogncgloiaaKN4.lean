/- The law CacheKnown. -/
import Derived.Test.YtioehogncgloiaaKN5
namespace Go.Proofs.Ytioehogncgloiaa
open Go.RowKit Go.HL Go.Maps
set_option linter.unusedVariables false
set_option linter.unusedSimpArgs false
set_option maxRecDepth 100000 in
set_option maxHeartbeats 30000000 in
theorem cacheKnown_walk (w : World) : Calls Try.prog 7 #[] w (Tells w (.bool true)) := by
  have n1 := fun W => new_bad W 0 (by omega)
  have n2 := fun W => new_bad W 4097 (by omega)
  have n3 := new_ w 4096 (by omega) (by omega)
  have n4 := fun W => new_ W 2 (by omega) (by omega)
  obtain ⟨lo, hlo⟩ : ∃ x, w.heap.size = x := ⟨_, rfl⟩
  obtain ⟨C, hC⟩ : ∃ x, lo + 1 = x := ⟨_, rfl⟩
  rw [hlo, hC] at n3
  unfold ptr at n1 n2 n3 n4
  simp only [Option.map] at n1 n2 n3 n4
  go_enter Try.func7, Try.ntmps7
  go_upto_region 7 with (first | (go_at_call 9; refine (n1 _).mono ?_; clear n1; rintro e X1 ⟨rfl, ex1⟩; rw [ex1]; clear ex1 X1) | (go_at_call 9; refine (n2 _).mono ?_; clear n2; rintro e X1 ⟨rfl, ex1⟩; rw [ex1]; clear ex1 X1) | (go_at_call 9; refine n3.mono ?_; clear n3; rintro e W1 ⟨rfl, hc1, hb1⟩) | (go_at_call 9; refine (n4 _).mono ?_; clear n4; rintro e W2 ⟨rfl, hd2, hb2⟩))
  have hCH1 : ∀ x, CH C lo [] x → lo ≤ x ∧ x < W1.heap.size := fun x hx => ⟨(by
    rcases hx with (hx | hx | hx) | ⟨c, hc, _⟩
    · omega
    · omega
    · cases hx
    · cases hc), CH.lt hc1 x hx⟩
  have hCH2 : ∀ x, CH (W1.heap.size + 1) W1.heap.size [] x → W1.heap.size ≤ x := fun x hx => by
    rcases hx with (hx | hx | hx) | ⟨c, hc, _⟩
    · omega
    · omega
    · cases hx
    · cases hc
  have hz1 : lo ≤ W1.heap.size := by rw [← hlo]; exact (by rw [← hlo] at hb1; exact hb1 : Below w.heap.size w W1).size
  have K0 : Kw C lo (W1.heap.size + 1) W1.heap.size 4096 2 w W2 [] [] := ⟨hc1.below hb2, hd2, fun x hx => ⟨by rw [hlo]; exact (hCH1 x hx).1, fun h => by have := hCH2 x h; have := (hCH1 x hx).2; omega⟩, fun x hx => by have := hCH2 x hx; omega, below_trans (by rw [hlo]; exact hb1) hb2⟩
  obtain ⟨be, hbe⟩ : ∃ x, W1.heap.size = x := ⟨_, rfl⟩
  obtain ⟨E, hE⟩ : ∃ x, be + 1 = x := ⟨_, rfl⟩
  rw [hbe, hE] at K0 ⊢
  clear hCH1 hCH2 hz1 hc1 hb1 hd2 hb2 hbe hE hC
  have hp1 := fun (W : World) (K : Kw C lo E be 4096 2 w W [] []) (u : Value) (B : Nat) (ha : AnsO W B 0 false [rT 30, rT 5] [] [] u) => K.putC (by omega) (by omega) (by simp) (qL 97) (qL_ok _) (by show (3 : Nat) ≤ _; omega) 0 false [rT 30, rT 5] [] [] u B ha (by omega) (okT [30, 5] (by decide) (by decide)) okNil okNil 100
  rw [show ([] : List Ce).map Ce.e = [] from rfl, c1] at hp1
  unfold ptr at hp1
  simp only [Option.map] at hp1
  go_upto_region 9 with (first | (go_at_call 26; refine (asked_ _ 97).mono ?_; rintro e Wa ⟨rfl, hba⟩) | (go_at_call 27; refine (answered_ _ _ 2 2 [30, 5] (Rd.lit1 _ #[.int .u32 30, .int .u32 5] 40 _ rfl) (by omega)).mono ?_; rintro e Wb ⟨u, rfl, hau, hbb⟩; have Kb := ((K0.below hba).below (below_new _ (.cells #[.int .u32 30, .int .u32 5] 40))).below hbb) | (go_at_call 10; refine (hp1 _ Kb u _ hau).mono ?_; clear hp1; rintro e Wc ⟨rfl, ⟨rowc, hrc, K1⟩, -⟩))
  clear K0 Kb hau hba hbb
  go_wp2
  have hB1 := (Blk.new Wc 3 L1.toArray).alloc (.cells L2.toArray 71)
  have hB2 := Blk.new (Wc.alloc (.cells L1.toArray 3)) 71 L2.toArray
  rw [World.size_alloc] at hB2
  have K2 := (K1.below (below_new _ (.cells L1.toArray 3))).below (below_new _ (.cells L2.toArray 71))
  obtain ⟨h1, hh1⟩ : ∃ x, Wc.heap.size = x := ⟨_, rfl⟩
  obtain ⟨Wd, hWd⟩ : ∃ x, (Wc.alloc (.cells L1.toArray 3)).alloc (.cells L2.toArray 71) = x := ⟨_, rfl⟩
  rw [hWd] at hB1 hB2 K2
  rw [hh1] at hB1 hB2
  unfold L1 L2 at hWd
  rw [hWd, hh1]
  clear hWd hh1 K1
  go_loopw [11] (fun i wr => ∃ (k : Nat) (rowc : List Ce), k ≤ 4 ∧ i = .int .i64 k ∧ Kw C lo E be 4096 2 w wr rowc [] ∧ rowc.map Ce.e = [eA] ∧ Blk wr h1 3 L1 ∧ Blk wr (h1 + 1) 71 L2) (fun i _ => 4 - (intOf i).toNat)
  case atStart => exact ⟨0, rowc, by omega, rfl, K2, hrc, hB1, hB2⟩
  case round =>
    clear hrc K2 hB1 hB2 rowc
    obtain ⟨k, rowc, hk, rfl, K, hrc, hB1, hB2⟩ := hrel
    by_cases hlt : k < 4
    · obtain ⟨a, g, t1, t2, t3, t4, t5, t6, t7⟩ := tab k hlt
      have hki : (k : Int) < 4 := by omega
      have HB1 := Lib.hid hB1
      have HB2 := Lib.hid hB2
      have HT := Lib.hid (And.intro t4 t5)
      have hw0 := K.b.size
      clear hB1 hB2 t4 t5
      go_upto_region 14 with fail
      refine wp_region_loudX (by kernel_rfl) (by kernel_rfl) ?fr14 ?hfr14 [1, 6, 8, 10, 11] (VV (g14c C h1 k a) (g14G g)) (g14I C lo E be w wr) ?h014 ?hob14 ?hq14 (by decide)
      case hfr14 =>
        intro xs
        simp only [fillL]
        go_simp
        exact rfl
      case h014 =>
        intro ys
        have hdw : Below wr.heap.size wr wr.drew := ⟨rfl, rfl, rfl, Nat.le_refl _, fun _ _ => rfl⟩
        exact ⟨⟨rowc, K.below hdw, hrc⟩, Kst.below hdw, fun h => (by cases h), fun h => (by cases h)⟩
      case hob14 =>
        refine ⟨?_, ?_, ?_, ?_, ?_, ?_, ?_, ?_, ?_, ?_, ?_, ?_, ?_, trivial⟩
        · -- 0
          intro xs d W hd hn hI hV
          replace hI : GI C lo E be w wr (d 11) (d 10) (xs 8) (xs 10) W := hI
          rw [if_neg (by decide)]
          clear hV hd hn hI
          go_simp
          exact rfl
        · -- 1
          intro xs d W hd hn hI hV
          replace hI : GI C lo E be w wr (d 11) (d 10) (xs 8) (xs 10) W := hI
          rw [if_pos (by decide)]
          intro hdn
          have hV' := hV
          clear hV hd hn
          have hc := asked_ W 65
          have HI := Lib.hid hI
          clear hI
          go_simp
          refine hc.mono ?_
          rintro e9 W9 ⟨rfl, hb⟩
          have hks := Kst.below hb
          have hI9 := HI.out.below hb
          refine ⟨_, rfl, ?_, rfl, fun j hj => VV.any2 (hV' j hj) (fun h => g14G_st h (fun y hy => hy.kst hks))⟩
          show GI C lo E be w wr (upd d 1 true 11) (upd d 1 true 10) (upd xs 1 _ 8) (upd xs 1 _ 10) W9
          rw [upd_ne d true (show 11 ≠ 1 by decide), upd_ne d true (show 10 ≠ 1 by decide), upd_ne xs _ (show 8 ≠ 1 by decide), upd_ne xs _ (show 10 ≠ 1 by decide)]
          exact hI9
        · -- 2
          intro xs d W hd hn hI hV
          replace hI : GI C lo E be w wr (d 11) (d 10) (xs 8) (xs 10) W := hI
          rw [if_neg (by decide)]
          clear hV hd hn hI
          go_simp
          exact rfl
        · -- 3
          intro xs d W hd hn hI hV
          replace hI : GI C lo E be w wr (d 11) (d 10) (xs 8) (xs 10) W := hI
          rw [if_neg (by decide)]
          clear hV hd hn hI
          go_simp
          exact rfl
        · -- 4
          intro xs d W hd hn hI hV
          replace hI : GI C lo E be w wr (d 11) (d 10) (xs 8) (xs 10) W := hI
          have x2 : xs 2 = .slice (some ⟨h1, 0, none⟩) 4 4 := hV 2 (hd 2 (by decide))
          have x3 : xs 3 = .int .i64 (k : Int) := hV 3 (hd 3 (by decide))
          rw [if_neg (by decide)]
          clear hV hd hn hI
          go_simp
          exact rfl
        · -- 5
          intro xs d W hd hn hI hV
          replace hI : GI C lo E be w wr (d 11) (d 10) (xs 8) (xs 10) W := hI
          have x4 : xs 4 = .pointer (some ⟨h1, k, none⟩) := hV 4 (hd 4 (by decide))
          have c0 := (hI.s.blk _ _ _ HB1.out (by decide) (by decide)).cell k _ t1
          rw [if_neg (by decide)]
          clear hV hd hn hI
          go_simp
          exact rfl
        · -- 6
          intro xs d W hd hn hI hV
          replace hI : GI C lo E be w wr (d 11) (d 10) (xs 8) (xs 10) W := hI
          have x0 : xs 0 = .pointer (some ⟨C, 0, none⟩) := hV 0 (hd 0 (by decide))
          have x1 : xs 1 = (qL 65).val := hV 1 (hd 1 (by decide))
          have x5 : xs 5 = .int .i64 a := hV 5 (hd 5 (by decide))
          rw [if_pos (by decide)]
          intro hdn
          have hV' := hV
          clear hV hd hn
          obtain ⟨rw1, K1, hr1⟩ := hI.k
          have hc := K1.getC (qL 65) (qL_ok _) (by show (3 : Nat) ≤ _; omega) a
          rw [hr1, HT.out.1] at hc
          unfold ptr at hc
          simp only [Option.map] at hc
          have HI := Lib.hid hI
          clear hI K1
          go_simp
          refine hc.mono ?_
          rintro e9 W9 ⟨xv, rfl, ht, ⟨row9, hr9, K9⟩, hks⟩
          obtain ⟨y, rfl, hy⟩ := ht
          have hI := HI.out
          refine ⟨_, rfl, ?_, ⟨y, rfl, ?_⟩, fun j hj => VV.any2 (hV' j hj) (fun h => g14G_st h (fun y hy => hy.kst hks))⟩
          · show GI C lo E be w wr (upd d 6 true 11) (upd d 6 true 10) (upd xs 6 _ 8) (upd xs 6 _ 10) W9
            rw [upd_ne d true (show 11 ≠ 6 by decide), upd_ne d true (show 10 ≠ 6 by decide), upd_ne xs _ (show 8 ≠ 6 by decide), upd_ne xs _ (show 10 ≠ 6 by decide)]
            exact ⟨⟨row9, K9, hr9⟩, hI.s.trans hks, fun h => by
              obtain ⟨g9, q1, q2, q3, q4⟩ := hI.b h
              exact ⟨g9, q1, q2, fun h => hks.blk _ _ _ (q3 h) (by decide) (by decide), fun h => by obtain ⟨cs, q5, q6⟩ := q4 h; exact ⟨cs, q5, hks.blk _ _ _ q6 (by decide) (by decide)⟩⟩, hI.e⟩
          · rw [HT.out.2] at hy
            have e1 : eA.an.map (agedR g) = [rT (30 - g), rT (5 - g)] := by show [agedR g (rT 30), agedR g (rT 5)] = _; rw [agedT g 30 (by omega) (by omega), agedT g 5 (by omega) (by omega)]
            rw [e1] at hy
            exact hy
        · -- 7
          intro xs d W hd hn hI hV
          obtain ⟨y, e6, hy⟩ : ∃ y, xs 6 = .tuple #[y, .bool true] ∧ AnsO W 0 0 false [rT (30 - g), rT (5 - g)] [] [] y := hV 6 (hd 6 (by decide))
          rw [if_neg (by decide)]
          clear hV hd hn hI
          go_simp
          exact ⟨y, rfl, hy⟩
        · -- 8
          intro xs d W hd hn hI hV
          replace hI : GI C lo E be w wr (d 11) (d 10) (xs 8) (xs 10) W := hI
          obtain ⟨y, e7, hy⟩ : ∃ y, xs 7 = .tuple #[y, .bool true] ∧ AnsO W 0 0 false [rT (30 - g), rT (5 - g)] [] [] y := hV 7 (hd 7 (by decide))
          have hds : d 11 = false := hn 11 _ rfl (by decide)
          rw [if_pos (by decide)]
          intro hdn
          have hV' := hV
          clear hV hd hn
          have HI := Lib.hid hI
          have HY := Lib.hid hy
          have HDS := Lib.hid hds
          clear hI hy hds
          go_simp
          have hI := HI.out
          refine ⟨?_, HY.out, hV'⟩
          show GI C lo E be w wr (upd d 8 true 11) (upd d 8 true 10) (upd xs 8 _ 8) (upd xs 8 _ 10) W
          rw [upd_ne d true (show 11 ≠ 8 by decide), upd_ne d true (show 10 ≠ 8 by decide), upd_ne xs _ (show 10 ≠ 8 by decide)]
          exact ⟨hI.k, hI.s, fun h => by
            obtain ⟨g9, q1, q2, q3, q4⟩ := hI.b h
            exact ⟨g9, q1, q2, q3, fun h => by rw [HDS.out] at h; cases h⟩, hI.e⟩
        · -- 9
          intro xs d W hd hn hI hV
          replace hI : GI C lo E be w wr (d 11) (d 10) (xs 8) (xs 10) W := hI
          obtain ⟨y, e7, hy⟩ : ∃ y, xs 7 = .tuple #[y, .bool true] ∧ AnsO W 0 0 false [rT (30 - g), rT (5 - g)] [] [] y := hV 7 (hd 7 (by decide))
          clear hy
          rw [if_neg (by decide)]
          clear hV hd hn hI
          go_simp
          exact rfl
        · -- 10
          intro xs d W hd hn hI hV
          replace hI : GI C lo E be w wr (d 11) (d 10) (xs 8) (xs 10) W := hI
          have hds : d 11 = false := hn 11 _ rfl (by decide)
          rw [if_pos (by decide)]
          intro hdn
          have hV' := hV
          clear hV hd hn
          have hb := below_new W (.cells #[.int .u16 0, .bool false, .slice none 0 0, .slice none 0 0, .slice none 0 0] 28 )
          have hBn := Blk.new W 28 #[.int .u16 0, .bool false, .slice none 0 0, .slice none 0 0, .slice none 0 0]
          have hks := Kst.below hb
          have hsz := hI.s.size
          have hI9 := hI.below hb
          have HH := Lib.hid (And.intro hI9 (And.intro hsz (And.intro hBn hds)))
          clear hI9 hI hsz hBn hds
          go_simp
          obtain ⟨hI9, hsz, hBn, hds⟩ := HH.out
          refine ⟨?_, trivial, fun j hj => VV.any2 (hV' j hj) (fun h => g14G_st h (fun y hy => hy.kst hks))⟩
          show GI C lo E be w wr (upd d 10 true 11) (upd d 10 true 10) (upd xs 10 _ 8) (upd xs 10 _ 10) _
          rw [upd_ne d true (show 11 ≠ 10 by decide), upd_self, upd_ne xs _ (show 8 ≠ 10 by decide), upd_self, hds]
          exact ⟨hI9.k, hI9.s, fun _ => ⟨W.heap.size, rfl, hsz, fun _ => hBn, fun h => (by cases h)⟩, fun _ => rfl⟩
        · -- 11
          intro xs d W hd hn hI hV
          replace hI : GI C lo E be w wr (d 11) (d 10) (xs 8) (xs 10) W := hI
          have g8 : AnsO W 0 0 false [rT (30 - g), rT (5 - g)] [] [] (xs 8) := hV 8 (hd 8 (by decide))
          have hd10 : d 10 = true := hd 10 (by decide)
          rw [if_pos (by decide)]
          intro hdn
          have hV' := hV
          clear hV hd hn
          obtain ⟨g9, q1, q2, q3, -⟩ := hI.b hd10
          have hBg := q3 hdn
          obtain ⟨v1, v2, v3, e8, o1, o2, o3⟩ := g8.ex
          obtain ⟨A1, c1', rfl, -⟩ := own_rd o1
          obtain ⟨A2, c2', rfl, -⟩ := own_rd o2
          obtain ⟨A3, c3', rfl, -⟩ := own_rd o3
          have hfs := (Fr.refl (fun i => i = g9) W).setRow g9 #[.int .u16 0, .bool false, .slice A1 2 c1', .slice A2 0 c2', .slice A3 0 c3'] (.inl rfl)
          have hBn := hBg.row #[.int .u16 0, .bool false, .slice A1 2 c1', .slice A2 0 c2', .slice A3 0 c3']
          have hks : ∀ y, AnsO W 0 0 false [rT (30 - g), rT (5 - g)] [] [] y → AnsO (W.setRow g9 #[.int .u16 0, .bool false, .slice A1 2 c1', .slice A2 0 c2', .slice A3 0 c3']) 0 0 false [rT (30 - g), rT (5 - g)] [] [] y := fun y hy => by
            obtain ⟨z1, z2, z3, ez, p1, p2, p3⟩ := hy.ex
            have ff := fun (B : Nat) (v : Value) (n : Nat) (cs : List Value) (ho : W.ownsRow B 46 12 v n cs) => own_fr ho hfs (fun i hi e => own_ne_blk ho hBg (by decide) (by rw [← (show i = g9 from e)]; exact hi))
            exact ⟨z1, z2, z3, ez, ff _ _ _ _ p1, ff _ _ _ _ p2, ff _ _ _ _ p3⟩
          refine ⟨gives_put 28 (.tmp 12) (.tmp 86) rfl g9 #[.int .u16 0, .bool false, .slice A1 2 c1', .slice A2 0 c2', .slice A3 0 c3'] q1 e8 28 _ hBg sizeAns rfl rfl ?_, rfl⟩
          obtain ⟨rw1, K1, hr1⟩ := hI.k
          refine ⟨?_, rfl, fun j hj => VV.any2 (hV' j hj) (fun h => g14G_st h hks)⟩
          show GI C lo E be w wr (upd d 11 true 11) (upd d 11 true 10) (upd xs 11 _ 8) (upd xs 11 _ 10) _
          rw [upd_ne d true (show 10 ≠ 11 by decide), upd_self, upd_ne xs _ (show 8 ≠ 11 by decide), upd_ne xs _ (show 10 ≠ 11 by decide)]
          exact ⟨⟨rw1, K1.set hBg (by decide) (by decide) (by decide) (by omega) hfs, hr1⟩, hI.s.set q2 hfs, fun _ => ⟨g9, q1, q2, fun h => (by cases h), fun _ => ⟨_, e8, hBn⟩⟩, fun _ => hd10⟩
        · -- 12
          intro xs d W hd hn hI hV
          replace hI : GI C lo E be w wr (d 11) (d 10) (xs 8) (xs 10) W := hI
          have x9 : xs 9 = .bool true := hV 9 (hd 9 (by decide))
          rw [if_neg (by decide)]
          clear hV hd hn hI
          go_simp
          exact rfl
      case hq14 =>
        intro xs W6 hI hV
        replace hI : GI C lo E be w wr true true (xs 8) (xs 10) W6 := hI
        have g8 : AnsO W6 0 0 false [rT (30 - g), rT (5 - g)] [] [] (xs 8) := hV 8 (by decide)
        obtain ⟨gb, e10, hgb, -, hst⟩ := hI.b rfl
        obtain ⟨cs, e8, hBX⟩ := hst rfl
        obtain ⟨rowc6, K6, hrc6⟩ := hI.k
        have hB16 := hI.s.blk _ _ _ HB1.out (by decide) (by decide)
        have hB26 := hI.s.blk _ _ _ HB2.out (by decide) (by decide)
        have y10 : xs 10 = .pointer (some ⟨gb, 0, none⟩) := e10
        have y12 : xs 12 = .bool true := hV 12 (by decide)
        have y9 : xs 9 = .bool true := hV 9 (by decide)
        clear hV hI hst e10
        obtain ⟨v1, v2, v3, e8', o1, o2, o3⟩ := g8.ex
        rw [e8'] at e8
        obtain rfl : [.int .u16 0, .bool false, v1, v2, v3] = cs := by simpa using e8
        clear e8 e8' g8
        obtain ⟨gr, cr, rfl, hr⟩ := own_some o1 (by simp)
        have hs0 : Cells W6 ((⟨gr, 0, none⟩ : Addr).add (0 * 12)) (rT (30 - g)).cells := Rd.rec hr 0 (rT (30 - g)) rfl
        have hs1 : Cells W6 ((⟨gr, 0, none⟩ : Addr).add (1 * 12)) (rT (5 - g)).cells := Rd.rec hr 1 (rT (5 - g)) rfl
        have z3 : W6.cell? ⟨gr, 3, none⟩ = some (.int .u32 (30 - g)) := by have := hs0 3 _ rfl; rw [Addr.add_add, add_plain] at this; exact this
        have z15 : W6.cell? ⟨gr, 15, none⟩ = some (.int .u32 (5 - g)) := by have := hs1 3 _ rfl; rw [Addr.add_add, add_plain] at this; exact this
        have z16 : W6.cell? ⟨gr, 16, none⟩ = some (.string ⟨#[97, 98, 99, 100]⟩) := by have := hs1 4 _ rfl; rw [Addr.add_add, add_plain] at this; exact this
        have z2 := hBX.cell 2 _ rfl
        have m0 := hB26.cell (k * 2) _ t2
        have m1 := hB26.cell (k * 2 + 1) _ t3
        have HS6 := Lib.hid (And.intro K6 (And.intro hrc6 (And.intro hB16 hB26)))
        have hk4 : k < 4 := hlt
        clear K6 hrc6 hB16 hB26 hs0 hs1 hr o1 o2 o3 hBX K hrc t1 t2 t3 hw0
        rw [y10, y12]
        clear y10 y12 y9
        go_upto_region 15 with fail
        go_quiet (fail)
        obtain ⟨K6, hrc6, hB16, hB26⟩ := HS6.out
        have hbd := below_drewN (Below.refl W6.heap.size W6) nq
        go_wp2
        go_roundw
        case rel => exact ⟨k + 1, rowc6, by omega, by go_num, K6.below hbd, hrc6, hB16.below hbd, hB26.below hbd⟩
        case measure => simp [intOf]; omega
    · obtain rfl : k = 4 := by omega
      clear hlt
      have g17 := fun (W : World) (K : Kw C lo E be 4096 2 w W rowc []) => K.getC (qL 97) (qL_ok _) (by show (3 : Nat) ≤ _; omega) (-5)
      rw [hrc, c6] at g17
      unfold ptr at g17
      simp only [Option.map] at g17

      have HE17 := Lib.hid (show eA.an.map (agedR (ageV (clockV (-5)) eA)) = [rT 30, rT 5] by kernel_rfl)
      clear hB1 hB2
      go_upto_region 18 with (first | (go_at_call 26; refine (asked_ _ 97).mono ?_; rintro e Y1 ⟨rfl, hY1⟩) | (go_at_call 11; refine (g17 _ (K.below hY1)).mono ?_; clear g17; rintro e Y2 ⟨xv, rfl, ht, ⟨row2, hr2, K2⟩, -⟩; obtain ⟨y, rfl, hy⟩ := ht; rw [HE17.out] at hy; have hy2 : AnsO Y2 0 0 false [rT 30, rT 5] [] [] y := hy; clear hy; obtain ⟨v1, v2, v3, rfl, o1, o2, o3⟩ := hy2.ex; clear hy2; obtain ⟨gr, q1, rfl, hr⟩ := own_some o1 (by decide); obtain ⟨A2, q2, rfl, -⟩ := own_rd o2; obtain ⟨A3, q3, rfl, -⟩ := own_rd o3))
      have B17 := Blk.new Y2 28 #[.int .u16 0, .bool false, .slice (some ⟨gr, 0, none⟩) 2 q1, .slice A2 0 q2, .slice A3 0 q3]
      have b17 := below_new Y2 (.cells #[.int .u16 0, .bool false, .slice (some ⟨gr, 0, none⟩) 2 q1, .slice A2 0 q2, .slice A3 0 q3] 28 )
      have K17 := K2.below b17
      have hrr := hr.below b17
      obtain ⟨ga, hga⟩ : ∃ x, Y2.heap.size = x := ⟨_, rfl⟩
      obtain ⟨Z1, hZ1⟩ : ∃ x, Y2.alloc (.cells #[.int .u16 0, .bool false, .slice (some ⟨gr, 0, none⟩) 2 q1, .slice A2 0 q2, .slice A3 0 q3] 28 ) = x := ⟨_, rfl⟩
      have o17 := own_below o1 b17
      rw [hZ1] at B17 K17 hrr o17 ⊢
      rw [hga] at B17 ⊢
      clear hZ1 b17 K2 hr o1 o2 o3 K hrc
      have g18 := fun (W : World) (K : Kw C lo E be 4096 2 w W row2 []) => K.getC (qL 97) (qL_ok _) (by show (3 : Nat) ≤ _; omega) (150)
      rw [hr2, c7] at g18
      unfold ptr at g18
      simp only [Option.map] at g18
      go_upto_region 19 with (first | (go_at_call 26; refine (asked_ _ 97).mono ?_; rintro e Y3 ⟨rfl, hY3⟩) | (go_at_call 11; refine (g18 _ (K17.below hY3)).mono ?_; clear g18; rintro e Y4 ⟨xv, rfl, ht, ⟨row4, hr4, K4⟩, ks4⟩; obtain rfl : xv = .tuple #[.agg #[.int .u16 0, .bool false, .slice none 0 0, .slice none 0 0, .slice none 0 0], .bool false] := ht))
      obtain rfl := no_row hr4
      have B18 := (ks4.blk _ _ _ (B17.below hY3) (by decide) (by decide)).alloc (.cells #[.int .u16 0, .bool false, .slice none 0 0, .slice none 0 0, .slice none 0 0] 28 )
      have o18 := own_below (ks4.own _ _ _ _ (own_below o17 hY3)) (below_new Y4 (.cells #[.int .u16 0, .bool false, .slice none 0 0, .slice none 0 0, .slice none 0 0] 28 ))
      have K18 := K4.below (below_new Y4 (.cells #[.int .u16 0, .bool false, .slice none 0 0, .slice none 0 0, .slice none 0 0] 28 ))
      obtain ⟨Z2, hZ2⟩ : ∃ x, Y4.alloc (.cells #[.int .u16 0, .bool false, .slice none 0 0, .slice none 0 0, .slice none 0 0] 28 ) = x := ⟨_, rfl⟩
      rw [hZ2] at B18 o18 K18 ⊢
      clear hZ2 ks4 K4 hr4 K17 B17 hrr o17 hr2
      obtain ⟨gr', q1', e18, hr18⟩ := own_some o18 (by decide)
      cases e18
      have z3 : Z2.cell? ⟨gr, 3, none⟩ = some (.int .u32 30) := by have hs0 : Cells Z2 ((⟨gr, 0, none⟩ : Addr).add (0 * 12)) (rT 30).cells := Rd.rec hr18 0 (rT 30) rfl; have := hs0 3 _ rfl; rw [Addr.add_add, add_plain] at this; exact this
      have z2 := B18.cell 2 _ rfl
      have hl19 := len_ Z2 C lo 4096 [] K18.c
      unfold ptr at hl19
      simp only [Option.map, List.length_nil] at hl19
      clear hr18 o18
      go_upto_region 21 with (first | (go_at_call 12; refine hl19.mono ?_; clear hl19; rintro e Y5 ⟨rfl, rfl⟩))
      clear z2 z3 B18
      go_upto_region 23 with fail
      have w1b := below_new Y5 (.cells #[.string ⟨#[0]⟩, .int .u16 6, .int .u16 1, .int .u32 60, .string ⟨#[]⟩, .string ⟨#[]⟩, .string ⟨#[]⟩, .int .u32 0, .int .u32 0, .int .u32 0, .int .u32 0, .int .u32 7] 46 )
      have hS0 := Blk.new Y5 46 #[.string ⟨#[0]⟩, .int .u16 6, .int .u16 1, .int .u32 60, .string ⟨#[]⟩, .string ⟨#[]⟩, .string ⟨#[]⟩, .int .u32 0, .int .u32 0, .int .u32 0, .int .u32 0, .int .u32 7]
      have hz1 := World.size_alloc Y5 (.cells #[.string ⟨#[0]⟩, .int .u16 6, .int .u16 1, .int .u32 60, .string ⟨#[]⟩, .string ⟨#[]⟩, .string ⟨#[]⟩, .int .u32 0, .int .u32 0, .int .u32 0, .int .u32 0, .int .u32 7] 46 )
      have K21 := K18.below w1b
      obtain ⟨s0, hs0⟩ : ∃ x, Y5.heap.size = x := ⟨_, rfl⟩
      obtain ⟨V1, hV1⟩ : ∃ x, Y5.alloc (.cells #[.string ⟨#[0]⟩, .int .u16 6, .int .u16 1, .int .u32 60, .string ⟨#[]⟩, .string ⟨#[]⟩, .string ⟨#[]⟩, .int .u32 0, .int .u32 0, .int .u32 0, .int .u32 0, .int .u32 7] 46 ) = x := ⟨_, rfl⟩
      rw [hV1] at hS0 hz1 K21 ⊢
      rw [hs0] at hS0 hz1 ⊢
      have w2b := below_new V1 (.cells #[.string ⟨#[]⟩, .int .u16 2, .int .u16 0, .int .u32 99, .string ⟨#[]⟩, .string ⟨#[]⟩, .string ⟨#[]⟩, .int .u32 0, .int .u32 0, .int .u32 0, .int .u32 0, .int .u32 0, .string ⟨#[0]⟩, .int .u16 6, .int .u16 1, .int .u32 60, .string ⟨#[]⟩, .string ⟨#[]⟩, .string ⟨#[]⟩, .int .u32 0, .int .u32 0, .int .u32 0, .int .u32 0, .int .u32 7, .string ⟨#[]⟩, .int .u16 6, .int .u16 0, .int .u32 88, .string ⟨#[]⟩, .string ⟨#[]⟩, .string ⟨#[]⟩, .int .u32 0, .int .u32 0, .int .u32 0, .int .u32 0, .int .u32 0] 46 )
      have hO1 := own_litN V1 #[.string ⟨#[]⟩, .int .u16 2, .int .u16 0, .int .u32 99, .string ⟨#[]⟩, .string ⟨#[]⟩, .string ⟨#[]⟩, .int .u32 0, .int .u32 0, .int .u32 0, .int .u32 0, .int .u32 0, .string ⟨#[0]⟩, .int .u16 6, .int .u16 1, .int .u32 60, .string ⟨#[]⟩, .string ⟨#[]⟩, .string ⟨#[]⟩, .int .u32 0, .int .u32 0, .int .u32 0, .int .u32 0, .int .u32 7, .string ⟨#[]⟩, .int .u16 6, .int .u16 0, .int .u32 88, .string ⟨#[]⟩, .string ⟨#[]⟩, .string ⟨#[]⟩, .int .u32 0, .int .u32 0, .int .u32 0, .int .u32 0, .int .u32 0] 46 12 3 rfl (by omega)
      have hz2 := World.size_alloc V1 (.cells #[.string ⟨#[]⟩, .int .u16 2, .int .u16 0, .int .u32 99, .string ⟨#[]⟩, .string ⟨#[]⟩, .string ⟨#[]⟩, .int .u32 0, .int .u32 0, .int .u32 0, .int .u32 0, .int .u32 0, .string ⟨#[0]⟩, .int .u16 6, .int .u16 1, .int .u32 60, .string ⟨#[]⟩, .string ⟨#[]⟩, .string ⟨#[]⟩, .int .u32 0, .int .u32 0, .int .u32 0, .int .u32 0, .int .u32 7, .string ⟨#[]⟩, .int .u16 6, .int .u16 0, .int .u32 88, .string ⟨#[]⟩, .string ⟨#[]⟩, .string ⟨#[]⟩, .int .u32 0, .int .u32 0, .int .u32 0, .int .u32 0, .int .u32 0] 46 )
      have K22 := K21.below w2b
      have hS1 := hS0.below w2b
      obtain ⟨V2, hV2⟩ : ∃ x, V1.alloc (.cells #[.string ⟨#[]⟩, .int .u16 2, .int .u16 0, .int .u32 99, .string ⟨#[]⟩, .string ⟨#[]⟩, .string ⟨#[]⟩, .int .u32 0, .int .u32 0, .int .u32 0, .int .u32 0, .int .u32 0, .string ⟨#[0]⟩, .int .u16 6, .int .u16 1, .int .u32 60, .string ⟨#[]⟩, .string ⟨#[]⟩, .string ⟨#[]⟩, .int .u32 0, .int .u32 0, .int .u32 0, .int .u32 0, .int .u32 7, .string ⟨#[]⟩, .int .u16 6, .int .u16 0, .int .u32 88, .string ⟨#[]⟩, .string ⟨#[]⟩, .string ⟨#[]⟩, .int .u32 0, .int .u32 0, .int .u32 0, .int .u32 0, .int .u32 0] 46 ) = x := ⟨_, rfl⟩
      rw [hV2] at hO1 hz2 K22 hS1 ⊢
      rw [hz1] at hO1 hz2
      have hNXB := Blk.new V2 28 #[.int .u16 3, .bool false, .slice none 0 0, .slice (some ⟨s0 + 1, 0, none⟩) 3 3, .slice none 0 0]
      have w3b := below_new V2 (.cells #[.int .u16 3, .bool false, .slice none 0 0, .slice (some ⟨s0 + 1, 0, none⟩) 3 3, .slice none 0 0] 28 )
      have K23 := K22.below w3b
      have hS2 := hS1.below w3b
      have hO2 := own_below hO1 w3b
      obtain ⟨V3, hV3⟩ : ∃ x, V2.alloc (.cells #[.int .u16 3, .bool false, .slice none 0 0, .slice (some ⟨s0 + 1, 0, none⟩) 3 3, .slice none 0 0] 28 ) = x := ⟨_, rfl⟩
      rw [hV3] at hNXB K23 hS2 hO2 ⊢
      rw [hz2] at hNXB
      clear hV1 hV2 hV3 hz1 hz2 w1b w2b w3b hS0 hS1 hO1 K21 K22 K18 hs0 hga
      replace hO2 : V3.ownsRow (s0 + 1) 46 12 (.slice (some ⟨s0 + 1, 0, none⟩) 3 3) 3 (rcs [r2, rS, r8]) := hO2
      have HNX := Lib.hid hNXB
      have HO2 := Lib.hid hO2
      refine wp_region_loud (by kernel_rfl) (by kernel_rfl) ?fr23 ?hfr23 [1, 3] (VV (k23c C (s0 + 1)) noG) (k23I C lo E be w V3 [] [eN]) ?h023 ?hob23 ?hq23 (by decide)
      case hfr23 =>
        intro xs
        simp only [fillL]
        go_simp
        exact rfl
      case h023 =>
        have hdw : Below V3.heap.size V3 V3.drew := ⟨rfl, rfl, rfl, Nat.le_refl _, fun _ _ => rfl⟩
        exact ⟨⟨[], K23.below hdw, rfl⟩, Kst.below hdw⟩
      case hob23 =>
        refine ⟨?_, ?_, ?_, ?_, ?_, trivial⟩
        · intro xs d W hd hn hI hV
          rw [if_neg (by decide)]
          clear hV hd hn hI
          go_simp
          exact rfl
        · intro xs d W hd hn hI hV
          replace hI : (∃ rowc, Kw C lo E be 4096 2 w W rowc [] ∧ rowc.map Ce.e = if d 3 then [eN] else []) ∧ Kst V3 W := hI
          rw [if_pos (by decide)]
          intro hdn
          have hV' := hV
          have hc := asked_ W 110
          have HI := Lib.hid hI
          clear hV hd hn hI
          go_simp
          refine hc.mono ?_
          rintro e9 W9 ⟨rfl, hb⟩
          obtain ⟨⟨rw1, K1, h1⟩, ks⟩ := HI.out
          refine ⟨_, rfl, ?_, rfl, fun j hj => VV.any (hV' j hj) (fun _ _ _ _ _ => trivial)⟩
          show (∃ rowc, Kw C lo E be 4096 2 w W9 rowc [] ∧ rowc.map Ce.e = if upd d 1 true 3 then [eN] else []) ∧ Kst V3 W9
          rw [upd_ne d true (show 3 ≠ 1 by decide)]
          exact ⟨⟨rw1, K1.below hb, h1⟩, ks.trans (Kst.below hb)⟩
        · intro xs d W hd hn hI hV
          replace hI : (∃ rowc, Kw C lo E be 4096 2 w W rowc [] ∧ rowc.map Ce.e = if d 3 then [eN] else []) ∧ Kst V3 W := hI
          have hNB := hI.2.blk _ _ _ HNX.out (by decide) (by decide)
          have n0 := hNB.cell 0 _ rfl
          have n1 := hNB.cell 1 _ rfl
          have n2 := hNB.cell 2 _ rfl
          have n3 := hNB.cell 3 _ rfl
          have n4 := hNB.cell 4 _ rfl
          rw [if_neg (by decide)]
          clear hV hd hn hI hNB
          go_simp
          exact rfl
        · intro xs d W hd hn hI hV
          replace hI : (∃ rowc, Kw C lo E be 4096 2 w W rowc [] ∧ rowc.map Ce.e = if d 3 then [eN] else []) ∧ Kst V3 W := hI
          have x0 : xs 0 = .pointer (some ⟨C, 0, none⟩) := hV 0 (hd 0 (by decide))
          have x1 : xs 1 = (qL 110).val := hV 1 (hd 1 (by decide))
          have x2 : xs 2 = .agg #[.int .u16 3, .bool false, .slice none 0 0, .slice (some ⟨s0 + 1, 0, none⟩) 3 3, .slice none 0 0] := hV 2 (hd 2 (by decide))
          rw [if_pos (by decide)]
          intro hdn
          obtain ⟨⟨rw1, K1, h1⟩, ks⟩ := hI
          rw [hdn, if_neg (by decide)] at h1
          have hans : AnsO W 0 3 false [] [r2, rS, r8] [] (.agg #[.int .u16 3, .bool false, .slice none 0 0, .slice (some ⟨s0 + 1, 0, none⟩) 3 3, .slice none 0 0]) := ⟨_, _, _, rfl, World.ownsRow_nil _ _ _ _, own_lower (ks.own _ _ _ _ HO2.out) (Nat.zero_le _), World.ownsRow_nil _ _ _ _⟩
          have hc := K1.putC (by omega) (by omega) (by have := congrArg List.length h1; rw [List.length_map] at this; rw [this]; simp) (qL 110) (qL_ok _) (by show (3 : Nat) ≤ _; omega) 3 false [] [r2, rS, r8] [] _ 0 hans (by omega) okNil okNx okNil 0
          rw [h1, c8] at hc
          have hV' := hV
          unfold ptr at hc
          simp only [Option.map] at hc
          clear hV hd hn K1 hans
          go_simp
          refine hc.mono ?_
          rintro e9 W9 ⟨rfl, ⟨row9, hr9, K9⟩, hks⟩
          refine ⟨_, rfl, ?_, rfl, fun j hj => VV.any (hV' j hj) (fun _ _ _ _ _ => trivial)⟩
          show (∃ rowc, Kw C lo E be 4096 2 w W9 rowc [] ∧ rowc.map Ce.e = if upd d 3 true 3 then [eN] else []) ∧ Kst V3 W9
          rw [upd_self]
          exact ⟨⟨row9, K9, by rw [if_pos rfl]; exact hr9⟩, ks.trans hks⟩
        · intro xs d W hd hn hI hV
          have x3 : xs 3 = .bool true := hV 3 (hd 3 (by decide))
          rw [if_neg (by decide)]
          clear hV hd hn hI
          go_simp
          exact rfl
      case hq23 =>
        intro xs V4 hI hV
        have y4 : xs 4 = .bool false := hV 4 (by decide)
        obtain ⟨⟨row23, K23', hr23⟩, ks23⟩ := (show (∃ rowc, Kw C lo E be 4096 2 w V4 rowc [] ∧ rowc.map Ce.e = if true then [eN] else []) ∧ Kst V3 V4 from hI)
        rw [if_pos rfl] at hr23
        have hSO := ks23.blk _ _ _ hS2 (by decide) (by decide)
        clear hI hV K23 hS2 hO2 hNXB HNX HO2 ks23
        rw [y4]
        clear y4
        have g25 := fun (W : World) (K : Kw C lo E be 4096 2 w W row23 []) => K.getC (qL 110) (qL_ok _) (by show (3 : Nat) ≤ _; omega) (69)
        rw [hr23, c9] at g25
        unfold ptr at g25
        simp only [Option.map] at g25
        have HE25 := Lib.hid (show eN.au.map (agedR (ageV (clockV 69) eN)) = [agedR 6 r2, agedR 6 rS, agedR 6 r8] by kernel_rfl)
        go_upto_region 26 with (first | (go_at_call 26; refine (asked_ _ 110).mono ?_; rintro e Y6 ⟨rfl, hY6⟩) | (go_at_call 11; refine (g25 _ (K23'.below hY6)).mono ?_; clear g25; rintro e Y7 ⟨xv, rfl, ht, ⟨row25, hr25, K25⟩, ks25⟩; obtain ⟨y, rfl, hy⟩ := ht; rw [HE25.out] at hy; have hy2 : AnsO Y7 0 3 false [] [agedR 6 r2, agedR 6 rS, agedR 6 r8] [] y := hy; clear hy; obtain ⟨v1, v2, v3, rfl, o1, o2, o3⟩ := hy2.ex; clear hy2; obtain ⟨A1, q1', rfl, -⟩ := own_rd o1; obtain ⟨gn, q2', rfl, hrn⟩ := own_some o2 (by simp); obtain ⟨A3, q3', rfl, -⟩ := own_rd o3))
        have hSO25 := ks25.blk _ _ _ (hSO.below hY6) (by decide) (by decide)
        have B25 := Blk.new Y7 28 #[.int .u16 3, .bool false, .slice A1 0 q1', .slice (some ⟨gn, 0, none⟩) 3 q2', .slice A3 0 q3']
        have b25 := below_new Y7 (.cells #[.int .u16 3, .bool false, .slice A1 0 q1', .slice (some ⟨gn, 0, none⟩) 3 q2', .slice A3 0 q3'] 28 )
        have K25' := K25.below b25
        have o25 := own_below o2 b25
        have hSO25' := hSO25.below b25
        obtain ⟨gn2, hgn2⟩ : ∃ x, Y7.heap.size = x := ⟨_, rfl⟩
        obtain ⟨Z5, hZ5⟩ : ∃ x, Y7.alloc (.cells #[.int .u16 3, .bool false, .slice A1 0 q1', .slice (some ⟨gn, 0, none⟩) 3 q2', .slice A3 0 q3'] 28 ) = x := ⟨_, rfl⟩
        rw [hZ5] at B25 K25' o25 hSO25' ⊢
        rw [hgn2] at B25 ⊢
        clear hZ5 b25 K25 o1 o2 o3 hrn hSO hSO25 ks25 K23' hr23
        have g26 := fun (W : World) (K : Kw C lo E be 4096 2 w W row25 []) => K.getC (qL 110) (qL_ok _) (by show (3 : Nat) ≤ _; omega) (70)
        rw [hr25, c10] at g26
        unfold ptr at g26
        simp only [Option.map] at g26
        go_upto_region 27 with (first | (go_at_call 26; refine (asked_ _ 110).mono ?_; rintro e Y8 ⟨rfl, hY8⟩) | (go_at_call 11; refine (g26 _ (K25'.below hY8)).mono ?_; clear g26; rintro e Y9 ⟨xv, rfl, ht, ⟨row26, hr26, K26⟩, ks26⟩; obtain rfl : xv = .tuple #[.agg #[.int .u16 0, .bool false, .slice none 0 0, .slice none 0 0, .slice none 0 0], .bool false] := ht))
        obtain rfl := no_row hr26
        have B26 := ks26.blk _ _ _ (B25.below hY8) (by decide) (by decide)
        have o26 := ks26.own _ _ _ _ (own_below o25 hY8)
        have hSO26 := ks26.blk _ _ _ (hSO25'.below hY8) (by decide) (by decide)
        obtain ⟨gn', q2'', e26, hr26'⟩ := own_some o26 (by simp)
        cases e26
        have z15 : Y9.cell? ⟨gn, 15, none⟩ = some (.int .u32 54) := by have hs1 : Cells Y9 ((⟨gn, 0, none⟩ : Addr).add (1 * 12)) (agedR 6 rS).cells := Rd.rec hr26' 1 (agedR 6 rS) rfl; have := hs1 3 _ rfl; rw [Addr.add_add, add_plain] at this; exact this
        have z0 := B26.cell 0 _ rfl
        have z3 := B26.cell 3 _ rfl
        clear B25 o25 hSO25' K25' ks26 hr26' o26 hr25
        go_upto_region 29 with fail
        clear z15 z0 z3 B26
        have HS26 := Lib.hid hSO26
        clear hSO26
        refine wp_region_loud (by kernel_rfl) (by kernel_rfl) ?fr29 ?hfr29 [1, 2, 3, 6, 9, 11, 15, 16, 17, 18, 22, 23, 24, 25, 29, 30, 31, 32, 38, 39, 40, 44, 45, 46, 49, 51, 55, 57, 59] (VV (g29c C) g29G) (g29I C lo E be w Y9) ?h029 ?hob29 ?hq29 (by decide)
        case hfr29 =>
          intro xs
          simp only [fillL]
          go_simp
          exact rfl
        case h029 =>
          have hdw : Below Y9.heap.size Y9 Y9.drew := ⟨rfl, rfl, rfl, Nat.le_refl _, fun _ _ => rfl⟩
          exact ⟨⟨_, K26.below hdw, by simp⟩, Kst.below hdw⟩
        case hob29 =>
          refine ⟨?_, ?_, ?_, ?_, ?_, ?_, ?_, ?_, ?_, ?_, ?_, ?_, ?_, ?_, ?_, ?_, ?_, ?_, ?_, ?_, ?_, ?_, ?_, ?_, ?_, ?_, ?_, ?_, ?_, ?_, ?_, ?_, ?_, ?_, ?_, ?_, ?_, ?_, ?_, ?_, ?_, ?_, ?_, ?_, ?_, ?_, ?_, ?_, ?_, ?_, ?_, ?_, ?_, ?_, ?_, ?_, ?_, ?_, ?_, ?_, ?_, ?_, trivial⟩
          · -- 0 move
            intro xs d W hd hn hI hV
            rw [if_neg (by decide)]
            clear hV hd hn hI
            go_simp
            exact rfl
          · -- 1 ask
            intro xs d W hd hn hI hV
            rw [if_pos (by decide)]
            intro hdn
            have HI := Lib.hid (show JP C lo E be w Y9 W from hI)
            have hV2 := hV
            have hc := asked_ W 120
            clear hV hd hn hI
            go_simp
            refine hc.mono ?_
            rintro e9 W9 ⟨rfl, hb⟩
            exact ⟨_, rfl, HI.out.below hb, rfl, fun j hj => VV.any2 (hV2 j hj) (fun h => Gk.kst h (Kst.below hb))⟩
          · -- 2 nums
            intro xs d W hd hn hI hV
            rw [if_pos (by decide)]
            intro hdn
            have HI := Lib.hid (show JP C lo E be w Y9 W from hI)
            have hV2 := hV
            have hb := below_new W (.cells #[.int .u32 5] 40)
            have hBn := Blk.new W 40 #[.int .u32 5]
            clear hV hd hn hI
            have HB := Lib.hid (And.intro hb hBn)
            clear hb hBn
            go_simp
            exact ⟨HI.out.below HB.out.1, ⟨_, rfl, HB.out.2⟩, fun j hj => VV.any2 (hV2 j hj) (fun h => Gk.kst h (Kst.below HB.out.1))⟩
          · -- 3 answ
            intro xs d W hd hn hI hV
            have gg : Gk (.nums [5]) (xs 2) W := hV 2 (hd 2 (by decide))
            rw [if_pos (by decide)]
            intro hdn
            have HI := Lib.hid (show JP C lo E be w Y9 W from hI)
            have hV2 := hV
            have hc := ans_ gg (by decide)
            clear hV hd hn hI gg
            go_simp
            refine hc.mono ?_
            rintro e9 W9 ⟨v9, rfl, hv, hb⟩
            exact ⟨_, rfl, HI.out.below hb, hv, fun j hj => VV.any2 (hV2 j hj) (fun h => Gk.kst h (Kst.below hb))⟩
          · -- 4 field
            intro xs d W hd hn hI hV
            have gg : Gk (.ans 0 [rT 5] [] []) (xs 3) W := hV 3 (hd 3 (by decide))
            obtain ⟨v1, v2, v3, e1, o1, o2, o3⟩ := (show AnsO W 0 0 false [rT 5] [] [] (xs 3) from gg).ex
            clear gg
            obtain ⟨A1, c1, rfl, -⟩ := own_rd o1
            obtain ⟨A2, c2, rfl, -⟩ := own_rd o2
            obtain ⟨A3, c3, rfl, -⟩ := own_rd o3
            rw [if_neg (by decide)]
            clear hV hd hn hI
            go_simp
            rw [run_fieldAns]
            exact ⟨rfl, o1⟩
          · -- 5 build
            intro xs d W hd hn hI hV
            have g2 : Gk (.row [rT 5]) (xs 4) W := hV 4 (hd 4 (by decide))
            obtain ⟨A2, c2, e2, -⟩ := own_rd g2
            have o2 := g2
            unfold Gk at o2
            rw [e2] at o2
            clear g2
            rw [if_neg (by decide)]
            clear hV hd hn hI
            go_simp
            exact ⟨_, _, _, rfl, o2, World.ownsRow_nil _ _ _ _, World.ownsRow_nil _ _ _ _⟩
          · -- 6 put
            intro xs d W hd hn hI hV
            have x0 : xs 0 = .pointer (some ⟨C, 0, none⟩) := hV 0 (hd 0 (by decide))
            have x1 : xs 1 = (qL 120).val := hV 1 (hd 1 (by decide))
            have gg : Gk (.ans 2 [rT 5] [] []) (xs 5) W := hV 5 (hd 5 (by decide))
            rw [if_pos (by decide)]
            intro hdn
            have HI := Lib.hid (show JP C lo E be w Y9 W from hI)
            have hV2 := hV
            have hc := HI.out.put (qL 120) (qL_ok _) (by decide) 2 [rT 5] [] [] (xs 5) gg (by omega) (okT [5] (by decide) (by decide)) okNil okNil false (by kernel_rfl)
            clear hV hd hn hI gg
            go_simp
            refine hc.mono ?_
            rintro e9 W9 ⟨rfl, hJ, hks⟩
            exact ⟨_, rfl, hJ, rfl, fun j hj => VV.any2 (hV2 j hj) (fun h => Gk.kst h (hks))⟩
          · -- 7 val
            intro xs d W hd hn hI hV
            have x6 : xs 6 = .bool false := hV 6 (hd 6 (by decide))
            rw [if_neg (by decide)]
            clear hV hd hn hI
            go_simp
            exact rfl
          · -- 8 move
            intro xs d W hd hn hI hV
            have x7 : xs 7 = .bool false := hV 7 (hd 7 (by decide))
            rw [if_neg (by decide)]
            clear hV hd hn hI
            go_simp
            exact rfl
          · -- 9 ask
            intro xs d W hd hn hI hV
            have x7 : xs 7 = .bool false := hV 7 (hd 7 (by decide))
            rw [if_pos (by decide)]
            intro hdn
            have HI := Lib.hid (show JP C lo E be w Y9 W from hI)
            have hV2 := hV
            have hc := asked_ W 120
            clear hV hd hn hI
            go_simp
            refine hc.mono ?_
            rintro e9 W9 ⟨rfl, hb⟩
            exact ⟨_, rfl, HI.out.below hb, rfl, fun j hj => VV.any2 (hV2 j hj) (fun h => Gk.kst h (Kst.below hb))⟩
          · -- 10 build
            intro xs d W hd hn hI hV
            have x7 : xs 7 = .bool false := hV 7 (hd 7 (by decide))
            rw [if_neg (by decide)]
            clear hV hd hn hI
            go_simp
            exact ⟨_, _, _, rfl, World.ownsRow_nil _ _ _ _, World.ownsRow_nil _ _ _ _, World.ownsRow_nil _ _ _ _⟩
          · -- 11 put
            intro xs d W hd hn hI hV
            have x7 : xs 7 = .bool false := hV 7 (hd 7 (by decide))
            have x8 : xs 8 = .pointer (some ⟨C, 0, none⟩) := hV 8 (hd 8 (by decide))
            have x9 : xs 9 = (qL 120).val := hV 9 (hd 9 (by decide))
            have gg : Gk (.ans 0 [] [] []) (xs 10) W := hV 10 (hd 10 (by decide))
            rw [if_pos (by decide)]
            intro hdn
            have HI := Lib.hid (show JP C lo E be w Y9 W from hI)
            have hV2 := hV
            have hc := HI.out.put (qL 120) (qL_ok _) (by decide) 0 [] [] [] (xs 10) gg (by omega) okNil okNil okNil false (by kernel_rfl)
            clear hV hd hn hI gg
            go_simp
            refine hc.mono ?_
            rintro e9 W9 ⟨rfl, hJ, hks⟩
            exact ⟨_, rfl, hJ, rfl, fun j hj => VV.any2 (hV2 j hj) (fun h => Gk.kst h (hks))⟩
          · -- 12 val
            intro xs d W hd hn hI hV
            have x7 : xs 7 = .bool false := hV 7 (hd 7 (by decide))
            have x11 : xs 11 = .bool false := hV 11 (hd 11 (by decide))
            rw [if_neg (by decide)]
            clear hV hd hn hI
            go_simp
            exact rfl
          · -- 13 val
            intro xs d W hd hn hI hV
            have x12 : xs 12 = .bool false := hV 12 (hd 12 (by decide))
            rw [if_neg (by decide)]
            clear hV hd hn hI
            go_simp
            exact rfl
          · -- 14 move
            intro xs d W hd hn hI hV
            have x13 : xs 13 = .bool false := hV 13 (hd 13 (by decide))
            rw [if_neg (by decide)]
            clear hV hd hn hI
            go_simp
            exact rfl
          · -- 15 ask
            intro xs d W hd hn hI hV
            have x13 : xs 13 = .bool false := hV 13 (hd 13 (by decide))
            rw [if_pos (by decide)]
            intro hdn
            have HI := Lib.hid (show JP C lo E be w Y9 W from hI)
            have hV2 := hV
            have hc := asked_ W 120
            clear hV hd hn hI
            go_simp
            refine hc.mono ?_
            rintro e9 W9 ⟨rfl, hb⟩
            exact ⟨_, rfl, HI.out.below hb, rfl, fun j hj => VV.any2 (hV2 j hj) (fun h => Gk.kst h (Kst.below hb))⟩
          · -- 16 nums
            intro xs d W hd hn hI hV
            have x13 : xs 13 = .bool false := hV 13 (hd 13 (by decide))
            rw [if_pos (by decide)]
            intro hdn
            have HI := Lib.hid (show JP C lo E be w Y9 W from hI)
            have hV2 := hV
            have hb := below_new W (.cells #[.int .u32 0] 40)
            have hBn := Blk.new W 40 #[.int .u32 0]
            clear hV hd hn hI
            have HB := Lib.hid (And.intro hb hBn)
            clear hb hBn
            go_simp
            exact ⟨HI.out.below HB.out.1, ⟨_, rfl, HB.out.2⟩, fun j hj => VV.any2 (hV2 j hj) (fun h => Gk.kst h (Kst.below HB.out.1))⟩
          · -- 17 answ
            intro xs d W hd hn hI hV
            have x13 : xs 13 = .bool false := hV 13 (hd 13 (by decide))
            have gg : Gk (.nums [0]) (xs 16) W := hV 16 (hd 16 (by decide))
            rw [if_pos (by decide)]
            intro hdn
            have HI := Lib.hid (show JP C lo E be w Y9 W from hI)
            have hV2 := hV
            have hc := ans_ gg (by decide)
            clear hV hd hn hI gg
            go_simp
            refine hc.mono ?_
            rintro e9 W9 ⟨v9, rfl, hv, hb⟩
            exact ⟨_, rfl, HI.out.below hb, hv, fun j hj => VV.any2 (hV2 j hj) (fun h => Gk.kst h (Kst.below hb))⟩
          · -- 18 put
            intro xs d W hd hn hI hV
            have x13 : xs 13 = .bool false := hV 13 (hd 13 (by decide))
            have x14 : xs 14 = .pointer (some ⟨C, 0, none⟩) := hV 14 (hd 14 (by decide))
            have x15 : xs 15 = (qL 120).val := hV 15 (hd 15 (by decide))
            have gg : Gk (.ans 0 [rT 0] [] []) (xs 17) W := hV 17 (hd 17 (by decide))
            rw [if_pos (by decide)]
            intro hdn
            have HI := Lib.hid (show JP C lo E be w Y9 W from hI)
            have hV2 := hV
            have hc := HI.out.put (qL 120) (qL_ok _) (by decide) 0 [rT 0] [] [] (xs 17) gg (by omega) (okT [0] (by decide) (by decide)) okNil okNil false (by kernel_rfl)
            clear hV hd hn hI gg
            go_simp
            refine hc.mono ?_
            rintro e9 W9 ⟨rfl, hJ, hks⟩
            exact ⟨_, rfl, hJ, rfl, fun j hj => VV.any2 (hV2 j hj) (fun h => Gk.kst h (hks))⟩
          · -- 19 val
            intro xs d W hd hn hI hV
            have x13 : xs 13 = .bool false := hV 13 (hd 13 (by decide))
            have x18 : xs 18 = .bool false := hV 18 (hd 18 (by decide))
            rw [if_neg (by decide)]
            clear hV hd hn hI
            go_simp
            exact rfl
          · -- 20 val
            intro xs d W hd hn hI hV
            have x19 : xs 19 = .bool false := hV 19 (hd 19 (by decide))
            rw [if_neg (by decide)]
            clear hV hd hn hI
            go_simp
            exact rfl
          · -- 21 move
            intro xs d W hd hn hI hV
            have x20 : xs 20 = .bool false := hV 20 (hd 20 (by decide))
            rw [if_neg (by decide)]
            clear hV hd hn hI
            go_simp
            exact rfl
          · -- 22 ask
            intro xs d W hd hn hI hV
            have x20 : xs 20 = .bool false := hV 20 (hd 20 (by decide))
            rw [if_pos (by decide)]
            intro hdn
            have HI := Lib.hid (show JP C lo E be w Y9 W from hI)
            have hV2 := hV
            have hc := asked_ W 120
            clear hV hd hn hI
            go_simp
            refine hc.mono ?_
            rintro e9 W9 ⟨rfl, hb⟩
            exact ⟨_, rfl, HI.out.below hb, rfl, fun j hj => VV.any2 (hV2 j hj) (fun h => Gk.kst h (Kst.below hb))⟩
          · -- 23 nums
            intro xs d W hd hn hI hV
            have x20 : xs 20 = .bool false := hV 20 (hd 20 (by decide))
            rw [if_pos (by decide)]
            intro hdn
            have HI := Lib.hid (show JP C lo E be w Y9 W from hI)
            have hV2 := hV
            have hb := below_new W (.cells #[.int .u32 9, .int .u32 2147483648] 40)
            have hBn := Blk.new W 40 #[.int .u32 9, .int .u32 2147483648]
            clear hV hd hn hI
            have HB := Lib.hid (And.intro hb hBn)
            clear hb hBn
            go_simp
            exact ⟨HI.out.below HB.out.1, ⟨_, rfl, HB.out.2⟩, fun j hj => VV.any2 (hV2 j hj) (fun h => Gk.kst h (Kst.below HB.out.1))⟩
          · -- 24 answ
            intro xs d W hd hn hI hV
            have x20 : xs 20 = .bool false := hV 20 (hd 20 (by decide))
            have gg : Gk (.nums [9, 2147483648]) (xs 23) W := hV 23 (hd 23 (by decide))
            rw [if_pos (by decide)]
            intro hdn
            have HI := Lib.hid (show JP C lo E be w Y9 W from hI)
            have hV2 := hV
            have hc := ans_ gg (by decide)
            clear hV hd hn hI gg
            go_simp
            refine hc.mono ?_
            rintro e9 W9 ⟨v9, rfl, hv, hb⟩
            exact ⟨_, rfl, HI.out.below hb, hv, fun j hj => VV.any2 (hV2 j hj) (fun h => Gk.kst h (Kst.below hb))⟩
          · -- 25 put
            intro xs d W hd hn hI hV
            have x20 : xs 20 = .bool false := hV 20 (hd 20 (by decide))
            have x21 : xs 21 = .pointer (some ⟨C, 0, none⟩) := hV 21 (hd 21 (by decide))
            have x22 : xs 22 = (qL 120).val := hV 22 (hd 22 (by decide))
            have gg : Gk (.ans 0 [rT 9, rT 2147483648] [] []) (xs 24) W := hV 24 (hd 24 (by decide))
            rw [if_pos (by decide)]
            intro hdn
            have HI := Lib.hid (show JP C lo E be w Y9 W from hI)
            have hV2 := hV
            have hc := HI.out.put (qL 120) (qL_ok _) (by decide) 0 [rT 9, rT 2147483648] [] [] (xs 24) gg (by omega) (okT [9, 2147483648] (by decide) (by decide)) okNil okNil false (by kernel_rfl)
            clear hV hd hn hI gg
            go_simp
            refine hc.mono ?_
            rintro e9 W9 ⟨rfl, hJ, hks⟩
            exact ⟨_, rfl, hJ, rfl, fun j hj => VV.any2 (hV2 j hj) (fun h => Gk.kst h (hks))⟩
          · -- 26 val
            intro xs d W hd hn hI hV
            have x20 : xs 20 = .bool false := hV 20 (hd 20 (by decide))
            have x25 : xs 25 = .bool false := hV 25 (hd 25 (by decide))
            rw [if_neg (by decide)]
            clear hV hd hn hI
            go_simp
            exact rfl
          · -- 27 val
            intro xs d W hd hn hI hV
            have x26 : xs 26 = .bool false := hV 26 (hd 26 (by decide))
            rw [if_neg (by decide)]
            clear hV hd hn hI
            go_simp
            exact rfl
          · -- 28 move
            intro xs d W hd hn hI hV
            have x27 : xs 27 = .bool false := hV 27 (hd 27 (by decide))
            rw [if_neg (by decide)]
            clear hV hd hn hI
            go_simp
            exact rfl
          · -- 29 ask
            intro xs d W hd hn hI hV
            have x27 : xs 27 = .bool false := hV 27 (hd 27 (by decide))
            rw [if_pos (by decide)]
            intro hdn
            have HI := Lib.hid (show JP C lo E be w Y9 W from hI)
            have hV2 := hV
            have hc := asked_ W 120
            clear hV hd hn hI
            go_simp
            refine hc.mono ?_
            rintro e9 W9 ⟨rfl, hb⟩
            exact ⟨_, rfl, HI.out.below hb, rfl, fun j hj => VV.any2 (hV2 j hj) (fun h => Gk.kst h (Kst.below hb))⟩
          · -- 30 nums
            intro xs d W hd hn hI hV
            have x27 : xs 27 = .bool false := hV 27 (hd 27 (by decide))
            rw [if_pos (by decide)]
            intro hdn
            have HI := Lib.hid (show JP C lo E be w Y9 W from hI)
            have hV2 := hV
            have hb := below_new W (.cells #[.int .u32 2147483647] 40)
            have hBn := Blk.new W 40 #[.int .u32 2147483647]
            clear hV hd hn hI
            have HB := Lib.hid (And.intro hb hBn)
            clear hb hBn
            go_simp
            exact ⟨HI.out.below HB.out.1, ⟨_, rfl, HB.out.2⟩, fun j hj => VV.any2 (hV2 j hj) (fun h => Gk.kst h (Kst.below HB.out.1))⟩
          · -- 31 answ
            intro xs d W hd hn hI hV
            have x27 : xs 27 = .bool false := hV 27 (hd 27 (by decide))
            have gg : Gk (.nums [2147483647]) (xs 30) W := hV 30 (hd 30 (by decide))
            rw [if_pos (by decide)]
            intro hdn
            have HI := Lib.hid (show JP C lo E be w Y9 W from hI)
            have hV2 := hV
            have hc := ans_ gg (by decide)
            clear hV hd hn hI gg
            go_simp
            refine hc.mono ?_
            rintro e9 W9 ⟨v9, rfl, hv, hb⟩
            exact ⟨_, rfl, HI.out.below hb, hv, fun j hj => VV.any2 (hV2 j hj) (fun h => Gk.kst h (Kst.below hb))⟩
          · -- 32 put
            intro xs d W hd hn hI hV
            have x27 : xs 27 = .bool false := hV 27 (hd 27 (by decide))
            have x28 : xs 28 = .pointer (some ⟨C, 0, none⟩) := hV 28 (hd 28 (by decide))
            have x29 : xs 29 = (qL 120).val := hV 29 (hd 29 (by decide))
            have gg : Gk (.ans 0 [rT 2147483647] [] []) (xs 31) W := hV 31 (hd 31 (by decide))
            rw [if_pos (by decide)]
            intro hdn
            have HI := Lib.hid (show JP C lo E be w Y9 W from hI)
            have hV2 := hV
            have hc := HI.out.put (qL 120) (qL_ok _) (by decide) 0 [rT 2147483647] [] [] (xs 31) gg (by omega) (okT [2147483647] (by decide) (by decide)) okNil okNil true (by kernel_rfl)
            clear hV hd hn hI gg
            go_simp
            refine hc.mono ?_
            rintro e9 W9 ⟨rfl, hJ, hks⟩
            exact ⟨_, rfl, hJ, rfl, fun j hj => VV.any2 (hV2 j hj) (fun h => Gk.kst h (hks))⟩
          · -- 33 val
            intro xs d W hd hn hI hV
            have x27 : xs 27 = .bool false := hV 27 (hd 27 (by decide))
            have x32 : xs 32 = .bool true := hV 32 (hd 32 (by decide))
            rw [if_neg (by decide)]
            clear hV hd hn hI
            go_simp
            exact rfl
          · -- 34 val
            intro xs d W hd hn hI hV
            have x27 : xs 27 = .bool false := hV 27 (hd 27 (by decide))
            have x33 : xs 33 = .bool false := hV 33 (hd 33 (by decide))
            rw [if_neg (by decide)]
            clear hV hd hn hI
            go_simp
            exact rfl
          · -- 35 val
            intro xs d W hd hn hI hV
            have x34 : xs 34 = .bool false := hV 34 (hd 34 (by decide))
            rw [if_neg (by decide)]
            clear hV hd hn hI
            go_simp
            exact rfl
          · -- 36 move
            intro xs d W hd hn hI hV
            have x35 : xs 35 = .bool false := hV 35 (hd 35 (by decide))
            rw [if_neg (by decide)]
            clear hV hd hn hI
            go_simp
            exact rfl
          · -- 37 val
            intro xs d W hd hn hI hV
            have x35 : xs 35 = .bool false := hV 35 (hd 35 (by decide))
            rw [if_neg (by decide)]
            clear hV hd hn hI
            go_simp
            exact rfl
          · -- 38 nums
            intro xs d W hd hn hI hV
            have x35 : xs 35 = .bool false := hV 35 (hd 35 (by decide))
            rw [if_pos (by decide)]
            intro hdn
            have HI := Lib.hid (show JP C lo E be w Y9 W from hI)
            have hV2 := hV
            have hb := below_new W (.cells #[.int .u32 5] 40)
            have hBn := Blk.new W 40 #[.int .u32 5]
            clear hV hd hn hI
            have HB := Lib.hid (And.intro hb hBn)
            clear hb hBn
            go_simp
            exact ⟨HI.out.below HB.out.1, ⟨_, rfl, HB.out.2⟩, fun j hj => VV.any2 (hV2 j hj) (fun h => Gk.kst h (Kst.below HB.out.1))⟩
          · -- 39 answ
            intro xs d W hd hn hI hV
            have x35 : xs 35 = .bool false := hV 35 (hd 35 (by decide))
            have gg : Gk (.nums [5]) (xs 38) W := hV 38 (hd 38 (by decide))
            rw [if_pos (by decide)]
            intro hdn
            have HI := Lib.hid (show JP C lo E be w Y9 W from hI)
            have hV2 := hV
            have hc := ans_ gg (by decide)
            clear hV hd hn hI gg
            go_simp
            refine hc.mono ?_
            rintro e9 W9 ⟨v9, rfl, hv, hb⟩
            exact ⟨_, rfl, HI.out.below hb, hv, fun j hj => VV.any2 (hV2 j hj) (fun h => Gk.kst h (Kst.below hb))⟩
          · -- 40 put
            intro xs d W hd hn hI hV
            have x35 : xs 35 = .bool false := hV 35 (hd 35 (by decide))
            have x36 : xs 36 = .pointer (some ⟨C, 0, none⟩) := hV 36 (hd 36 (by decide))
            have x37 : xs 37 = qA.val := hV 37 (hd 37 (by decide))
            have gg : Gk (.ans 0 [rT 5] [] []) (xs 39) W := hV 39 (hd 39 (by decide))
            rw [if_pos (by decide)]
            intro hdn
            have HI := Lib.hid (show JP C lo E be w Y9 W from hI)
            have hV2 := hV
            have hc := HI.out.put qA qA_ok (by decide) 0 [rT 5] [] [] (xs 39) gg (by omega) (okT [5] (by decide) (by decide)) okNil okNil false (by kernel_rfl)
            clear hV hd hn hI gg
            go_simp
            refine hc.mono ?_
            rintro e9 W9 ⟨rfl, hJ, hks⟩
            exact ⟨_, rfl, hJ, rfl, fun j hj => VV.any2 (hV2 j hj) (fun h => Gk.kst h (hks))⟩
          · -- 41 val
            intro xs d W hd hn hI hV
            have x35 : xs 35 = .bool false := hV 35 (hd 35 (by decide))
            have x40 : xs 40 = .bool false := hV 40 (hd 40 (by decide))
            rw [if_neg (by decide)]
            clear hV hd hn hI
            go_simp
            exact rfl
          · -- 42 val
            intro xs d W hd hn hI hV
            have x41 : xs 41 = .bool false := hV 41 (hd 41 (by decide))
            rw [if_neg (by decide)]
            clear hV hd hn hI
            go_simp
            exact rfl
          · -- 43 move
            intro xs d W hd hn hI hV
            have x42 : xs 42 = .bool false := hV 42 (hd 42 (by decide))
            rw [if_neg (by decide)]
            clear hV hd hn hI
            go_simp
            exact rfl
          · -- 44 ask
            intro xs d W hd hn hI hV
            have x42 : xs 42 = .bool false := hV 42 (hd 42 (by decide))
            rw [if_pos (by decide)]
            intro hdn
            have HI := Lib.hid (show JP C lo E be w Y9 W from hI)
            have hV2 := hV
            have hc := asked_ W 121
            clear hV hd hn hI
            go_simp
            refine hc.mono ?_
            rintro e9 W9 ⟨rfl, hb⟩
            exact ⟨_, rfl, HI.out.below hb, rfl, fun j hj => VV.any2 (hV2 j hj) (fun h => Gk.kst h (Kst.below hb))⟩
          · -- 45 nums
            intro xs d W hd hn hI hV
            have x42 : xs 42 = .bool false := hV 42 (hd 42 (by decide))
            rw [if_pos (by decide)]
            intro hdn
            have HI := Lib.hid (show JP C lo E be w Y9 W from hI)
            have hV2 := hV
            have hb := below_new W (.cells #[.int .u32 5] 40)
            have hBn := Blk.new W 40 #[.int .u32 5]
            clear hV hd hn hI
            have HB := Lib.hid (And.intro hb hBn)
            clear hb hBn
            go_simp
            exact ⟨HI.out.below HB.out.1, ⟨_, rfl, HB.out.2⟩, fun j hj => VV.any2 (hV2 j hj) (fun h => Gk.kst h (Kst.below HB.out.1))⟩
          · -- 46 answ
            intro xs d W hd hn hI hV
            have x42 : xs 42 = .bool false := hV 42 (hd 42 (by decide))
            have gg : Gk (.nums [5]) (xs 45) W := hV 45 (hd 45 (by decide))
            rw [if_pos (by decide)]
            intro hdn
            have HI := Lib.hid (show JP C lo E be w Y9 W from hI)
            have hV2 := hV
            have hc := ans_ gg (by decide)
            clear hV hd hn hI gg
            go_simp
            refine hc.mono ?_
            rintro e9 W9 ⟨v9, rfl, hv, hb⟩
            exact ⟨_, rfl, HI.out.below hb, hv, fun j hj => VV.any2 (hV2 j hj) (fun h => Gk.kst h (Kst.below hb))⟩
          · -- 47 field
            intro xs d W hd hn hI hV
            have x42 : xs 42 = .bool false := hV 42 (hd 42 (by decide))
            have gg : Gk (.ans 0 [rT 5] [] []) (xs 46) W := hV 46 (hd 46 (by decide))
            obtain ⟨v1, v2, v3, e1, o1, o2, o3⟩ := (show AnsO W 0 0 false [rT 5] [] [] (xs 46) from gg).ex
            clear gg
            obtain ⟨A1, c1, rfl, -⟩ := own_rd o1
            obtain ⟨A2, c2, rfl, -⟩ := own_rd o2
            obtain ⟨A3, c3, rfl, -⟩ := own_rd o3
            rw [if_neg (by decide)]
            clear hV hd hn hI
            go_simp
            rw [run_fieldAns]
            exact ⟨rfl, o1⟩
          · -- 48 val
            intro xs d W hd hn hI hV
            have x42 : xs 42 = .bool false := hV 42 (hd 42 (by decide))
            rw [if_neg (by decide)]
            clear hV hd hn hI
            go_simp
            exact rfl
          · -- 49 recs
            intro xs d W hd hn hI hV
            have x42 : xs 42 = .bool false := hV 42 (hd 42 (by decide))
            have x48 : xs 48 = .agg #[.string ⟨#[]⟩, .int .u16 2, .int .u16 0, .int .u32 5, .string ⟨#[]⟩, .string ⟨#[]⟩, .string ⟨#[]⟩, .int .u32 0, .int .u32 0, .int .u32 0, .int .u32 0, .int .u32 0] := hV 48 (hd 48 (by decide))
            rw [if_pos (by decide)]
            intro hdn
            have HI := Lib.hid (show JP C lo E be w Y9 W from hI)
            have hV2 := hV
            have hb := below_new W (.cells #[.string ⟨#[]⟩, .int .u16 2, .int .u16 0, .int .u32 5, .string ⟨#[]⟩, .string ⟨#[]⟩, .string ⟨#[]⟩, .int .u32 0, .int .u32 0, .int .u32 0, .int .u32 0, .int .u32 0] 46)
            have hBn := own_litN W #[.string ⟨#[]⟩, .int .u16 2, .int .u16 0, .int .u32 5, .string ⟨#[]⟩, .string ⟨#[]⟩, .string ⟨#[]⟩, .int .u32 0, .int .u32 0, .int .u32 0, .int .u32 0, .int .u32 0] 46 12 1 rfl (by omega)
            clear hV hd hn hI
            have HB := Lib.hid (And.intro hb hBn)
            clear hb hBn
            go_simp
            exact ⟨HI.out.below HB.out.1, own_lower HB.out.2 (Nat.zero_le _), fun j hj => VV.any2 (hV2 j hj) (fun h => Gk.kst h (Kst.below HB.out.1))⟩
          · -- 50 build
            intro xs d W hd hn hI hV
            have x42 : xs 42 = .bool false := hV 42 (hd 42 (by decide))
            have g4 : Gk (.row [rT 5]) (xs 47) W := hV 47 (hd 47 (by decide))
            obtain ⟨A4, c4, e4, -⟩ := own_rd g4
            have o4 := g4
            unfold Gk at o4
            rw [e4] at o4
            clear g4
            have g3 : Gk (.row [r25]) (xs 49) W := hV 49 (hd 49 (by decide))
            obtain ⟨A3, c3, e3, -⟩ := own_rd g3
            have o3 := g3
            unfold Gk at o3
            rw [e3] at o3
            clear g3
            rw [if_neg (by decide)]
            clear hV hd hn hI
            go_simp
            exact ⟨_, _, _, rfl, World.ownsRow_nil _ _ _ _, o3, o4⟩
          · -- 51 put
            intro xs d W hd hn hI hV
            have x42 : xs 42 = .bool false := hV 42 (hd 42 (by decide))
            have x43 : xs 43 = .pointer (some ⟨C, 0, none⟩) := hV 43 (hd 43 (by decide))
            have x44 : xs 44 = (qL 121).val := hV 44 (hd 44 (by decide))
            have gg : Gk (.ans 0 [] [r25] [rT 5]) (xs 50) W := hV 50 (hd 50 (by decide))
            rw [if_pos (by decide)]
            intro hdn
            have HI := Lib.hid (show JP C lo E be w Y9 W from hI)
            have hV2 := hV
            have hc := HI.out.put (qL 121) (qL_ok _) (by decide) 0 [] [r25] [rT 5] (xs 50) gg (by omega) okNil ok25 (okT [5] (by decide) (by decide)) false (by kernel_rfl)
            clear hV hd hn hI gg
            go_simp
            refine hc.mono ?_
            rintro e9 W9 ⟨rfl, hJ, hks⟩
            exact ⟨_, rfl, hJ, rfl, fun j hj => VV.any2 (hV2 j hj) (fun h => Gk.kst h (hks))⟩
          · -- 52 val
            intro xs d W hd hn hI hV
            have x42 : xs 42 = .bool false := hV 42 (hd 42 (by decide))
            have x51 : xs 51 = .bool false := hV 51 (hd 51 (by decide))
            rw [if_neg (by decide)]
            clear hV hd hn hI
            go_simp
            exact rfl
          · -- 53 val
            intro xs d W hd hn hI hV
            have x52 : xs 52 = .bool false := hV 52 (hd 52 (by decide))
            rw [if_neg (by decide)]
            clear hV hd hn hI
            go_simp
            exact rfl
          · -- 54 move
            intro xs d W hd hn hI hV
            have x53 : xs 53 = .bool false := hV 53 (hd 53 (by decide))
            rw [if_neg (by decide)]
            clear hV hd hn hI
            go_simp
            exact rfl
          · -- 55 ask
            intro xs d W hd hn hI hV
            have x53 : xs 53 = .bool false := hV 53 (hd 53 (by decide))
            rw [if_pos (by decide)]
            intro hdn
            have HI := Lib.hid (show JP C lo E be w Y9 W from hI)
            have hV2 := hV
            have hc := asked_ W 121
            clear hV hd hn hI
            go_simp
            refine hc.mono ?_
            rintro e9 W9 ⟨rfl, hb⟩
            exact ⟨_, rfl, HI.out.below hb, rfl, fun j hj => VV.any2 (hV2 j hj) (fun h => Gk.kst h (Kst.below hb))⟩
          · -- 56 load
            intro xs d W hd hn hI hV
            have x53 : xs 53 = .bool false := hV 53 (hd 53 (by decide))
            have hB := (show JP C lo E be w Y9 W from hI).s.blk _ _ _ HS26.out (by decide) (by decide)
            have n0 := hB.cell 0 _ rfl
            have n1 := hB.cell 1 _ rfl
            have n2 := hB.cell 2 _ rfl
            have n3 := hB.cell 3 _ rfl
            have n4 := hB.cell 4 _ rfl
            have n5 := hB.cell 5 _ rfl
            have n6 := hB.cell 6 _ rfl
            have n7 := hB.cell 7 _ rfl
            have n8 := hB.cell 8 _ rfl
            have n9 := hB.cell 9 _ rfl
            have n10 := hB.cell 10 _ rfl
            have n11 := hB.cell 11 _ rfl
            rw [if_neg (by decide)]
            clear hV hd hn hI hB
            go_simp
            exact rfl
          · -- 57 recs
            intro xs d W hd hn hI hV
            have x53 : xs 53 = .bool false := hV 53 (hd 53 (by decide))
            have x56 : xs 56 = .agg #[.string ⟨#[0]⟩, .int .u16 6, .int .u16 1, .int .u32 60, .string ⟨#[]⟩, .string ⟨#[]⟩, .string ⟨#[]⟩, .int .u32 0, .int .u32 0, .int .u32 0, .int .u32 0, .int .u32 7] := hV 56 (hd 56 (by decide))
            rw [if_pos (by decide)]
            intro hdn
            have HI := Lib.hid (show JP C lo E be w Y9 W from hI)
            have hV2 := hV
            have hb := below_new W (.cells #[.string ⟨#[0]⟩, .int .u16 6, .int .u16 1, .int .u32 60, .string ⟨#[]⟩, .string ⟨#[]⟩, .string ⟨#[]⟩, .int .u32 0, .int .u32 0, .int .u32 0, .int .u32 0, .int .u32 7] 46)
            have hBn := own_litN W #[.string ⟨#[0]⟩, .int .u16 6, .int .u16 1, .int .u32 60, .string ⟨#[]⟩, .string ⟨#[]⟩, .string ⟨#[]⟩, .int .u32 0, .int .u32 0, .int .u32 0, .int .u32 0, .int .u32 7] 46 12 1 rfl (by omega)
            clear hV hd hn hI
            have HB := Lib.hid (And.intro hb hBn)
            clear hb hBn
            go_simp
            exact ⟨HI.out.below HB.out.1, own_lower HB.out.2 (Nat.zero_le _), fun j hj => VV.any2 (hV2 j hj) (fun h => Gk.kst h (Kst.below HB.out.1))⟩
          · -- 58 build
            intro xs d W hd hn hI hV
            have x53 : xs 53 = .bool false := hV 53 (hd 53 (by decide))
            have g3 : Gk (.row [rS]) (xs 57) W := hV 57 (hd 57 (by decide))
            obtain ⟨A3, c3, e3, -⟩ := own_rd g3
            have o3 := g3
            unfold Gk at o3
            rw [e3] at o3
            clear g3
            rw [if_neg (by decide)]
            clear hV hd hn hI
            go_simp
            exact ⟨_, _, _, rfl, World.ownsRow_nil _ _ _ _, o3, World.ownsRow_nil _ _ _ _⟩
          · -- 59 put
            intro xs d W hd hn hI hV
            have x53 : xs 53 = .bool false := hV 53 (hd 53 (by decide))
            have x54 : xs 54 = .pointer (some ⟨C, 0, none⟩) := hV 54 (hd 54 (by decide))
            have x55 : xs 55 = (qL 121).val := hV 55 (hd 55 (by decide))
            have gg : Gk (.ans 0 [] [rS] []) (xs 58) W := hV 58 (hd 58 (by decide))
            rw [if_pos (by decide)]
            intro hdn
            have HI := Lib.hid (show JP C lo E be w Y9 W from hI)
            have hV2 := hV
            have hc := HI.out.put (qL 121) (qL_ok _) (by decide) 0 [] [rS] [] (xs 58) gg (by omega) okNil okS okNil true (by kernel_rfl)
            clear hV hd hn hI gg
            go_simp
            refine hc.mono ?_
            rintro e9 W9 ⟨rfl, hJ, hks⟩
            exact ⟨_, rfl, hJ, rfl, fun j hj => VV.any2 (hV2 j hj) (fun h => Gk.kst h (hks))⟩
          · -- 60 val
            intro xs d W hd hn hI hV
            have x53 : xs 53 = .bool false := hV 53 (hd 53 (by decide))
            have x59 : xs 59 = .bool true := hV 59 (hd 59 (by decide))
            rw [if_neg (by decide)]
            clear hV hd hn hI
            go_simp
            exact rfl
          · -- 61 val
            intro xs d W hd hn hI hV
            have x53 : xs 53 = .bool false := hV 53 (hd 53 (by decide))
            have x60 : xs 60 = .bool false := hV 60 (hd 60 (by decide))
            rw [if_neg (by decide)]
            clear hV hd hn hI
            go_simp
            exact rfl
        case hq29 =>
          intro xs V5 hI hV
          have x61 : xs 61 = .bool false := hV 61 (by decide)
          have K : KD C lo E be w [] V5 := by
            obtain ⟨⟨rowc, k, -⟩, -⟩ := (show JP C lo E be w Y9 V5 from hI)
            exact ⟨rowc, [], k, rfl⟩
          clear hI hV K26 HS26
          rw [x61]
          clear x61
          have tk1 : True := trivial
          have tk2 : True := trivial
          have tk3 : True := trivial
          have tk4 : True := trivial
          have tk5 : True := trivial
          have tk6 : True := trivial
          have tk7 : True := trivial
          have tk8 : True := trivial
          have tk9 : True := trivial
          have tk10 : True := trivial
          have tk11 : True := trivial
          have tk12 : True := trivial
          have tk13 : True := trivial
          have tk14 : True := trivial
          have tk15 : True := trivial
          have tk16 : True := trivial
          have tk17 : True := trivial
          have tk18 : True := trivial
          have tk19 : True := trivial
          have tk20 : True := trivial
          have tk21 : True := trivial
          have tk22 : True := trivial
          have tk23 : True := trivial
          have tk24 : True := trivial
          have tk25 : True := trivial
          have tk26 : True := trivial
          have tk27 : True := trivial
          have tk28 : True := trivial
          have tk29 : True := trivial
          have tk30 : True := trivial
          have tk31 : True := trivial
          have tk32 : True := trivial
          have tk33 : True := trivial
          have tk34 : True := trivial
          have tk35 : True := trivial
          have tk36 : True := trivial
          have tk37 : True := trivial
          have tk38 : True := trivial
          go_wp2_with (first | (clear tk1; go_at_call 26; refine (asked_ _ 97).mono ?_; rintro e Q1 ⟨rfl, hbQ1⟩; replace K := (K.below hbQ1); clear hbQ1) | (clear tk2; go_at_call 27; refine (answered_ _ _ 1 1 [9] (Rd.lit1 _ #[.int .u32 9] 40 _ rfl) (by omega)).mono ?_; rintro e Q2 ⟨uQ2, rfl, haQ2, hbQ2⟩; replace K := ((K.below (below_new _ (.cells #[.int .u32 9] 40))).below hbQ2); clear hbQ2) | (clear tk3; go_at_call 10; refine (K.put (by decide) 97 [9] (by decide) (by decide) 0 true d1 _ _ haQ2).mono ?_; rintro e Q3 ⟨rfl, K9⟩; clear K haQ2; have K := K9; clear K9) | (clear tk4; go_at_call 26; refine (asked_ _ 98).mono ?_; rintro e Q4 ⟨rfl, hbQ4⟩; replace K := (K.below hbQ4); clear hbQ4) | (clear tk5; go_at_call 27; refine (answered_ _ _ 1 1 [9] (Rd.lit1 _ #[.int .u32 9] 40 _ rfl) (by omega)).mono ?_; rintro e Q5 ⟨uQ5, rfl, haQ5, hbQ5⟩; replace K := ((K.below (below_new _ (.cells #[.int .u32 9] 40))).below hbQ5); clear hbQ5) | (clear tk6; go_at_call 10; refine (K.put (by decide) 98 [9] (by decide) (by decide) 0 true d2 _ _ haQ5).mono ?_; rintro e Q6 ⟨rfl, K9⟩; clear K haQ5; have K := K9; clear K9) | (clear tk7; go_at_call 26; refine (asked_ _ 97).mono ?_; rintro e Q7 ⟨rfl, hbQ7⟩; replace K := (K.below hbQ7); clear hbQ7) | (clear tk8; go_at_call 11; refine (K.get 97 0 _ d3).mono ?_; rintro e Q8 ⟨xv, rfl, K9⟩; clear K; have K := K9; clear K9) | (clear tk9; go_at_call 26; refine (asked_ _ 99).mono ?_; rintro e Q9 ⟨rfl, hbQ9⟩; replace K := (K.below hbQ9); clear hbQ9) | (clear tk10; go_at_call 27; refine (answered_ _ _ 1 1 [9] (Rd.lit1 _ #[.int .u32 9] 40 _ rfl) (by omega)).mono ?_; rintro e Q10 ⟨uQ10, rfl, haQ10, hbQ10⟩; replace K := ((K.below (below_new _ (.cells #[.int .u32 9] 40))).below hbQ10); clear hbQ10) | (clear tk11; go_at_call 10; refine (K.put (by decide) 99 [9] (by decide) (by decide) 0 true d4 _ _ haQ10).mono ?_; rintro e Q11 ⟨rfl, K9⟩; clear K haQ10; have K := K9; clear K9) | (clear tk12; go_at_call 24; refine (K.keys (by decide) _ kds 2 rfl).mono ?_; rintro e Q12 ⟨AQ12, cQ12, rfl, RQ12, K9⟩; clear K; have K := K9; clear K9) | (clear tk13; go_at_call 26; refine (askedL_ _ 97).mono ?_; rintro e Q13 ⟨rfl, hbQ13⟩; replace K := (K.below hbQ13); replace RQ12 := (RQ12.below hbQ13); clear hbQ13) | (clear tk14; go_at_call 26; refine (askedL_ _ 99).mono ?_; rintro e Q14 ⟨rfl, hbQ14⟩; replace K := (K.below hbQ14); replace RQ12 := (RQ12.below hbQ14); clear hbQ14) | (clear tk15; go_at_call 23; refine (keysL_ _ [qL 97, qL 99] _ _ _ (RQ12.below (below_new _ (.cells #[.string ⟨#[1, 97, 0]⟩, .int .u16 1, .int .u16 1, .string ⟨#[1, 99, 0]⟩, .int .u16 1, .int .u16 1] 25))) _ 2 2 (Rd.lit3 _ #[.string ⟨#[1, 97, 0]⟩, .int .u16 1, .int .u16 1, .string ⟨#[1, 99, 0]⟩, .int .u16 1, .int .u16 1] 25 _ 2 rfl rfl) (by omega)).mono ?_; rintro e Q15 ⟨rfl, hbQ15⟩; replace K := (K.below (below_new _ (.cells #[.string ⟨#[1, 97, 0]⟩, .int .u16 1, .int .u16 1, .string ⟨#[1, 99, 0]⟩, .int .u16 1, .int .u16 1] 25))).below hbQ15; clear hbQ15 RQ12) | (clear tk16; go_at_call 26; refine (asked_ _ 97).mono ?_; rintro e Q16 ⟨rfl, hbQ16⟩; replace K := (K.below hbQ16); clear hbQ16) | (clear tk17; go_at_call 27; refine (answered_ _ _ 1 1 [0] (Rd.lit1 _ #[.int .u32 0] 40 _ rfl) (by omega)).mono ?_; rintro e Q17 ⟨uQ17, rfl, haQ17, hbQ17⟩; replace K := ((K.below (below_new _ (.cells #[.int .u32 0] 40))).below hbQ17); clear hbQ17) | (clear tk18; go_at_call 10; refine (K.put (by decide) 97 [0] (by decide) (by decide) 1 false d5 _ _ haQ17).mono ?_; rintro e Q18 ⟨rfl, K9⟩; clear K haQ17; have K := K9; clear K9) | (clear tk19; go_at_call 12; refine (K.len 2 rfl).mono ?_; rintro e Q19 ⟨rfl, ex⟩; rw [ex]; clear ex Q19) | (clear tk20; go_at_call 26; refine (asked_ _ 65).mono ?_; rintro e Q20 ⟨rfl, hbQ20⟩; replace K := (K.below hbQ20); clear hbQ20) | (clear tk21; go_at_call 27; refine (answered_ _ _ 1 1 [3] (Rd.lit1 _ #[.int .u32 3] 40 _ rfl) (by omega)).mono ?_; rintro e Q21 ⟨uQ21, rfl, haQ21, hbQ21⟩; replace K := ((K.below (below_new _ (.cells #[.int .u32 3] 40))).below hbQ21); clear hbQ21) | (clear tk22; go_at_call 10; refine (K.put (by decide) 65 [3] (by decide) (by decide) 1 true d6 _ _ haQ21).mono ?_; rintro e Q22 ⟨rfl, K9⟩; clear K haQ21; have K := K9; clear K9) | (clear tk23; go_at_call 24; refine (K.keys (by decide) _ kds2 2 rfl).mono ?_; rintro e Q23 ⟨AQ23, cQ23, rfl, RQ23, K9⟩; clear K; have K := K9; clear K9) | (clear tk24; go_at_call 26; refine (askedL_ _ 99).mono ?_; rintro e Q24 ⟨rfl, hbQ24⟩; replace K := (K.below hbQ24); replace RQ23 := (RQ23.below hbQ24); clear hbQ24) | (clear tk25; go_at_call 26; refine (askedL_ _ 97).mono ?_; rintro e Q25 ⟨rfl, hbQ25⟩; replace K := (K.below hbQ25); replace RQ23 := (RQ23.below hbQ25); clear hbQ25) | (clear tk26; go_at_call 23; refine (keysL_ _ [qL 99, qL 97] _ _ _ (RQ23.below (below_new _ (.cells #[.string ⟨#[1, 99, 0]⟩, .int .u16 1, .int .u16 1, .string ⟨#[1, 97, 0]⟩, .int .u16 1, .int .u16 1] 25))) _ 2 2 (Rd.lit3 _ #[.string ⟨#[1, 99, 0]⟩, .int .u16 1, .int .u16 1, .string ⟨#[1, 97, 0]⟩, .int .u16 1, .int .u16 1] 25 _ 2 rfl rfl) (by omega)).mono ?_; rintro e Q26 ⟨rfl, hbQ26⟩; replace K := (K.below (below_new _ (.cells #[.string ⟨#[1, 99, 0]⟩, .int .u16 1, .int .u16 1, .string ⟨#[1, 97, 0]⟩, .int .u16 1, .int .u16 1] 25))).below hbQ26; clear hbQ26 RQ23) | (clear tk27; go_at_call 26; refine (asked_ _ 122).mono ?_; rintro e Q27 ⟨rfl, hbQ27⟩; replace K := (K.below hbQ27); clear hbQ27) | (clear tk28; go_at_call 27; refine (answered_ _ _ 1 1 [0] (Rd.lit1 _ #[.int .u32 0] 40 _ rfl) (by omega)).mono ?_; rintro e Q28 ⟨uQ28, rfl, haQ28, hbQ28⟩; replace K := ((K.below (below_new _ (.cells #[.int .u32 0] 40))).below hbQ28); clear hbQ28) | (clear tk29; go_at_call 10; refine (K.put (by decide) 122 [0] (by decide) (by decide) 9223372036854775807 false d7 _ _ haQ28).mono ?_; rintro e Q29 ⟨rfl, K9⟩; clear K haQ28; have K := K9; clear K9) | (clear tk30; go_at_call 12; refine (K.len 0 rfl).mono ?_; rintro e Q30 ⟨rfl, ex⟩; rw [ex]; clear ex Q30) | (clear tk31; go_at_call 26; refine (asked_ _ 97).mono ?_; rintro e Q31 ⟨rfl, hbQ31⟩; replace K := (K.below hbQ31); clear hbQ31) | (clear tk32; go_at_call 11; refine (get_none _ (qL 97) 0).mono ?_; rintro e Q32 ⟨rfl, hbQ32⟩; replace K := (K.below hbQ32); clear hbQ32) | (clear tk33; go_at_call 26; refine (asked_ _ 97).mono ?_; rintro e Q33 ⟨rfl, hbQ33⟩; replace K := (K.below hbQ33); clear hbQ33) | (clear tk34; go_at_call 27; refine (answered_ _ _ 1 1 [5] (Rd.lit1 _ #[.int .u32 5] 40 _ rfl) (by omega)).mono ?_; rintro e Q34 ⟨uQ34, rfl, haQ34, hbQ34⟩; replace K := ((K.below (below_new _ (.cells #[.int .u32 5] 40))).below hbQ34); clear hbQ34) | (clear tk35; go_at_call 10; refine (put_nil _ (qL 97) _ 0 false [rT 5] [] [] _ haQ34 0).mono ?_; rintro e Q35 ⟨rfl, hbQ35⟩; replace K := (K.below hbQ35); clear hbQ35 haQ34) | (clear tk36; go_at_call 12; refine (len_nil _).mono ?_; rintro e Q36 ⟨rfl, ex⟩; rw [ex]; clear ex Q36) | (clear tk37; go_at_call 24; refine (keys_nil _).mono ?_; rintro e Q37 ⟨rfl, ex⟩; rw [ex]; clear ex Q37) | (clear tk38; go_at_call 13; refine (keeps_ _).mono ?_; rintro e Q38 ⟨rfl, hbQ38⟩; replace K := (K.below hbQ38); clear hbQ38))
          go_ret
          obtain ⟨rc0, rd0, k0, -⟩ := K
          exact ⟨rfl, k0.b⟩
end Go.Proofs.Ytioehogncgloiaa
