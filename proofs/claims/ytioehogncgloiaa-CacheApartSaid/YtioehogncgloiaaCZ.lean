/- The law CacheApart. -/
import Derived.Test.YtioehogncgloiaaCY
namespace Go.Proofs.Ytioehogncgloiaa
open Go.RowKit Go.HL Go.Maps Go.Sort
set_option linter.unusedVariables false
set_option linter.unusedSimpArgs false
def apI (lo C E be : Nat) (w0 : World) (L0 : List Ae) : List Bool → World → Prop
  | [d1, d2], W => ∃ rowc rowd, Two lo C lo E be w0 rowc rowd W ∧ rowc.map Ce.e = (if d1 then L0 else []) ∧ rowd.map Ce.e = (if d2 then L0 else [])
  | _, _ => True
theorem Two.drew {lo C bm E be : Nat} {w0 W : World} {rowc rowd : List Ce} (h : Two lo C bm E be w0 rowc rowd W) : Two lo C bm E be w0 rowc rowd W.drew := h.below ⟨rfl, rfl, rfl, Nat.le_refl _, fun _ _ => rfl⟩
def apJ (lo C E be : Nat) (w0 : World) (g9 : Nat) (sq : Qn) (L1 L2 : List Ae) (rowd : List Ce) : List Bool → World → Prop
  | [d1], W => ∃ rowc, Two lo C lo E be w0 rowc rowd W ∧ rowc.map Ce.e = (if d1 then L2 else L1) ∧ (d1 = false → Blk W g9 25 sq.cells)
  | _, _ => True
def ap17c (C : Nat) (sq : Qn) (ad : Addr) (n c k : Nat) (sa : Am) (t2 : Int) (D : Bool) : List (Option Value) := [some (.pointer (some ⟨C, 0, none⟩)), some sq.val, some (.slice (some ad) n c), some (.int .i64 (k : Int)), some (.pointer (some (ad.add (k * 10)))), some (.pointer (some ⟨(ad.add (k * 10)).block, (ad.add (k * 10)).off + 4, none⟩)), some sa.val, some (.int .i64 t2), some (.bool D)]
theorem Two.getC {lo C bm E be : Nat} {w0 W : World} {rowc rowd : List Ce} (T : Two lo C bm E be w0 rowc rowd W) (q : Qn) (hq : q.ok) (hqs : q.nm.size ≤ 2000) (now : Int) :
    Calls Try.prog 11 #[ptr (some C), q.val, .int .i64 now] W fun en W' => ∃ rowc', rowc'.map Ce.e = (getV (rowc.map Ce.e) q now).1 ∧ Two lo C bm E be w0 rowc' rowd W' ∧ GotP W W' (clockV now) en (getV (rowc.map Ce.e) q now).2 :=
  (get_ W C bm 100 rowc T.c q hq hqs now).mono (by rintro e W' ⟨r, h1, h2, h3, h4⟩; exact ⟨r, h1, T.stepC h2, h4⟩)
def ap7c (C E : Nat) (q : Qn) (a : Am) (D : Bool) : List (Option Value) := [some (.pointer (some ⟨C, 0, none⟩)), some q.val, some a.val, some (.bool D), some (.pointer (some ⟨E, 0, none⟩)), some q.val, some a.val, some (.bool D), some (.bool false)]
def ap7G : Nat → Value → World → Prop
  | _, _, _ => True
set_option maxRecDepth 8000 in
set_option maxHeartbeats 30000000 in
theorem cacheApart_walk (w : World) (q : Qn) (a : Am) (A : Option Addr) (n c : Nat) (L : List St) (nw0 : Int) (hq : q.ok) (ha : a.ok w) (hS : Sts w A n c L) (b0 : -9223372036854775808 ≤ nw0) (b1 : nw0 ≤ 9223372036854775807) :
    Calls Try.prog 4 #[q.val, a.val, .slice A n c, .int .i64 nw0] w (Tells w (.bool true)) := by
  have hB1 := below_new w (.cells #[.string q.nm, .int .u16 q.ty, .int .u16 q.cl] 25)
  have hB2 := below_alloc hB1 (.cells #[.int .u16 a.rc, .bool a.aa, .slice a.an.a a.an.n a.an.c, .slice a.au.a a.au.n a.au.c, .slice a.ex.a a.ex.n a.ex.c] 28)
  have hQ0 := (Blk.new w 25 #[.string q.nm, .int .u16 q.ty, .int .u16 q.cl]).alloc (.cells #[.int .u16 a.rc, .bool a.aa, .slice a.an.a a.an.n a.an.c, .slice a.au.a a.au.n a.au.c, .slice a.ex.a a.ex.n a.ex.c] 28)
  have hA0 := Blk.new (w.alloc (.cells #[.string q.nm, .int .u16 q.ty, .int .u16 q.cl] 25)) 28 #[.int .u16 a.rc, .bool a.aa, .slice a.an.a a.an.n a.an.c, .slice a.au.a a.au.n a.au.c, .slice a.ex.a a.ex.n a.ex.c]
  rw [World.size_alloc] at hA0
  have hz : ((w.alloc (.cells #[.string q.nm, .int .u16 q.ty, .int .u16 q.cl] 25)).alloc (.cells #[.int .u16 a.rc, .bool a.aa, .slice a.an.a a.an.n a.an.c, .slice a.au.a a.au.n a.au.c, .slice a.ex.a a.ex.n a.ex.c] 28)).heap.size = w.heap.size + 2 := by rw [World.size_alloc, World.size_alloc]
  obtain ⟨W0, hW0⟩ : ∃ x, (w.alloc (.cells #[.string q.nm, .int .u16 q.ty, .int .u16 q.cl] 25)).alloc (.cells #[.int .u16 a.rc, .bool a.aa, .slice a.an.a a.an.n a.an.c, .slice a.au.a a.au.n a.au.c, .slice a.ex.a a.ex.n a.ex.c] 28) = x := ⟨_, rfl⟩
  rw [hW0] at hB2 hQ0 hA0 hz
  have ha0 := ha.below hB2
  have hhv := heavy_ W0 A n c L (hS.below hB2)
  have hhs : Calls Try.prog 15 #[.slice A n c] W0 fun e w' => (e = .returned (.bool true) ∧ Below W0.heap.size W0 w') ∨ (e = .returned (.bool false) ∧ SmallS n L ∧ Below W0.heap.size W0 w') := hhv.mono (by rintro e w' ⟨b, h, h', hb⟩; cases b; exact .inr ⟨h, h' rfl, hb⟩; exact .inl ⟨h, hb⟩)
  clear hhv
  have hls : ∀ W, Below W0.heap.size W0 W → Calls Try.prog 8 #[a.val] W fun e w' => (e = .returned (.bool true) ∧ Below W.heap.size W w') ∨ (e = .returned (.bool false) ∧ a.small ∧ Below W.heap.size W w') := fun W hb => (large_ W a (ha0.below hb)).mono (by rintro e w' ⟨b, h, h', hb⟩; cases b; exact .inr ⟨h, h' rfl, hb⟩; exact .inl ⟨h, hb⟩)
  clear hB1
  unfold Am.val at hls
  unfold Qn.val Am.val
  obtain ⟨g4, hg4⟩ : ∃ x, w.heap.size = x := ⟨_, rfl⟩
  go_enter Try.func4, Try.ntmps4
  go_upto_region 1 with fail
  rw [hg4] at hQ0 hA0 hz
  clear hW0
  by_cases hbig : 60 < n
  · have d1 : (60 : Int) < (n : Int) := by omega
    go_wp2_with (first | (go_at_call 15; refine hhs.mono ?_; clear hhs; rintro e W1 (⟨rfl, hb1⟩ | ⟨rfl, hsm1, hb1⟩) <;> (have hA1 := hA0.below hb1; have j0 := hA1.cell 0 _ rfl; have j1 := hA1.cell 1 _ rfl; have j2 := hA1.cell 2 _ rfl; have j3 := hA1.cell 3 _ rfl; have j4 := hA1.cell 4 _ rfl)) | (go_at_call 8; refine (hls _ hb1).mono ?_; clear hls; rintro e W2 (⟨rfl, hb2⟩ | ⟨rfl, hsm, hb2⟩) <;> have n0 := (hQ0.below (below_trans hb1 hb2)).cell 0 _ rfl))
    all_goals go_ret
    all_goals exact ⟨rfl, below_trans hB2 hb1⟩
  have d1 : ¬ (60 : Int) < (n : Int) := by omega
  by_cases hbig2 : 2000 < q.nm.size
  · have d2 : (2000 : Int) < (q.nm.size : Int) := by omega
    go_wp2_with (first | (go_at_call 15; refine hhs.mono ?_; clear hhs; rintro e W1 (⟨rfl, hb1⟩ | ⟨rfl, hsm1, hb1⟩) <;> (have hA1 := hA0.below hb1; have j0 := hA1.cell 0 _ rfl; have j1 := hA1.cell 1 _ rfl; have j2 := hA1.cell 2 _ rfl; have j3 := hA1.cell 3 _ rfl; have j4 := hA1.cell 4 _ rfl)) | (go_at_call 8; refine (hls _ hb1).mono ?_; clear hls; rintro e W2 (⟨rfl, hb2⟩ | ⟨rfl, hsm, hb2⟩) <;> have n0 := (hQ0.below (below_trans hb1 hb2)).cell 0 _ rfl))
    all_goals go_ret
    all_goals first | exact ⟨rfl, below_trans hB2 hb1⟩ | exact ⟨rfl, below_trans hB2 (below_trans hb1 hb2)⟩
  have d2 : ¬ (2000 : Int) < (q.nm.size : Int) := by omega
  go_upto_region 3 with (first | (go_at_call 15; refine hhs.mono ?_; clear hhs; rintro e W1 (⟨rfl, hb1⟩ | ⟨rfl, hsm1, hb1⟩) <;> (have hA1 := hA0.below hb1; have j0 := hA1.cell 0 _ rfl; have j1 := hA1.cell 1 _ rfl; have j2 := hA1.cell 2 _ rfl; have j3 := hA1.cell 3 _ rfl; have j4 := hA1.cell 4 _ rfl)) | (go_at_call 8; refine (hls _ hb1).mono ?_; clear hls; rintro e W2 (⟨rfl, hb2⟩ | ⟨rfl, hsm, hb2⟩) <;> have n0 := (hQ0.below (below_trans hb1 hb2)).cell 0 _ rfl))
  all_goals try (go_wp2; go_ret; first | exact ⟨rfl, below_trans hB2 hb1⟩ | exact ⟨rfl, below_trans hB2 (below_trans hb1 hb2)⟩)
  have hn60 : n ≤ 60 := by omega
  have hq20 : q.nm.size ≤ 2000 := by omega
  have hb02 := below_trans hb1 hb2
  have ha2 := ha0.below hb02
  have hQ2 := hQ0.below hb02
  have hA2 := hA0.below hb02
  have hBw2 := below_trans hB2 hb02
  have hz2 := hb02.size
  have hnew1 := new_ W2 100 (by omega) (by omega)
  obtain ⟨lo, hlo⟩ : ∃ x, W2.heap.size = x := ⟨_, rfl⟩
  obtain ⟨C, hC⟩ : ∃ x, lo + 1 = x := ⟨_, rfl⟩
  rw [hlo, hC] at hnew1
  have hgl : g4 + 2 ≤ lo := by omega
  have HGL := Lib.hid hgl
  unfold ptr at hnew1
  simp only [Option.map] at hnew1
  clear n0 j0 j1 j2 j3 j4 hA1
  have hnew2 := fun (W : World) => new_ W 100 (by omega) (by omega)
  unfold ptr at hnew2
  simp only [Option.map] at hnew2
  go_upto_region 7 with (first | (go_at_call 9; refine hnew1.mono ?_; clear hnew1; rintro e W3 ⟨rfl, hc3, hb3⟩) | (go_at_call 9; refine (hnew2 _).mono ?_; clear hnew2; rintro e W4 ⟨rfl, hd4, hb4⟩))
  have hc4 := hc3.below hb4
  have hCHc : ∀ x, CH C lo [] x → lo ≤ x ∧ x < W3.heap.size := fun x hx => ⟨(by
    rcases hx with (hx | hx | hx) | ⟨c, hc, _⟩
    · omega
    · omega
    · cases hx
    · cases hc), CH.lt hc3 x hx⟩
  have hb34 := below_trans (by rw [hlo]; exact hb3 : Below W2.heap.size W2 W3) hb4
  have hz4 := hb4.size
  have hz3 : lo ≤ W3.heap.size := by rw [← hlo]; exact hb3.size
  obtain ⟨be, hbe⟩ : ∃ x, W3.heap.size = x := ⟨_, rfl⟩
  obtain ⟨E, hE⟩ : ∃ x, be + 1 = x := ⟨_, rfl⟩
  rw [hbe, hE] at hd4
  rw [hbe] at hCHc hz3 hz4
  have hCHd : ∀ x, CH E be [] x → be ≤ x := fun x hx => by
    rcases hx with (hx | hx | hx) | ⟨c, hc, _⟩
    · omega
    · omega
    · cases hx
    · cases hc
  have T4 : Two lo C lo E be W2 [] [] W4 := ⟨hc4, hd4, fun x hx => ⟨(hCHc x hx).1, fun h => by have := hCHd x h; have := (hCHc x hx).2; omega⟩, fun x hx => by have := hCHd x hx; omega, by rw [← hlo]; exact hb34, by omega⟩
  rw [hbe, hE]
  clear hCHc hCHd hc4 hd4 hc3 hb3 hb4 hz4
  obtain ⟨⟨L0, D⟩, hp⟩ : ∃ x, putV 100 [] q a.rc a.an.l a.au.l a.ex.l 0 = x := ⟨_, rfl⟩
  refine wp_region_loud (by kernel_rfl) (by kernel_rfl) ?fr_7 ?hfr_7 [3, 7] (VV (ap7c C E q a D) ap7G) (apI lo C E be W2 L0) ?h0_7 ?hob_7 ?hQ_7 (by decide)
  case hfr_7 =>
    intro xs
    simp only [fillL]
    go_simp
    exact rfl
  case h0_7 => exact ⟨[], [], T4.drew, rfl, rfl⟩
  case hob_7 =>
    refine ⟨?_, ?_, ?_, ?_, ?_, ?_, ?_, ?_, ?_, trivial⟩
    · -- 0
      intro xs d W hd hn hI hV
      have hI' : apI lo C E be W2 L0 [d 3, d 7] W := hI
      obtain ⟨rowc, rowd, T, ec, ed⟩ := hI'
      have hbW : Below W2.heap.size W2 W := by rw [hlo]; exact T.b
      have q0 := (hQ2.below hbW).cell 0 _ rfl
      have q1 := (hQ2.below hbW).cell 1 _ rfl
      have q2 := (hQ2.below hbW).cell 2 _ rfl
      have j0 := (hA2.below hbW).cell 0 _ rfl
      have j1 := (hA2.below hbW).cell 1 _ rfl
      have j2 := (hA2.below hbW).cell 2 _ rfl
      have j3 := (hA2.below hbW).cell 3 _ rfl
      have j4 := (hA2.below hbW).cell 4 _ rfl
      rw [if_neg (by decide)]
      clear hV hd hn hI
      go_simp
      exact rfl
    · -- 1
      intro xs d W hd hn hI hV
      have hI' : apI lo C E be W2 L0 [d 3, d 7] W := hI
      obtain ⟨rowc, rowd, T, ec, ed⟩ := hI'
      have hbW : Below W2.heap.size W2 W := by rw [hlo]; exact T.b
      have q0 := (hQ2.below hbW).cell 0 _ rfl
      have q1 := (hQ2.below hbW).cell 1 _ rfl
      have q2 := (hQ2.below hbW).cell 2 _ rfl
      have j0 := (hA2.below hbW).cell 0 _ rfl
      have j1 := (hA2.below hbW).cell 1 _ rfl
      have j2 := (hA2.below hbW).cell 2 _ rfl
      have j3 := (hA2.below hbW).cell 3 _ rfl
      have j4 := (hA2.below hbW).cell 4 _ rfl
      rw [if_neg (by decide)]
      clear hV hd hn hI
      go_simp
      exact rfl
    · -- 2
      intro xs d W hd hn hI hV
      have hI' : apI lo C E be W2 L0 [d 3, d 7] W := hI
      obtain ⟨rowc, rowd, T, ec, ed⟩ := hI'
      have hbW : Below W2.heap.size W2 W := by rw [hlo]; exact T.b
      have q0 := (hQ2.below hbW).cell 0 _ rfl
      have q1 := (hQ2.below hbW).cell 1 _ rfl
      have q2 := (hQ2.below hbW).cell 2 _ rfl
      have j0 := (hA2.below hbW).cell 0 _ rfl
      have j1 := (hA2.below hbW).cell 1 _ rfl
      have j2 := (hA2.below hbW).cell 2 _ rfl
      have j3 := (hA2.below hbW).cell 3 _ rfl
      have j4 := (hA2.below hbW).cell 4 _ rfl
      rw [if_neg (by decide)]
      clear hV hd hn hI
      go_simp
      exact rfl
    · -- 3: Put
      intro xs d W hd hn hI hV
      have x0 : xs 0 = .pointer (some ⟨C, 0, none⟩) := hV 0 (hd 0 (by decide))
      have x1 : xs 1 = q.val := hV 1 (hd 1 (by decide))
      have x2 : xs 2 = a.val := hV 2 (hd 2 (by decide))
      rw [if_pos (by decide)]
      intro hdn
      obtain ⟨rowc, rowd, T, ec, ed⟩ := (show apI lo C E be W2 L0 [d 3, d 7] W from hI)
      rw [hdn, if_neg (by decide)] at ec
      obtain rfl := no_row ec
      have hbW : Below W2.heap.size W2 W := by rw [hlo]; exact T.b
      have hp7 := T.putC q hq hq20 a (ha2.below hbW) hsm (ha.low.mono (fun i hi => by omega)) 0 (by simp)
      rw [List.map_nil, hp] at hp7
      have hV' := hV
      clear hV hd hn hI
      unfold ptr Qn.val Am.val at hp7
      simp only [Option.map] at hp7
      unfold Qn.val at x1
      unfold Am.val at x2
      go_simp
      refine hp7.mono ?_
      rintro e W' ⟨r', rfl, he', T'⟩
      exact ⟨_, rfl, ⟨r', rowd, T', by simp [upd]; exact he', by simpa [upd] using ed⟩, rfl, fun j hj => VV.any (hV' j hj) (fun _ _ _ _ _ => trivial)⟩
    · -- 4
      intro xs d W hd hn hI hV
      have hI' : apI lo C E be W2 L0 [d 3, d 7] W := hI
      obtain ⟨rowc, rowd, T, ec, ed⟩ := hI'
      have hbW : Below W2.heap.size W2 W := by rw [hlo]; exact T.b
      have q0 := (hQ2.below hbW).cell 0 _ rfl
      have q1 := (hQ2.below hbW).cell 1 _ rfl
      have q2 := (hQ2.below hbW).cell 2 _ rfl
      have j0 := (hA2.below hbW).cell 0 _ rfl
      have j1 := (hA2.below hbW).cell 1 _ rfl
      have j2 := (hA2.below hbW).cell 2 _ rfl
      have j3 := (hA2.below hbW).cell 3 _ rfl
      have j4 := (hA2.below hbW).cell 4 _ rfl
      rw [if_neg (by decide)]
      clear hV hd hn hI
      go_simp
      exact rfl
    · -- 5
      intro xs d W hd hn hI hV
      have hI' : apI lo C E be W2 L0 [d 3, d 7] W := hI
      obtain ⟨rowc, rowd, T, ec, ed⟩ := hI'
      have hbW : Below W2.heap.size W2 W := by rw [hlo]; exact T.b
      have q0 := (hQ2.below hbW).cell 0 _ rfl
      have q1 := (hQ2.below hbW).cell 1 _ rfl
      have q2 := (hQ2.below hbW).cell 2 _ rfl
      have j0 := (hA2.below hbW).cell 0 _ rfl
      have j1 := (hA2.below hbW).cell 1 _ rfl
      have j2 := (hA2.below hbW).cell 2 _ rfl
      have j3 := (hA2.below hbW).cell 3 _ rfl
      have j4 := (hA2.below hbW).cell 4 _ rfl
      rw [if_neg (by decide)]
      clear hV hd hn hI
      go_simp
      exact rfl
    · -- 6
      intro xs d W hd hn hI hV
      have hI' : apI lo C E be W2 L0 [d 3, d 7] W := hI
      obtain ⟨rowc, rowd, T, ec, ed⟩ := hI'
      have hbW : Below W2.heap.size W2 W := by rw [hlo]; exact T.b
      have q0 := (hQ2.below hbW).cell 0 _ rfl
      have q1 := (hQ2.below hbW).cell 1 _ rfl
      have q2 := (hQ2.below hbW).cell 2 _ rfl
      have j0 := (hA2.below hbW).cell 0 _ rfl
      have j1 := (hA2.below hbW).cell 1 _ rfl
      have j2 := (hA2.below hbW).cell 2 _ rfl
      have j3 := (hA2.below hbW).cell 3 _ rfl
      have j4 := (hA2.below hbW).cell 4 _ rfl
      rw [if_neg (by decide)]
      clear hV hd hn hI
      go_simp
      exact rfl
    · -- 7: Put
      intro xs d W hd hn hI hV
      have x0 : xs 4 = .pointer (some ⟨E, 0, none⟩) := hV 4 (hd 4 (by decide))
      have x1 : xs 5 = q.val := hV 5 (hd 5 (by decide))
      have x2 : xs 6 = a.val := hV 6 (hd 6 (by decide))
      rw [if_pos (by decide)]
      intro hdn
      obtain ⟨rowc, rowd, T, ec, ed⟩ := (show apI lo C E be W2 L0 [d 3, d 7] W from hI)
      rw [hdn, if_neg (by decide)] at ed
      obtain rfl := no_row ed
      have hbW : Below W2.heap.size W2 W := by rw [hlo]; exact T.b
      have hp7 := T.putD q hq hq20 a (ha2.below hbW) hsm (ha.low.mono (fun i hi => by omega)) 0 (by simp)
      rw [List.map_nil, hp] at hp7
      have hV' := hV
      clear hV hd hn hI
      unfold ptr Qn.val Am.val at hp7
      simp only [Option.map] at hp7
      unfold Qn.val at x1
      unfold Am.val at x2
      go_simp
      refine hp7.mono ?_
      rintro e W' ⟨r', rfl, he', T'⟩
      exact ⟨_, rfl, ⟨rowc, r', T', by simpa [upd] using ec, by simp [upd]; exact he'⟩, rfl, fun j hj => VV.any (hV' j hj) (fun _ _ _ _ _ => trivial)⟩
    · -- 8
      intro xs d W hd hn hI hV
      have hI' : apI lo C E be W2 L0 [d 3, d 7] W := hI
      obtain ⟨rowc, rowd, T, ec, ed⟩ := hI'
      have hbW : Below W2.heap.size W2 W := by rw [hlo]; exact T.b
      have q0 := (hQ2.below hbW).cell 0 _ rfl
      have q1 := (hQ2.below hbW).cell 1 _ rfl
      have q2 := (hQ2.below hbW).cell 2 _ rfl
      have j0 := (hA2.below hbW).cell 0 _ rfl
      have j1 := (hA2.below hbW).cell 1 _ rfl
      have j2 := (hA2.below hbW).cell 2 _ rfl
      have j3 := (hA2.below hbW).cell 3 _ rfl
      have j4 := (hA2.below hbW).cell 4 _ rfl
      have x3 : xs 3 = .bool D := hV 3 (hd 3 (by decide))
      have x7 : xs 7 = .bool D := hV 7 (hd 7 (by decide))
      rw [if_neg (by decide)]
      clear hV hd hn hI
      go_simp
      exact rfl
  case hQ_7 =>
    intro xs W5 hI hV
    have y0 : xs 0 = .pointer (some ⟨C, 0, none⟩) := hV 0 (by decide)
    have y1 : xs 1 = q.val := hV 1 (by decide)
    have y2 : xs 2 = a.val := hV 2 (by decide)
    have y3 : xs 3 = .bool D := hV 3 (by decide)
    have y4 : xs 4 = .pointer (some ⟨E, 0, none⟩) := hV 4 (by decide)
    have y5 : xs 5 = q.val := hV 5 (by decide)
    have y6 : xs 6 = a.val := hV 6 (by decide)
    have y7 : xs 7 = .bool D := hV 7 (by decide)
    have y8 : xs 8 = .bool false := hV 8 (by decide)
    obtain ⟨rowc5, rowd5, T5, ec5, ed5⟩ := (show apI lo C E be W2 L0 [true, true] W5 from hI)
    rw [if_pos rfl] at ec5 ed5
    clear hV hI T4
    unfold Qn.val at y1 y5
    unfold Am.val at y2 y6
    rw [y8]
    go_wp2
    have hL0 : L0.length ≤ 1 := by
      have h1 := putV_at (k := ⟨⟨#[]⟩, -1, 0⟩) (room := 100) (l := []) (q := q) (rc := a.rc) (an := a.an.l) (au := a.au.l) (ex := a.ex.l) (t := 0) (T := 0) (by omega) (by omega) (fun h => by
        have := hq.ty.1
        have h2 := congrArg Qn.ty h
        have h3 : (foldQ q).ty = q.ty := rfl
        rw [h3] at h2
        simp only at h2
        omega) (by omega) (by simp)
      rw [hp] at h1
      exact h1.2
    clear hp ha2 hb34 y0 y1 y2 y3 y4 y5 y6 y7 y8
    have hQ2' := hQ2
    have HQ2 := Lib.hid hQ2
    have HS := Lib.hid hS
    have HD := Lib.hid ed5
    have hlen := hS.len
    have HSM := Lib.hid hsm1
    have hBlo : Below lo W2 W5 := T5.b
    go_loopw [13, 14] (fun tv i wr => ∃ (k : Nat) (tn : Int) (rowc : List Ce), k ≤ n ∧ tv = .int .i64 tn ∧ i = .int .i64 k ∧ 0 ≤ tn ∧ tn ≤ 1023 * k ∧ Two lo C lo E be W2 rowc rowd5 wr ∧ rowc.length ≤ 1 + k ∧ ∀ T, tn ≤ T → atV (foldQ q) T (rowc.map Ce.e) = atV (foldQ q) T L0) (fun tv i _ => n - (intOf i).toNat)
    case atStart => exact ⟨0, 0, rowc5, Nat.zero_le _, rfl, rfl, by omega, by omega, T5, by have := congrArg List.length ec5; rw [List.length_map] at this; omega, fun T _ => by rw [ec5]⟩
    case round =>
      clear T5 ec5 ed5 hQ2 hQ2' hBlo hA2 hsm1
      obtain ⟨k, tn, rowc, hk, rfl, rfl, t0, t1, T, hrl, hat⟩ := hrel
      have HAT := Lib.hid hat
      clear hat
      have hbw : Below W2.heap.size W2 wr := by rw [hlo]; exact T.b
      have hz6 := T.z
      by_cases hlt : k < n
      · obtain ⟨s, hsk⟩ : ∃ s, L[k]? = some s := ⟨L[k], List.getElem?_eq_getElem (by omega)⟩
        have hsin := List.mem_of_getElem? hsk
        have hso := HS.out.ok s hsin
        have hss := HSM.out.2 s hsin
        have hbW := below_trans hBw2 hbw
        cases A with
        | none => have := (HS.out.r.nil_ rfl).1; omega
        | some ad =>
        have hcs := (HS.out.below hbW).at k s hsk
        have hki : (k : Int) < (n : Int) := by omega
        have hao : s.a.ok wr := hso.a.below hbW
        have hlow : s.a.apart (fun i => lo ≤ i) := hso.a.low.mono (fun i hi => by have := HGL.out; omega)
        have hmk := mask_bd s.now 1023 (by omega)
        rw [show ((1023 : Nat) : Int) = 1023 from rfl] at hmk
        have g9 := cells_at hcs 8 _ rfl
        have g1 := cells_at hcs 0 _ rfl
        have g2 := cells_at hcs 1 _ rfl
        have g3 := cells_at hcs 2 _ rfl
        clear hcs
        obtain ⟨sp, sq, sa, sn⟩ := s
        dsimp only at g9 g1 g2 g3 hao hlow hmk
        have hsqo : sq.ok := hso.q
        have hsq20 : sq.nm.size ≤ 2000 := hss.2
        have hsas : sa.small := hss.1
        obtain ⟨mk, hmke⟩ : ∃ x, bits .and .i64 sn 1023 = x := ⟨_, rfl⟩
        rw [hmke] at hmk
        go_upto_region 14 with fail
        obtain ⟨t2, ht2⟩ : ∃ x, tn + mk = x := ⟨_, rfl⟩
        rw [ht2]
        have tb0 : 0 ≤ t2 := by omega
        have tb1 : t2 ≤ 1023 * ((k : Int) + 1) := by omega
        have tb2 : t2 ≤ 4611686018427387904 := by omega
        have HT2 := Lib.hid (show tn ≤ t2 by omega)
        clear hmk hmke g9 t0 t1 ht2
        go_upto_region 15 with fail
        have hX := Blk.new wr 25 #[.string sq.nm, .int .u16 sq.ty, .int .u16 sq.cl]
        have b1 := below_new wr (.cells #[.string sq.nm, .int .u16 sq.ty, .int .u16 sq.cl] 25)
        have T2 := T.below b1
        have hgn : ∀ x, CH C lo rowc x → x ≠ wr.heap.size := fun x hx => by have := CH.lt T.c x hx; omega
        obtain ⟨g9, hg9⟩ : ∃ x, wr.heap.size = x := ⟨_, rfl⟩
        obtain ⟨W6, hW6⟩ : ∃ x, wr.alloc (.cells #[.string sq.nm, .int .u16 sq.ty, .int .u16 sq.cl] 25) = x := ⟨_, rfl⟩
        rw [hW6] at hX b1 T2 ⊢
        rw [hg9] at hX hgn ⊢
        have hb26 : Below W2.heap.size W2 W6 := by rw [hlo]; exact T2.b
        have hbw6 := below_trans hBw2 hb26
        have k0 := cell_regrown (hX.cell 0 _ rfl)
        have k1 := cell_regrown (hX.cell 1 _ rfl)
        have k2 := cell_regrown (hX.cell 2 _ rfl)
        have l0 := cell_regrown ((HQ2.out.below hb26).cell 0 _ rfl)
        have l1 := cell_regrown ((HQ2.out.below hb26).cell 1 _ rfl)
        have l2 := cell_regrown ((HQ2.out.below hb26).cell 2 _ rfl)
        have cF : ∀ s : ByteArray, s.size ≤ 2000 → ∀ d os, Calls Try.prog 16 #[.string s] (grow (redrawn W6 d) os) fun e w'' => e = .returned (.string (foldS s)) ∧ ∃ p : Regrown, w'' = grow (redrawn W6 p.d) p.os := fun s hs d os => Calls.regrown_of (refFold_ _ _ (by omega))
        have cF1 := cF sq.nm hsq20
        have cF2 := cF q.nm hq20
        clear cF g1 g2 g3 T hbW hz6 hW6 hg9 hbw b1
        by_cases e1 : foldQ sq = foldQ q
        · have e2 : (foldS sq.nm).toList = (foldS q.nm).toList := congrArg ByteArray.toList (congrArg Qn.nm e1)
          have e3 : sq.ty = q.ty := congrArg (fun x => x.ty) e1
          have e4 : sq.cl = q.cl := congrArg (fun x => x.cl) e1
          have e5 : ((foldS sq.nm).toList == (foldS q.nm).toList) = true := by simp [e2]
          refine wp_region_quiet_below (by kernel_rfl) (by kernel_rfl) ?_
          repeat (quiet_step (first | exact cF1 _ _ | exact cF2 _ _))
          refine wpQuiet_nil ?_
          rintro _ ⟨⟨dq, osq⟩, rfl⟩
          have hb3 := below_regrown W6 dq osq
          obtain ⟨W7, hW7⟩ : ∃ y, grow (redrawn W6 dq) osq = y := ⟨_, rfl⟩
          rw [hW7] at hb3 ⊢
          have T3 := T2.below hb3
          clear k0 k1 k2 l0 l1 l2 cF1 cF2 hW7
          go_wp2
          go_roundw
          case rel => exact ⟨k + 1, t2, rowc, by omega, rfl, by go_num, tb0, by omega, T3, by omega, fun T hT => HAT.out T (by have := HT2.out; omega)⟩
          case measure => simp [intOf]; omega
        · have hne : foldQ sq ≠ foldQ q := e1
          by_cases e2 : (foldS sq.nm).toList = (foldS q.nm).toList
          · have e5 : ((foldS sq.nm).toList == (foldS q.nm).toList) = true := by simp [e2]
            have e6 := toList_inj e2
            by_cases e3 : sq.ty = q.ty
            · have e4 : ¬ sq.cl = q.cl := fun e4 => e1 (by unfold foldQ; rw [e6]; cases sq; cases q; simp only at e3 e4; subst e3; subst e4; rfl)
              have e7 : (sq.cl == q.cl) = false := by simp [e4]
              clear e6 e2
              refine wp_region_quiet_below (by kernel_rfl) (by kernel_rfl) ?_
              repeat (quiet_step (first | exact cF1 _ _ | exact cF2 _ _))
              refine wpQuiet_nil ?_
              rintro _ ⟨⟨dq, osq⟩, rfl⟩
              have hb3 := below_regrown W6 dq osq
              obtain ⟨W7, hW7⟩ : ∃ y, grow (redrawn W6 dq) osq = y := ⟨_, rfl⟩
              rw [hW7] at hb3 ⊢
              have T3 := T2.below hb3
              clear k0 k1 k2 l0 l1 l2 cF1 cF2 hW7
              clear e3 e4
              have hX3 := hX.below hb3
              have hb27 : Below W2.heap.size W2 W7 := by rw [hlo]; exact T3.b
              have hcs := (HS.out.below (below_trans hBw2 hb27)).at k _ hsk
              have g0 : W7.cell? (ad.add (k * 10)) = some (.bool sp) := by have := hcs 0 _ rfl; rwa [Addr.add_zero'] at this
              clear hcs hX hb3 T2 hb26 hbw6 e5
              cases sp
              · go_upto_region 18 with fail
                have q0 := hX3.cell 0 _ rfl
                have q1 := hX3.cell 1 _ rfl
                have q2 := hX3.cell 2 _ rfl
                have hg := T3.getC sq hsqo hsq20 t2
                have hgl := getV_len (l := rowc.map Ce.e) (q := sq) (now := t2)
                rw [List.length_map] at hgl
                have hga := fun T (hT : t2 ≤ T) => getV_at (k := foldQ q) (l := rowc.map Ce.e) (q := sq) (t := t2) (T := T) tb0 tb2 hne hT
                obtain ⟨GV, hGV⟩ : ∃ x, getV (rowc.map Ce.e) sq t2 = x := ⟨_, rfl⟩
                rw [hGV] at hg hgl hga
                clear hGV
                obtain ⟨GL, GO⟩ := GV
                simp only at hg hgl hga
                have HGA := Lib.hid hga
                clear hga
                have hlen8 := fun W lo C rowc (T : CacheW W C lo 100 rowc) => len_ W C lo 100 rowc T
                unfold ptr Qn.val at hg
                unfold ptr at hlen8
                simp only [Option.map] at hg hlen8
                cases GO with
                | none =>
                  go_wp2_with (first | (go_at_call 11; refine hg.mono ?_; clear hg; rintro e W8 ⟨rowe, he8, T8, hgp⟩; obtain rfl : e = .returned (.tuple #[.agg #[.int .u16 0, .bool false, .slice none 0 0, .slice none 0 0, .slice none 0 0], .bool false]) := hgp; have hl8 : rowe.length ≤ 1 + k := (by have := congrArg List.length he8; rw [List.length_map] at this; omega); have hl9 : ¬ (100 : Int) < (rowe.length : Int) := (by omega)) | (go_at_call 12; refine (hlen8 _ _ _ _ T8.c).mono ?_; clear hlen8; rintro e W9 ⟨rfl, rfl⟩))
                  go_roundw
                  case rel => exact ⟨k + 1, t2, rowe, by omega, rfl, by go_num, tb0, by omega, T8, by omega, fun T hT => by rw [he8, HGA.out T hT]; exact HAT.out T (by have := HT2.out; omega)⟩
                  case measure => simp [intOf]; omega
                | some eg =>
                  go_wp2_with (first | (go_at_call 11; refine hg.mono ?_; clear hg; rintro e W8 ⟨rowe, he8, T8, v1, v2, v3, rfl, o1, o2, o3⟩; have hl8 : rowe.length ≤ 1 + k := (by have := congrArg List.length he8; rw [List.length_map] at this; omega); have hl9 : ¬ (100 : Int) < (rowe.length : Int) := (by omega)) | (go_at_call 12; refine (hlen8 _ _ _ _ T8.c).mono ?_; clear hlen8; rintro e W9 ⟨rfl, rfl⟩))
                  go_roundw
                  case rel => exact ⟨k + 1, t2, rowe, by omega, rfl, by go_num, tb0, by omega, T8, by omega, fun T hT => by rw [he8, HGA.out T hT]; exact HAT.out T (by have := HT2.out; omega)⟩
                  case measure => simp [intOf]; omega
              · go_upto_region 17 with fail
                have hpa := fun T (hT : t2 ≤ T) => putV_at (k := foldQ q) (room := 100) (l := rowc.map Ce.e) (q := sq) (rc := sa.rc) (an := sa.an.l) (au := sa.au.l) (ex := sa.ex.l) (t := t2) (T := T) tb0 tb2 hne hT (by rw [List.length_map]; omega)
                obtain ⟨L1, hL1⟩ : ∃ x, rowc.map Ce.e = x := ⟨_, rfl⟩
                obtain ⟨⟨L2, D⟩, hp⟩ : ∃ x, putV 100 L1 sq sa.rc sa.an.l sa.au.l sa.ex.l t2 = x := ⟨_, rfl⟩
                rw [hL1, hp] at hpa
                simp only at hpa
                have HPA := Lib.hid hpa
                have hL2 : L2.length ≤ L1.length + 1 := (hpa t2 (by omega)).2
                have hL1n : L1.length ≤ 1 + k := by rw [← hL1, List.length_map]; exact hrl
                clear hpa
                refine wp_region_loud (by kernel_rfl) (by kernel_rfl) ?fr1 ?hfr1 [8] (VV (ap17c C sq ad n c k sa t2 D) ap7G) (apJ lo C E be W2 g9 sq L1 L2 rowd5) ?h01 ?hob1 ?hQ1 (by decide)
                case hfr1 =>
                  intro xs
                  simp only [fillL]
                  go_simp
                  exact rfl
                case h01 => exact ⟨rowc, T3.drew, hL1, fun _ => hX3.below ⟨rfl, rfl, rfl, Nat.le_refl _, fun _ _ => rfl⟩⟩
                case hob1 =>
                  refine ⟨?_, ?_, ?_, ?_, ?_, ?_, ?_, ?_, ?_, trivial⟩
                  · -- 0
                    intro xs d W hd hn hI hV
                    obtain ⟨rowc1, T, ec, hB⟩ := (show apJ lo C E be W2 g9 sq L1 L2 rowd5 [d 8] W from hI)
                    rw [if_neg (by decide)]
                    clear hV hd hn hI
                    go_simp
                    exact rfl
                  · -- 1
                    intro xs d W hd hn hI hV
                    obtain ⟨rowc1, T, ec, hB⟩ := (show apJ lo C E be W2 g9 sq L1 L2 rowd5 [d 8] W from hI)
                    have hBx := hB (hn 8 _ rfl (by decide))
                    have q0 := hBx.cell 0 _ rfl
                    have q1 := hBx.cell 1 _ rfl
                    have q2 := hBx.cell 2 _ rfl
                    rw [if_neg (by decide)]
                    clear hV hd hn hI
                    go_simp
                    exact rfl
                  · -- 2
                    intro xs d W hd hn hI hV
                    obtain ⟨rowc1, T, ec, hB⟩ := (show apJ lo C E be W2 g9 sq L1 L2 rowd5 [d 8] W from hI)
                    rw [if_neg (by decide)]
                    clear hV hd hn hI
                    go_simp
                    exact rfl
                  · -- 3
                    intro xs d W hd hn hI hV
                    obtain ⟨rowc1, T, ec, hB⟩ := (show apJ lo C E be W2 g9 sq L1 L2 rowd5 [d 8] W from hI)
                    rw [if_neg (by decide)]
                    clear hV hd hn hI
                    go_simp
                    exact rfl
                  · -- 4
                    intro xs d W hd hn hI hV
                    obtain ⟨rowc1, T, ec, hB⟩ := (show apJ lo C E be W2 g9 sq L1 L2 rowd5 [d 8] W from hI)
                    have x2 : xs 2 = .slice (some ad) n c := hV 2 (hd 2 (by decide))
                    have x3 : xs 3 = .int .i64 (k : Int) := hV 3 (hd 3 (by decide))
                    rw [if_neg (by decide)]
                    clear hV hd hn hI
                    go_simp
                    exact rfl
                  · -- 5
                    intro xs d W hd hn hI hV
                    obtain ⟨rowc1, T, ec, hB⟩ := (show apJ lo C E be W2 g9 sq L1 L2 rowd5 [d 8] W from hI)
                    have x4 : xs 4 = .pointer (some (ad.add (k * 10))) := hV 4 (hd 4 (by decide))
                    rw [if_neg (by decide)]
                    clear hV hd hn hI
                    go_simp
                    exact rfl
                  · -- 6
                    intro xs d W hd hn hI hV
                    obtain ⟨rowc1, T, ec, hB⟩ := (show apJ lo C E be W2 g9 sq L1 L2 rowd5 [d 8] W from hI)
                    have x5 : xs 5 = .pointer (some ⟨(ad.add (k * 10)).block, (ad.add (k * 10)).off + 4, none⟩) := hV 5 (hd 5 (by decide))
                    have hbW : Below W2.heap.size W2 W := by rw [hlo]; exact T.b
                    have hcs : Cells W (ad.add (k * 10)) (St.cells ⟨true, sq, sa, sn⟩) := (HS.out.below (below_trans hBw2 hbW)).at k _ hsk
                    have g4 := cells_at hcs 3 _ rfl
                    have g5 := cells_at hcs 4 _ rfl
                    have g6 := cells_at hcs 5 _ rfl
                    have g7 := cells_at hcs 6 _ rfl
                    have g8 := cells_at hcs 7 _ rfl
                    clear hcs
                    rw [if_neg (by decide)]
                    clear hV hd hn hI
                    go_simp
                    exact rfl
                  · -- 7
                    intro xs d W hd hn hI hV
                    obtain ⟨rowc1, T, ec, hB⟩ := (show apJ lo C E be W2 g9 sq L1 L2 rowd5 [d 8] W from hI)
                    rw [if_neg (by decide)]
                    clear hV hd hn hI
                    go_simp
                    exact rfl
                  · -- 8: Put
                    intro xs d W hd hn hI hV
                    have x0 : xs 0 = .pointer (some ⟨C, 0, none⟩) := hV 0 (hd 0 (by decide))
                    have x1 : xs 1 = sq.val := hV 1 (hd 1 (by decide))
                    have x6 : xs 6 = sa.val := hV 6 (hd 6 (by decide))
                    have x7 : xs 7 = .int .i64 t2 := hV 7 (hd 7 (by decide))
                    rw [if_pos (by decide)]
                    intro hdn
                    obtain ⟨rowc1, T, ec, hB⟩ := (show apJ lo C E be W2 g9 sq L1 L2 rowd5 [d 8] W from hI)
                    rw [hdn, if_neg (by decide)] at ec
                    have hbW : Below W2.heap.size W2 W := by rw [hlo]; exact T.b
                    have hao7 : sa.ok W := hso.a.below (below_trans hBw2 hbW)
                    have hl1 : (rowc1.length : Int) ≤ 100 := by have := congrArg List.length ec; rw [List.length_map] at this; omega
                    have hp7 := T.putC sq hsqo hsq20 sa hao7 hsas hlow t2 hl1
                    rw [ec, hp] at hp7
                    have hV' := hV
                    clear hV hd hn hI hB
                    unfold ptr Qn.val Am.val at hp7
                    simp only [Option.map] at hp7
                    unfold Qn.val at x1
                    unfold Am.val at x6
                    go_simp
                    refine hp7.mono ?_
                    rintro e W' ⟨r', rfl, he', T'⟩
                    exact ⟨_, rfl, ⟨r', T', by simp [upd]; exact he', fun h => by simp [upd] at h⟩, rfl, fun j hj => VV.any (hV' j hj) (fun _ _ _ _ _ => trivial)⟩
                case hQ1 =>
                  intro xs W8 hI hV
                  have y8 : xs 8 = .bool D := hV 8 (by decide)
                  obtain ⟨rowe, T8, he8, -⟩ := (show apJ lo C E be W2 g9 sq L1 L2 rowd5 [true] W8 from hI)
                  rw [if_pos rfl] at he8
                  have hl8 : rowe.length ≤ 1 + (k + 1) := by have := congrArg List.length he8; rw [List.length_map] at this; omega
                  have hl9 : ¬ (100 : Int) < (rowe.length : Int) := by omega
                  have hlen8 := len_ W8 C lo 100 rowe T8.c
                  unfold ptr at hlen8
                  simp only [Option.map] at hlen8
                  clear hV hI g0 hX3
                  go_wp2_with (first | (go_at_call 12; refine hlen8.mono ?_; clear hlen8; rintro e W9 ⟨rfl, rfl⟩))
                  go_roundw
                  case rel => exact ⟨k + 1, t2, rowe, by omega, rfl, by go_num, tb0, by omega, T8, by omega, fun T hT => by rw [he8, (HPA.out T hT).1, ← hL1]; exact HAT.out T (by have := HT2.out; omega)⟩
                  case measure => simp [intOf]; omega
            · have e7 : (sq.ty == q.ty) = false := by simp [e3]
              clear e6 e2
              refine wp_region_quiet_below (by kernel_rfl) (by kernel_rfl) ?_
              repeat (quiet_step (first | exact cF1 _ _ | exact cF2 _ _))
              refine wpQuiet_nil ?_
              rintro _ ⟨⟨dq, osq⟩, rfl⟩
              have hb3 := below_regrown W6 dq osq
              obtain ⟨W7, hW7⟩ : ∃ y, grow (redrawn W6 dq) osq = y := ⟨_, rfl⟩
              rw [hW7] at hb3 ⊢
              have T3 := T2.below hb3
              clear k0 k1 k2 l0 l1 l2 cF1 cF2 hW7
              clear e3
              have hX3 := hX.below hb3
              have hb27 : Below W2.heap.size W2 W7 := by rw [hlo]; exact T3.b
              have hcs := (HS.out.below (below_trans hBw2 hb27)).at k _ hsk
              have g0 : W7.cell? (ad.add (k * 10)) = some (.bool sp) := by have := hcs 0 _ rfl; rwa [Addr.add_zero'] at this
              clear hcs hX hb3 T2 hb26 hbw6 e5
              cases sp
              · go_upto_region 18 with fail
                have q0 := hX3.cell 0 _ rfl
                have q1 := hX3.cell 1 _ rfl
                have q2 := hX3.cell 2 _ rfl
                have hg := T3.getC sq hsqo hsq20 t2
                have hgl := getV_len (l := rowc.map Ce.e) (q := sq) (now := t2)
                rw [List.length_map] at hgl
                have hga := fun T (hT : t2 ≤ T) => getV_at (k := foldQ q) (l := rowc.map Ce.e) (q := sq) (t := t2) (T := T) tb0 tb2 hne hT
                obtain ⟨GV, hGV⟩ : ∃ x, getV (rowc.map Ce.e) sq t2 = x := ⟨_, rfl⟩
                rw [hGV] at hg hgl hga
                clear hGV
                obtain ⟨GL, GO⟩ := GV
                simp only at hg hgl hga
                have HGA := Lib.hid hga
                clear hga
                have hlen8 := fun W lo C rowc (T : CacheW W C lo 100 rowc) => len_ W C lo 100 rowc T
                unfold ptr Qn.val at hg
                unfold ptr at hlen8
                simp only [Option.map] at hg hlen8
                cases GO with
                | none =>
                  go_wp2_with (first | (go_at_call 11; refine hg.mono ?_; clear hg; rintro e W8 ⟨rowe, he8, T8, hgp⟩; obtain rfl : e = .returned (.tuple #[.agg #[.int .u16 0, .bool false, .slice none 0 0, .slice none 0 0, .slice none 0 0], .bool false]) := hgp; have hl8 : rowe.length ≤ 1 + k := (by have := congrArg List.length he8; rw [List.length_map] at this; omega); have hl9 : ¬ (100 : Int) < (rowe.length : Int) := (by omega)) | (go_at_call 12; refine (hlen8 _ _ _ _ T8.c).mono ?_; clear hlen8; rintro e W9 ⟨rfl, rfl⟩))
                  go_roundw
                  case rel => exact ⟨k + 1, t2, rowe, by omega, rfl, by go_num, tb0, by omega, T8, by omega, fun T hT => by rw [he8, HGA.out T hT]; exact HAT.out T (by have := HT2.out; omega)⟩
                  case measure => simp [intOf]; omega
                | some eg =>
                  go_wp2_with (first | (go_at_call 11; refine hg.mono ?_; clear hg; rintro e W8 ⟨rowe, he8, T8, v1, v2, v3, rfl, o1, o2, o3⟩; have hl8 : rowe.length ≤ 1 + k := (by have := congrArg List.length he8; rw [List.length_map] at this; omega); have hl9 : ¬ (100 : Int) < (rowe.length : Int) := (by omega)) | (go_at_call 12; refine (hlen8 _ _ _ _ T8.c).mono ?_; clear hlen8; rintro e W9 ⟨rfl, rfl⟩))
                  go_roundw
                  case rel => exact ⟨k + 1, t2, rowe, by omega, rfl, by go_num, tb0, by omega, T8, by omega, fun T hT => by rw [he8, HGA.out T hT]; exact HAT.out T (by have := HT2.out; omega)⟩
                  case measure => simp [intOf]; omega
              · go_upto_region 17 with fail
                have hpa := fun T (hT : t2 ≤ T) => putV_at (k := foldQ q) (room := 100) (l := rowc.map Ce.e) (q := sq) (rc := sa.rc) (an := sa.an.l) (au := sa.au.l) (ex := sa.ex.l) (t := t2) (T := T) tb0 tb2 hne hT (by rw [List.length_map]; omega)
                obtain ⟨L1, hL1⟩ : ∃ x, rowc.map Ce.e = x := ⟨_, rfl⟩
                obtain ⟨⟨L2, D⟩, hp⟩ : ∃ x, putV 100 L1 sq sa.rc sa.an.l sa.au.l sa.ex.l t2 = x := ⟨_, rfl⟩
                rw [hL1, hp] at hpa
                simp only at hpa
                have HPA := Lib.hid hpa
                have hL2 : L2.length ≤ L1.length + 1 := (hpa t2 (by omega)).2
                have hL1n : L1.length ≤ 1 + k := by rw [← hL1, List.length_map]; exact hrl
                clear hpa
                refine wp_region_loud (by kernel_rfl) (by kernel_rfl) ?fr2 ?hfr2 [8] (VV (ap17c C sq ad n c k sa t2 D) ap7G) (apJ lo C E be W2 g9 sq L1 L2 rowd5) ?h02 ?hob2 ?hQ2 (by decide)
                case hfr2 =>
                  intro xs
                  simp only [fillL]
                  go_simp
                  exact rfl
                case h02 => exact ⟨rowc, T3.drew, hL1, fun _ => hX3.below ⟨rfl, rfl, rfl, Nat.le_refl _, fun _ _ => rfl⟩⟩
                case hob2 =>
                  refine ⟨?_, ?_, ?_, ?_, ?_, ?_, ?_, ?_, ?_, trivial⟩
                  · -- 0
                    intro xs d W hd hn hI hV
                    obtain ⟨rowc1, T, ec, hB⟩ := (show apJ lo C E be W2 g9 sq L1 L2 rowd5 [d 8] W from hI)
                    rw [if_neg (by decide)]
                    clear hV hd hn hI
                    go_simp
                    exact rfl
                  · -- 1
                    intro xs d W hd hn hI hV
                    obtain ⟨rowc1, T, ec, hB⟩ := (show apJ lo C E be W2 g9 sq L1 L2 rowd5 [d 8] W from hI)
                    have hBx := hB (hn 8 _ rfl (by decide))
                    have q0 := hBx.cell 0 _ rfl
                    have q1 := hBx.cell 1 _ rfl
                    have q2 := hBx.cell 2 _ rfl
                    rw [if_neg (by decide)]
                    clear hV hd hn hI
                    go_simp
                    exact rfl
                  · -- 2
                    intro xs d W hd hn hI hV
                    obtain ⟨rowc1, T, ec, hB⟩ := (show apJ lo C E be W2 g9 sq L1 L2 rowd5 [d 8] W from hI)
                    rw [if_neg (by decide)]
                    clear hV hd hn hI
                    go_simp
                    exact rfl
                  · -- 3
                    intro xs d W hd hn hI hV
                    obtain ⟨rowc1, T, ec, hB⟩ := (show apJ lo C E be W2 g9 sq L1 L2 rowd5 [d 8] W from hI)
                    rw [if_neg (by decide)]
                    clear hV hd hn hI
                    go_simp
                    exact rfl
                  · -- 4
                    intro xs d W hd hn hI hV
                    obtain ⟨rowc1, T, ec, hB⟩ := (show apJ lo C E be W2 g9 sq L1 L2 rowd5 [d 8] W from hI)
                    have x2 : xs 2 = .slice (some ad) n c := hV 2 (hd 2 (by decide))
                    have x3 : xs 3 = .int .i64 (k : Int) := hV 3 (hd 3 (by decide))
                    rw [if_neg (by decide)]
                    clear hV hd hn hI
                    go_simp
                    exact rfl
                  · -- 5
                    intro xs d W hd hn hI hV
                    obtain ⟨rowc1, T, ec, hB⟩ := (show apJ lo C E be W2 g9 sq L1 L2 rowd5 [d 8] W from hI)
                    have x4 : xs 4 = .pointer (some (ad.add (k * 10))) := hV 4 (hd 4 (by decide))
                    rw [if_neg (by decide)]
                    clear hV hd hn hI
                    go_simp
                    exact rfl
                  · -- 6
                    intro xs d W hd hn hI hV
                    obtain ⟨rowc1, T, ec, hB⟩ := (show apJ lo C E be W2 g9 sq L1 L2 rowd5 [d 8] W from hI)
                    have x5 : xs 5 = .pointer (some ⟨(ad.add (k * 10)).block, (ad.add (k * 10)).off + 4, none⟩) := hV 5 (hd 5 (by decide))
                    have hbW : Below W2.heap.size W2 W := by rw [hlo]; exact T.b
                    have hcs : Cells W (ad.add (k * 10)) (St.cells ⟨true, sq, sa, sn⟩) := (HS.out.below (below_trans hBw2 hbW)).at k _ hsk
                    have g4 := cells_at hcs 3 _ rfl
                    have g5 := cells_at hcs 4 _ rfl
                    have g6 := cells_at hcs 5 _ rfl
                    have g7 := cells_at hcs 6 _ rfl
                    have g8 := cells_at hcs 7 _ rfl
                    clear hcs
                    rw [if_neg (by decide)]
                    clear hV hd hn hI
                    go_simp
                    exact rfl
                  · -- 7
                    intro xs d W hd hn hI hV
                    obtain ⟨rowc1, T, ec, hB⟩ := (show apJ lo C E be W2 g9 sq L1 L2 rowd5 [d 8] W from hI)
                    rw [if_neg (by decide)]
                    clear hV hd hn hI
                    go_simp
                    exact rfl
                  · -- 8: Put
                    intro xs d W hd hn hI hV
                    have x0 : xs 0 = .pointer (some ⟨C, 0, none⟩) := hV 0 (hd 0 (by decide))
                    have x1 : xs 1 = sq.val := hV 1 (hd 1 (by decide))
                    have x6 : xs 6 = sa.val := hV 6 (hd 6 (by decide))
                    have x7 : xs 7 = .int .i64 t2 := hV 7 (hd 7 (by decide))
                    rw [if_pos (by decide)]
                    intro hdn
                    obtain ⟨rowc1, T, ec, hB⟩ := (show apJ lo C E be W2 g9 sq L1 L2 rowd5 [d 8] W from hI)
                    rw [hdn, if_neg (by decide)] at ec
                    have hbW : Below W2.heap.size W2 W := by rw [hlo]; exact T.b
                    have hao7 : sa.ok W := hso.a.below (below_trans hBw2 hbW)
                    have hl1 : (rowc1.length : Int) ≤ 100 := by have := congrArg List.length ec; rw [List.length_map] at this; omega
                    have hp7 := T.putC sq hsqo hsq20 sa hao7 hsas hlow t2 hl1
                    rw [ec, hp] at hp7
                    have hV' := hV
                    clear hV hd hn hI hB
                    unfold ptr Qn.val Am.val at hp7
                    simp only [Option.map] at hp7
                    unfold Qn.val at x1
                    unfold Am.val at x6
                    go_simp
                    refine hp7.mono ?_
                    rintro e W' ⟨r', rfl, he', T'⟩
                    exact ⟨_, rfl, ⟨r', T', by simp [upd]; exact he', fun h => by simp [upd] at h⟩, rfl, fun j hj => VV.any (hV' j hj) (fun _ _ _ _ _ => trivial)⟩
                case hQ2 =>
                  intro xs W8 hI hV
                  have y8 : xs 8 = .bool D := hV 8 (by decide)
                  obtain ⟨rowe, T8, he8, -⟩ := (show apJ lo C E be W2 g9 sq L1 L2 rowd5 [true] W8 from hI)
                  rw [if_pos rfl] at he8
                  have hl8 : rowe.length ≤ 1 + (k + 1) := by have := congrArg List.length he8; rw [List.length_map] at this; omega
                  have hl9 : ¬ (100 : Int) < (rowe.length : Int) := by omega
                  have hlen8 := len_ W8 C lo 100 rowe T8.c
                  unfold ptr at hlen8
                  simp only [Option.map] at hlen8
                  clear hV hI g0 hX3
                  go_wp2_with (first | (go_at_call 12; refine hlen8.mono ?_; clear hlen8; rintro e W9 ⟨rfl, rfl⟩))
                  go_roundw
                  case rel => exact ⟨k + 1, t2, rowe, by omega, rfl, by go_num, tb0, by omega, T8, by omega, fun T hT => by rw [he8, (HPA.out T hT).1, ← hL1]; exact HAT.out T (by have := HT2.out; omega)⟩
                  case measure => simp [intOf]; omega
          · have e5 : ((foldS sq.nm).toList == (foldS q.nm).toList) = false := by simp [e2]
            refine wp_region_quiet_below (by kernel_rfl) (by kernel_rfl) ?_
            repeat (quiet_step (first | exact cF1 _ _ | exact cF2 _ _))
            refine wpQuiet_nil ?_
            rintro _ ⟨⟨dq, osq⟩, rfl⟩
            have hb3 := below_regrown W6 dq osq
            obtain ⟨W7, hW7⟩ : ∃ y, grow (redrawn W6 dq) osq = y := ⟨_, rfl⟩
            rw [hW7] at hb3 ⊢
            have T3 := T2.below hb3
            clear k0 k1 k2 l0 l1 l2 cF1 cF2 hW7
            have hX3 := hX.below hb3
            have hb27 : Below W2.heap.size W2 W7 := by rw [hlo]; exact T3.b
            have hcs := (HS.out.below (below_trans hBw2 hb27)).at k _ hsk
            have g0 : W7.cell? (ad.add (k * 10)) = some (.bool sp) := by have := hcs 0 _ rfl; rwa [Addr.add_zero'] at this
            clear hcs hX hb3 T2 hb26 hbw6 e5
            cases sp
            · go_upto_region 18 with fail
              have q0 := hX3.cell 0 _ rfl
              have q1 := hX3.cell 1 _ rfl
              have q2 := hX3.cell 2 _ rfl
              have hg := T3.getC sq hsqo hsq20 t2
              have hgl := getV_len (l := rowc.map Ce.e) (q := sq) (now := t2)
              rw [List.length_map] at hgl
              have hga := fun T (hT : t2 ≤ T) => getV_at (k := foldQ q) (l := rowc.map Ce.e) (q := sq) (t := t2) (T := T) tb0 tb2 hne hT
              obtain ⟨GV, hGV⟩ : ∃ x, getV (rowc.map Ce.e) sq t2 = x := ⟨_, rfl⟩
              rw [hGV] at hg hgl hga
              clear hGV
              obtain ⟨GL, GO⟩ := GV
              simp only at hg hgl hga
              have HGA := Lib.hid hga
              clear hga
              have hlen8 := fun W lo C rowc (T : CacheW W C lo 100 rowc) => len_ W C lo 100 rowc T
              unfold ptr Qn.val at hg
              unfold ptr at hlen8
              simp only [Option.map] at hg hlen8
              cases GO with
              | none =>
                go_wp2_with (first | (go_at_call 11; refine hg.mono ?_; clear hg; rintro e W8 ⟨rowe, he8, T8, hgp⟩; obtain rfl : e = .returned (.tuple #[.agg #[.int .u16 0, .bool false, .slice none 0 0, .slice none 0 0, .slice none 0 0], .bool false]) := hgp; have hl8 : rowe.length ≤ 1 + k := (by have := congrArg List.length he8; rw [List.length_map] at this; omega); have hl9 : ¬ (100 : Int) < (rowe.length : Int) := (by omega)) | (go_at_call 12; refine (hlen8 _ _ _ _ T8.c).mono ?_; clear hlen8; rintro e W9 ⟨rfl, rfl⟩))
                go_roundw
                case rel => exact ⟨k + 1, t2, rowe, by omega, rfl, by go_num, tb0, by omega, T8, by omega, fun T hT => by rw [he8, HGA.out T hT]; exact HAT.out T (by have := HT2.out; omega)⟩
                case measure => simp [intOf]; omega
              | some eg =>
                go_wp2_with (first | (go_at_call 11; refine hg.mono ?_; clear hg; rintro e W8 ⟨rowe, he8, T8, v1, v2, v3, rfl, o1, o2, o3⟩; have hl8 : rowe.length ≤ 1 + k := (by have := congrArg List.length he8; rw [List.length_map] at this; omega); have hl9 : ¬ (100 : Int) < (rowe.length : Int) := (by omega)) | (go_at_call 12; refine (hlen8 _ _ _ _ T8.c).mono ?_; clear hlen8; rintro e W9 ⟨rfl, rfl⟩))
                go_roundw
                case rel => exact ⟨k + 1, t2, rowe, by omega, rfl, by go_num, tb0, by omega, T8, by omega, fun T hT => by rw [he8, HGA.out T hT]; exact HAT.out T (by have := HT2.out; omega)⟩
                case measure => simp [intOf]; omega
            · go_upto_region 17 with fail
              have hpa := fun T (hT : t2 ≤ T) => putV_at (k := foldQ q) (room := 100) (l := rowc.map Ce.e) (q := sq) (rc := sa.rc) (an := sa.an.l) (au := sa.au.l) (ex := sa.ex.l) (t := t2) (T := T) tb0 tb2 hne hT (by rw [List.length_map]; omega)
              obtain ⟨L1, hL1⟩ : ∃ x, rowc.map Ce.e = x := ⟨_, rfl⟩
              obtain ⟨⟨L2, D⟩, hp⟩ : ∃ x, putV 100 L1 sq sa.rc sa.an.l sa.au.l sa.ex.l t2 = x := ⟨_, rfl⟩
              rw [hL1, hp] at hpa
              simp only at hpa
              have HPA := Lib.hid hpa
              have hL2 : L2.length ≤ L1.length + 1 := (hpa t2 (by omega)).2
              have hL1n : L1.length ≤ 1 + k := by rw [← hL1, List.length_map]; exact hrl
              clear hpa
              refine wp_region_loud (by kernel_rfl) (by kernel_rfl) ?fr3 ?hfr3 [8] (VV (ap17c C sq ad n c k sa t2 D) ap7G) (apJ lo C E be W2 g9 sq L1 L2 rowd5) ?h03 ?hob3 ?hQ3 (by decide)
              case hfr3 =>
                intro xs
                simp only [fillL]
                go_simp
                exact rfl
              case h03 => exact ⟨rowc, T3.drew, hL1, fun _ => hX3.below ⟨rfl, rfl, rfl, Nat.le_refl _, fun _ _ => rfl⟩⟩
              case hob3 =>
                refine ⟨?_, ?_, ?_, ?_, ?_, ?_, ?_, ?_, ?_, trivial⟩
                · -- 0
                  intro xs d W hd hn hI hV
                  obtain ⟨rowc1, T, ec, hB⟩ := (show apJ lo C E be W2 g9 sq L1 L2 rowd5 [d 8] W from hI)
                  rw [if_neg (by decide)]
                  clear hV hd hn hI
                  go_simp
                  exact rfl
                · -- 1
                  intro xs d W hd hn hI hV
                  obtain ⟨rowc1, T, ec, hB⟩ := (show apJ lo C E be W2 g9 sq L1 L2 rowd5 [d 8] W from hI)
                  have hBx := hB (hn 8 _ rfl (by decide))
                  have q0 := hBx.cell 0 _ rfl
                  have q1 := hBx.cell 1 _ rfl
                  have q2 := hBx.cell 2 _ rfl
                  rw [if_neg (by decide)]
                  clear hV hd hn hI
                  go_simp
                  exact rfl
                · -- 2
                  intro xs d W hd hn hI hV
                  obtain ⟨rowc1, T, ec, hB⟩ := (show apJ lo C E be W2 g9 sq L1 L2 rowd5 [d 8] W from hI)
                  rw [if_neg (by decide)]
                  clear hV hd hn hI
                  go_simp
                  exact rfl
                · -- 3
                  intro xs d W hd hn hI hV
                  obtain ⟨rowc1, T, ec, hB⟩ := (show apJ lo C E be W2 g9 sq L1 L2 rowd5 [d 8] W from hI)
                  rw [if_neg (by decide)]
                  clear hV hd hn hI
                  go_simp
                  exact rfl
                · -- 4
                  intro xs d W hd hn hI hV
                  obtain ⟨rowc1, T, ec, hB⟩ := (show apJ lo C E be W2 g9 sq L1 L2 rowd5 [d 8] W from hI)
                  have x2 : xs 2 = .slice (some ad) n c := hV 2 (hd 2 (by decide))
                  have x3 : xs 3 = .int .i64 (k : Int) := hV 3 (hd 3 (by decide))
                  rw [if_neg (by decide)]
                  clear hV hd hn hI
                  go_simp
                  exact rfl
                · -- 5
                  intro xs d W hd hn hI hV
                  obtain ⟨rowc1, T, ec, hB⟩ := (show apJ lo C E be W2 g9 sq L1 L2 rowd5 [d 8] W from hI)
                  have x4 : xs 4 = .pointer (some (ad.add (k * 10))) := hV 4 (hd 4 (by decide))
                  rw [if_neg (by decide)]
                  clear hV hd hn hI
                  go_simp
                  exact rfl
                · -- 6
                  intro xs d W hd hn hI hV
                  obtain ⟨rowc1, T, ec, hB⟩ := (show apJ lo C E be W2 g9 sq L1 L2 rowd5 [d 8] W from hI)
                  have x5 : xs 5 = .pointer (some ⟨(ad.add (k * 10)).block, (ad.add (k * 10)).off + 4, none⟩) := hV 5 (hd 5 (by decide))
                  have hbW : Below W2.heap.size W2 W := by rw [hlo]; exact T.b
                  have hcs : Cells W (ad.add (k * 10)) (St.cells ⟨true, sq, sa, sn⟩) := (HS.out.below (below_trans hBw2 hbW)).at k _ hsk
                  have g4 := cells_at hcs 3 _ rfl
                  have g5 := cells_at hcs 4 _ rfl
                  have g6 := cells_at hcs 5 _ rfl
                  have g7 := cells_at hcs 6 _ rfl
                  have g8 := cells_at hcs 7 _ rfl
                  clear hcs
                  rw [if_neg (by decide)]
                  clear hV hd hn hI
                  go_simp
                  exact rfl
                · -- 7
                  intro xs d W hd hn hI hV
                  obtain ⟨rowc1, T, ec, hB⟩ := (show apJ lo C E be W2 g9 sq L1 L2 rowd5 [d 8] W from hI)
                  rw [if_neg (by decide)]
                  clear hV hd hn hI
                  go_simp
                  exact rfl
                · -- 8: Put
                  intro xs d W hd hn hI hV
                  have x0 : xs 0 = .pointer (some ⟨C, 0, none⟩) := hV 0 (hd 0 (by decide))
                  have x1 : xs 1 = sq.val := hV 1 (hd 1 (by decide))
                  have x6 : xs 6 = sa.val := hV 6 (hd 6 (by decide))
                  have x7 : xs 7 = .int .i64 t2 := hV 7 (hd 7 (by decide))
                  rw [if_pos (by decide)]
                  intro hdn
                  obtain ⟨rowc1, T, ec, hB⟩ := (show apJ lo C E be W2 g9 sq L1 L2 rowd5 [d 8] W from hI)
                  rw [hdn, if_neg (by decide)] at ec
                  have hbW : Below W2.heap.size W2 W := by rw [hlo]; exact T.b
                  have hao7 : sa.ok W := hso.a.below (below_trans hBw2 hbW)
                  have hl1 : (rowc1.length : Int) ≤ 100 := by have := congrArg List.length ec; rw [List.length_map] at this; omega
                  have hp7 := T.putC sq hsqo hsq20 sa hao7 hsas hlow t2 hl1
                  rw [ec, hp] at hp7
                  have hV' := hV
                  clear hV hd hn hI hB
                  unfold ptr Qn.val Am.val at hp7
                  simp only [Option.map] at hp7
                  unfold Qn.val at x1
                  unfold Am.val at x6
                  go_simp
                  refine hp7.mono ?_
                  rintro e W' ⟨r', rfl, he', T'⟩
                  exact ⟨_, rfl, ⟨r', T', by simp [upd]; exact he', fun h => by simp [upd] at h⟩, rfl, fun j hj => VV.any (hV' j hj) (fun _ _ _ _ _ => trivial)⟩
              case hQ3 =>
                intro xs W8 hI hV
                have y8 : xs 8 = .bool D := hV 8 (by decide)
                obtain ⟨rowe, T8, he8, -⟩ := (show apJ lo C E be W2 g9 sq L1 L2 rowd5 [true] W8 from hI)
                rw [if_pos rfl] at he8
                have hl8 : rowe.length ≤ 1 + (k + 1) := by have := congrArg List.length he8; rw [List.length_map] at this; omega
                have hl9 : ¬ (100 : Int) < (rowe.length : Int) := by omega
                have hlen8 := len_ W8 C lo 100 rowe T8.c
                unfold ptr at hlen8
                simp only [Option.map] at hlen8
                clear hV hI g0 hX3
                go_wp2_with (first | (go_at_call 12; refine hlen8.mono ?_; clear hlen8; rintro e W9 ⟨rfl, rfl⟩))
                go_roundw
                case rel => exact ⟨k + 1, t2, rowe, by omega, rfl, by go_num, tb0, by omega, T8, by omega, fun T hT => by rw [he8, (HPA.out T hT).1, ← hL1]; exact HAT.out T (by have := HT2.out; omega)⟩
                case measure => simp [intOf]; omega
      · obtain rfl : k = n := by omega
        have hmk := mask_bd nw0 1023 (by omega)
        rw [show ((1023 : Nat) : Int) = 1023 from rfl] at hmk
        obtain ⟨mk, hmke⟩ : ∃ x, bits .and .i64 nw0 1023 = x := ⟨_, rfl⟩
        rw [hmke] at hmk
        go_upto_region 22 with fail
        obtain ⟨t2, ht2⟩ : ∃ x, tn + mk = x := ⟨_, rfl⟩
        rw [ht2]
        have tb0 : 0 ≤ t2 := by omega
        have tb2 : t2 ≤ 4611686018427387904 := by omega
        have hat2 := HAT.out t2 (by omega)
        clear hmk hmke t0 t1 ht2 b0 b1
        have hel : ∀ e, atV (foldQ q) t2 L0 = some e → e.an.length ≤ 30 ∧ e.au.length ≤ 30 ∧ e.ex.length ≤ 30 := by
          intro e he
          have hin : e ∈ rowd5.map Ce.e := by rw [HD.out]; exact List.mem_of_find?_eq_some he
          obtain ⟨c, hc, rfl⟩ := List.mem_map.1 hin
          have := (T.d.ok c hc).e
          exact ⟨this.na, this.nu, this.nx⟩
        have hg1 := T.getC q hq hq20 t2
        rw [getV_two _ _ tb0 tb2, hat2, clockV_id tb0 tb2] at hg1
        have hg2 := fun W (h : CacheW W E be 100 rowd5) => get_ W E be 100 rowd5 h q hq hq20 t2
        rw [HD.out] at hg2
        rw [getV_two _ _ tb0 tb2, clockV_id tb0 tb2] at hg2
        have q0 := (HQ2.out.below hbw).cell 0 _ rfl
        have q1 := (HQ2.out.below hbw).cell 1 _ rfl
        have q2 := (HQ2.out.below hbw).cell 2 _ rfl
        unfold ptr Qn.val at hg1 hg2
        simp only [Option.map] at hg1 hg2
        have HTN := Lib.hid (And.intro tb0 tb2)
        obtain ⟨O, hO⟩ : ∃ x, atV (foldQ q) t2 L0 = x := ⟨_, rfl⟩
        rw [hO] at hg1 hg2 hel
        clear hO hat2 tb0 tb2 hbw hrl
        cases O with
        | none =>
          go_upto_region 23 with (first | (go_at_call 11; refine hg1.mono ?_; clear hg1; rintro e W8 ⟨rowe, he8, T8, hgp⟩; obtain rfl : e = .returned (.tuple #[.agg #[.int .u16 0, .bool false, .slice none 0 0, .slice none 0 0, .slice none 0 0], .bool false]) := hgp))
          have hX := Blk.new W8 28 #[.int .u16 0, .bool false, .slice none 0 0, .slice none 0 0, .slice none 0 0]
          have b9 := below_new W8 (.cells #[.int .u16 0, .bool false, .slice none 0 0, .slice none 0 0, .slice none 0 0] 28)
          have T9 := T8.below b9
          obtain ⟨g8, hg8⟩ : ∃ x, W8.heap.size = x := ⟨_, rfl⟩
          have hn9 : ¬ CS E be rowd5 g8 := fun h => by have := CH.lt T8.d _ (.inl h); omega
          obtain ⟨W9, hW9⟩ : ∃ x, W8.alloc (.cells #[.int .u16 0, .bool false, .slice none 0 0, .slice none 0 0, .slice none 0 0] 28) = x := ⟨_, rfl⟩
          rw [hW9] at hX T9 ⊢
          rw [hg8] at hX ⊢
          have hbw9 : Below W2.heap.size W2 W9 := by rw [hlo]; exact T9.b
          have r0 := (HQ2.out.below hbw9).cell 0 _ rfl
          have r1 := (HQ2.out.below hbw9).cell 1 _ rfl
          have r2 := (HQ2.out.below hbw9).cell 2 _ rfl
          have hg3 := hg2 W9 T9.d
          clear hg2 b9 hW9 q0 q1 q2 T8
          go_upto_region 24 with (first | (go_at_call 11; refine hg3.mono ?_; clear hg3; rintro e W10 ⟨rowf, he10, hl10, hh10, hgp⟩; obtain rfl : e = .returned (.tuple #[.agg #[.int .u16 0, .bool false, .slice none 0 0, .slice none 0 0, .slice none 0 0], .bool false]) := hgp))
          have T10 := T9.stepD hl10
          have hX10 := hX.fr hl10.f hn9
          have hb11 := below_new W10 (.cells #[.int .u16 0, .bool false, .slice none 0 0, .slice none 0 0, .slice none 0 0] 28)
          have hY := Blk.new W10 28 #[.int .u16 0, .bool false, .slice none 0 0, .slice none 0 0, .slice none 0 0]
          have T11 := T10.below hb11
          have hX11 := hX10.below hb11
          obtain ⟨g10, hg10⟩ : ∃ x, W10.heap.size = x := ⟨_, rfl⟩
          obtain ⟨W11, hW11⟩ : ∃ x, W10.alloc (.cells #[.int .u16 0, .bool false, .slice none 0 0, .slice none 0 0, .slice none 0 0] 28) = x := ⟨_, rfl⟩
          rw [hW11] at hX11 hY T11 ⊢
          rw [hg10] at hY ⊢
          have R : ∀ W, RsW W (.slice none 0 0) [] := fun W => ⟨none, 0, 0, rfl, Rd.nil _ _, by omega⟩
          have hsame := same_ W11 0 false (.slice none 0 0) (.slice none 0 0) (.slice none 0 0) (.slice none 0 0) (.slice none 0 0) (.slice none 0 0) [] [] [] (R _) (R _) (R _) (R _) (R _) (R _)
          have hbw11 := below_trans hBw2 (by rw [hlo]; exact T11.b : Below W2.heap.size W2 W11)
          clear R
          have x0 := hX11.cell 0 _ rfl
          have x1 := hX11.cell 1 _ rfl
          have x2 := hX11.cell 2 _ rfl
          have x3 := hX11.cell 3 _ rfl
          have x4 := hX11.cell 4 _ rfl
          have y0 := hY.cell 0 _ rfl
          have y1 := hY.cell 1 _ rfl
          have y2 := hY.cell 2 _ rfl
          have y3 := hY.cell 3 _ rfl
          have y4 := hY.cell 4 _ rfl
          go_wp2_with (first | (go_at_call 17; refine hsame.mono ?_; clear hsame; rintro e W12 ⟨rfl, hb12⟩) | (go_at_call 13; refine (keeps_ _).mono ?_; rintro e W13 ⟨rfl, hb13⟩))
          go_ret
          exact ⟨rfl, below_trans hbw11 (below_trans hb12 hb13)⟩
        | some eg =>
          obtain ⟨el1, el2, el3⟩ := hel eg rfl
          go_upto_region 23 with (first | (go_at_call 11; refine hg1.mono ?_; clear hg1; rintro e W8 ⟨rowe, he8, T8, v1, v2, v3, rfl, o1, o2, o3⟩; obtain ⟨A1, k1, rfl, -⟩ := own_rd o1; obtain ⟨A2, k2, rfl, -⟩ := own_rd o2; obtain ⟨A3, k3, rfl, -⟩ := own_rd o3))
          have hzz : ∀ x, CS E be rowd5 x → x < wr.heap.size := fun x h => CH.lt T.d _ (.inl h)
          have hX := Blk.new W8 28 #[.int .u16 eg.rc, .bool false, .slice A1 eg.an.length k1, .slice A2 eg.au.length k2, .slice A3 eg.ex.length k3]
          have b9 := below_new W8 (.cells #[.int .u16 eg.rc, .bool false, .slice A1 eg.an.length k1, .slice A2 eg.au.length k2, .slice A3 eg.ex.length k3] 28)
          have T9 := T8.below b9
          have o91 := own_below o1 b9
          have o92 := own_below o2 b9
          have o93 := own_below o3 b9
          obtain ⟨g8, hg8⟩ : ∃ x, W8.heap.size = x := ⟨_, rfl⟩
          have hn9 : ¬ CS E be rowd5 g8 := fun h => by have := CH.lt T8.d _ (.inl h); omega
          obtain ⟨W9, hW9⟩ : ∃ x, W8.alloc (.cells #[.int .u16 eg.rc, .bool false, .slice A1 eg.an.length k1, .slice A2 eg.au.length k2, .slice A3 eg.ex.length k3] 28) = x := ⟨_, rfl⟩
          rw [hW9] at hX T9 o91 o92 o93 ⊢
          rw [hg8] at hX ⊢
          have hbw9 : Below W2.heap.size W2 W9 := by rw [hlo]; exact T9.b
          have r0 := (HQ2.out.below hbw9).cell 0 _ rfl
          have r1 := (HQ2.out.below hbw9).cell 1 _ rfl
          have r2 := (HQ2.out.below hbw9).cell 2 _ rfl
          have hg3 := hg2 W9 T9.d
          clear hg2 b9 hW9 q0 q1 q2 T8 o1 o2 o3
          go_upto_region 24 with (first | (go_at_call 11; refine hg3.mono ?_; clear hg3; rintro e W10 ⟨rowf, he10, hl10, hh10, u1, u2, u3, rfl, p1, p2, p3⟩; obtain ⟨B1, m1, rfl, -⟩ := own_rd p1; obtain ⟨B2, m2, rfl, -⟩ := own_rd p2; obtain ⟨B3, m3, rfl, -⟩ := own_rd p3))
          have T10 := T9.stepD hl10
          have hX10 := hX.fr hl10.f hn9
          have o101 := own_fr o91 hl10.f (fun i hi h => by have := own_base o91 i hi; have := hzz i h; omega)
          have o102 := own_fr o92 hl10.f (fun i hi h => by have := own_base o92 i hi; have := hzz i h; omega)
          have o103 := own_fr o93 hl10.f (fun i hi h => by have := own_base o93 i hi; have := hzz i h; omega)
          have hb11 := below_new W10 (.cells #[.int .u16 eg.rc, .bool false, .slice B1 eg.an.length m1, .slice B2 eg.au.length m2, .slice B3 eg.ex.length m3] 28)
          have hY := Blk.new W10 28 #[.int .u16 eg.rc, .bool false, .slice B1 eg.an.length m1, .slice B2 eg.au.length m2, .slice B3 eg.ex.length m3]
          have T11 := T10.below hb11
          have hX11 := hX10.below hb11
          obtain ⟨g10, hg10⟩ : ∃ x, W10.heap.size = x := ⟨_, rfl⟩
          have R : ∀ (B : Nat) (v : Value) (l : List Rc), l.length ≤ 30 → W10.ownsRow B 46 12 v l.length (rcs (l.map (agedR (ageV t2 eg)))) → RsW (W10.alloc (.cells #[.int .u16 eg.rc, .bool false, .slice B1 eg.an.length m1, .slice B2 eg.au.length m2, .slice B3 eg.ex.length m3] 28)) v (l.map (agedR (ageV t2 eg))) := fun B v l hl ho => by
            obtain ⟨A, c, rfl, hr⟩ := own_rd (own_below ho hb11)
            exact ⟨A, _, c, rfl, hr, by omega⟩
          have hsame := same_ _ eg.rc false _ _ _ _ _ _ _ _ _ (R _ _ _ el1 o101) (R _ _ _ el2 o102) (R _ _ _ el3 o103) (R _ _ _ el1 p1) (R _ _ _ el2 p2) (R _ _ _ el3 p3)
          obtain ⟨W11, hW11⟩ : ∃ x, W10.alloc (.cells #[.int .u16 eg.rc, .bool false, .slice B1 eg.an.length m1, .slice B2 eg.au.length m2, .slice B3 eg.ex.length m3] 28) = x := ⟨_, rfl⟩
          rw [hW11] at hX11 hY T11 hsame ⊢
          rw [hg10] at hY ⊢
          have hbw11 := below_trans hBw2 (by rw [hlo]; exact T11.b : Below W2.heap.size W2 W11)
          clear R o91 o92 o93 o101 o102 o103 p1 p2 p3 hl10 hh10 hzz
          have x0 := hX11.cell 0 _ rfl
          have x1 := hX11.cell 1 _ rfl
          have x2 := hX11.cell 2 _ rfl
          have x3 := hX11.cell 3 _ rfl
          have x4 := hX11.cell 4 _ rfl
          have y0 := hY.cell 0 _ rfl
          have y1 := hY.cell 1 _ rfl
          have y2 := hY.cell 2 _ rfl
          have y3 := hY.cell 3 _ rfl
          have y4 := hY.cell 4 _ rfl
          go_wp2_with (first | (go_at_call 17; refine hsame.mono ?_; clear hsame; rintro e W12 ⟨rfl, hb12⟩) | (go_at_call 13; refine (keeps_ _).mono ?_; rintro e W13 ⟨rfl, hb13⟩))
          go_ret
          exact ⟨rfl, below_trans hbw11 (below_trans hb12 hb13)⟩
end Go.Proofs.Ytioehogncgloiaa
