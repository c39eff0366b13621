/- PressPuts: the walk. -/
import Derived.Test.YtobfahafpmipfaaPBB
namespace Go.Proofs.Ytobfahafpmipfaa
open Go.RowKit Go.HL
set_option linter.unusedVariables false
set_option linter.unusedSimpArgs false
theorem addr_add0 (g m : Nat) : Addr.add ⟨g, 0, none⟩ m = ⟨g, m, none⟩ := by unfold Addr.add; split <;> simp_all
theorem bs_noughts (q : Nat) : bs (List.replicate q 0) = List.replicate q (Value.int .u8 0) := by
  unfold bs
  rw [List.map_replicate]
  rfl
set_option maxRecDepth 8000 in
set_option maxHeartbeats 8000000 in
theorem pressPuts_core (w : World) (A : Option Addr) (n c : Nat) (X : List It) (hX : Rd w 3 A n c (its X)) (hok : ∀ a ∈ X, a.ok) (hn : n ≤ 40) :
    Calls Try.prog 5 #[.slice A n c] w fun e w' => e = .returned (.bool true) ∧ Below w.heap.size w w' := by
  have hn' : ¬ (40 : Int) < (n : Int) := by omega
  have hXl : X.length = n := by have := hX.len; rw [its_len] at this; omega
  have HXR := Lib.hid hX
  have HXL := Lib.hid hXl
  obtain ⟨i0, hi, hz0, hz1, hz2⟩ := info_parts info_u8
  obtain ⟨q, hq⟩ : ∃ q : Nat, q = 300 := ⟨_, rfl⟩
  have hq4 : q ≤ 400 := by omega
  have HQ := Lib.hid hq
  clear hq
  have HMK := Lib.hid (show ∀ (W : World) (m : Nat), m ≤ 1000000 → (Instr.makeSlice 22 (.int .i64 (m : Int)) (.int .i64 ((m : Int) + 300))).run Try.prog W = .ok (.slice (some ⟨W.heap.size, 0, none⟩) m (m + q)) (W.alloc (.cells (madeCells #[.int .u8 0] (m + q)) 5)) by
    intro W m hm
    have hq := HQ.out
    have := run_make (P := Try.prog) W 22 5 i0 (.int .u8 0) Try.underlying22 hi hz0 .i64 .i64 (m : Int) ((m : Int) + 300) (by omega) (by omega) (by rw [hz2]; omega) (by omega)
    rw [hz1, Nat.mul_one] at this
    rw [this, show ((m : Int) + 300).toNat = m + q by omega]
    rfl)
  have HSZ := Lib.hid (show (Try.prog.info? 5).map (·.size) = some 1 by rw [hi]; simp [hz1])
  have HBLK := Lib.hid (show ∀ (W : World) (m : Nat), (W.alloc (.cells (madeCells #[.int .u8 0] (m + q)) 5)).heap[W.heap.size]? = some (.cells (List.replicate (m + q) (.int .u8 0)).toArray 5 (0, 0)) by
    intro W m
    rw [heap_alloc_new]
    congr 2
    apply Array.ext'
    rw [toList_madeCells_one])
  clear hX hXl hi hz0 hz1 hz2
  go_enter Try.func5, Try.ntmps5
  go_wp2_with (go_at_call 13; refine (new_ _).mono ?_; rintro e w2 ⟨rfl, hw2⟩; have HB2 : Hid (PkW w (w2.alloc (.cells #[.slice none 0 0, .slice none 0 0] 37)) (.slice none 0 0) (.slice none 0 0) [] []) := Lib.hid (hw2.symm.subst (motive := fun W => PkW w (W.alloc (.cells #[.slice none 0 0, .slice none 0 0] 37)) (.slice none 0 0) (.slice none 0 0) [] []) (PkW.new w)); have hz2 : w2.heap.size = w.heap.size + 2 := (by rw [hw2, World.size_alloc, World.size_alloc]); clear hw2)
  go_loopw [5, 6, 7] (fun va vb i wr => ∃ (k : Nat) (L : List UInt8) (tab : Tb), i = .int .i64 k ∧ k ≤ n ∧ L.length ≤ 9300 * k ∧ tab.length ≤ 255 * k ∧ PkW w wr va vb L tab) (fun _ _ i _ => n - (intOf i).toNat)
  case atStart => exact ⟨0, [], [], rfl, Nat.zero_le _, Nat.le_refl _, Nat.le_refl _, HB2.out⟩
  case round =>
    obtain ⟨k, L, tab, rfl, hk, hLk, htk, hB⟩ := hrel
    obtain ⟨Aa, ca, rfl, hra⟩ := own_rd hB.ra
    obtain ⟨Ab, cb, rfl, hrb⟩ := own_rd hB.rb
    have HB := Lib.hid hB
    clear hB hra hrb hz2
    by_cases hlt : k < n
    · have hi1 : (k : Int) < (n : Int) := by omega
      have hi0 : (0 : Int) ≤ (k : Int) := by omega
      obtain ⟨⟨sk, nm, pl⟩, hx⟩ : ∃ x, X[k]? = some x := ⟨_, List.getElem?_eq_getElem (by rw [HXL.out]; exact hlt)⟩
      have hnsz := (hok _ (List.mem_of_getElem? hx)).nm
      have hsk0 := (hok _ (List.mem_of_getElem? hx)).s0
      have hsk1 := (hok _ (List.mem_of_getElem? hx)).s1
      simp only at hnsz hsk0 hsk1
      cases A with
      | none => have := (HXR.out.nil_ rfl).1; omega
      | some ad =>
      have HC0 := Lib.hid (fun W (hbw : Below w.heap.size w W) => (Rd.it (HXR.out.below hbw) k _ hx 0 (by omega) (.int .i64 sk) rfl : W.cell? (ad.add (k * 3)) = some (.int .i64 sk)))
      have HC1 := Lib.hid (fun W (hbw : Below w.heap.size w W) => (Rd.it' (HXR.out.below hbw) k _ hx 0 (by omega) (.string nm) rfl : W.cell? { block := (ad.add (k * 3)).block, off := (ad.add (k * 3)).off + 1, spot := none } = some (.string nm)))
      have HC2 := Lib.hid (fun W (hbw : Below w.heap.size w W) => (Rd.it' (HXR.out.below hbw) k _ hx 1 (by omega) (.bool pl) rfl : W.cell? { block := (ad.add (k * 3)).block, off := (ad.add (k * 3)).off + 2, spot := none } = some (.bool pl)))
      have c0 : wr.cell? (ad.add (k * 3)) = some (.int .i64 sk) := HC0.out wr HB.out.bel
      obtain ⟨kk, hkk⟩ : ∃ kk, Int.tmod sk 9000 = kk := ⟨_, rfl⟩
      have hkk1 : kk < 9000 := by rw [← hkk]; exact Int.tmod_lt_of_pos _ (by omega)
      clear hx hsk0 hsk1
      by_cases hzz : 0 < kk
      · obtain ⟨z, rfl⟩ := Int.eq_ofNat_of_zero_le (show 0 ≤ kk by omega)
        obtain ⟨m, hm⟩ : ∃ m, L.length + z = m := ⟨_, rfl⟩
        have hm6 : m ≤ 1000000 := by omega
        have hm7 : m ≤ 9300 * k + 9000 := by omega
        have HMM := Lib.hid hm
        have hLX : (L ++ List.replicate z 0).length = m := by rw [List.length_append, List.length_replicate]; exact hm
        have hzb : 0 < z := by omega
        have hzc : L.length + z ≤ 1000000 := by omega
        have HLX := Lib.hid hLX
        clear hm hLX hkk1
        go_upto_region 14 with (first | (at_builtin; refine wpList_zeros wr (w.heap.size + 3) rfl (.tmp 35) (.tmp 36) rfl (.slice Aa L.length ca) L.length (bs L) rfl HB.out.ra z rfl hzb hzc HB.out.top ?_; intro va1 w1 oa1 ga1 fa1; have oa2 := oa1; rw [HMM.out] at oa2; obtain ⟨Aa1, ca1, rfl, _⟩ := own_rd oa2; have HOA := Lib.hid (And.intro oa1 (And.intro ga1 fa1)); have z1 := ga1.size; have z0 := HB.out.top; clear oa1 oa2 ga1 fa1) | (at_builtin; refine wpList_zeros w1 (w.heap.size + 3) rfl (.tmp 38) (.tmp 39) rfl (.slice Ab L.length cb) L.length (bs L) rfl (own_apart (base2 := 0) (m := 0) (s2 := 0) (e2 := 5) (ys := []) HB.out.rb HB.out.ap HOA.out.2.1) z rfl hzb hzc (by omega) ?_; intro vb1 w2 ob1 gb1 fb1; have ob2 := ob1; rw [HMM.out] at ob2; obtain ⟨Ab1, cb1, rfl, _⟩ := own_rd ob2; have HBX := Lib.hid (HB.out.zeros z HOA.out.1 HOA.out.2.1 HOA.out.2.2 ob1 gb1 fb1); have hmk2 := HMK.out w2 m hm6; clear ob1 ob2 gb1 fb1))
        go_wp2_with (refine wpList_copy_splice (w := w2.alloc (.cells (madeCells #[.int .u8 0] (m + q)) 5)) rfl (.tmp 47) (.tmp 48) 22 22 rfl 5 Try.underlying22 HSZ.out (some ⟨w2.heap.size, 0, none⟩) Aa1 m (m + q) m ca1 rfl rfl w2.heap.size 0 _ _ (HBLK.out w2 m) (bs (L ++ List.replicate z (0 : UInt8))) ?c1z ?c2z ?c3z (bs_one _) w2.heap.size w2 (below_new w2 _) (Nat.le_refl _) ?_)
        case c1z => rw [bs_length, HLX.out]; (try exact (Nat.min_self m).symm)
        case c2z =>
          intro hp
          have hrd : Rd w2 1 Aa1 m ca1 (bs (L ++ List.replicate z (0 : UInt8))) := rd_own (by have := HBX.out.ra; rwa [HLX.out] at this)
          cases hA : Aa1 with
          | none => rw [hA] at hrd; have := (hrd.nil_ rfl).1; rw [bs_length, HLX.out] at hp; omega
          | some aq => rw [hA] at hrd; first | exact ⟨rfl, aq, rfl, (hrd.alloc _).cells aq rfl⟩ | exact ⟨aq, rfl, (hrd.alloc _).cells aq rfl⟩
        case c3z => rw [bs_length, HLX.out]; (try simp)
        intro w3 hblk3 hb3
        have hroom3 : w3.heap[w2.heap.size]? = some (.cells (bs ((L ++ List.replicate z (0 : UInt8)) ++ List.replicate q 0)).toArray 5 (0, 0)) := by
          have h := hblk3.out
          rw [splice_head, bs_length, HLX.out] at h
          have e : bs (L ++ List.replicate z (0 : UInt8)) ++ (List.replicate (m + q) (Value.int .u8 0)).drop m = bs ((L ++ List.replicate z (0 : UInt8)) ++ List.replicate q 0) := by
            rw [bs_app (L ++ List.replicate z (0 : UInt8)), List.drop_replicate, show m + q - m = q by omega, bs_noughts]
          rw [e] at h
          exact h
        have HRM := Lib.hid hroom3
        have HB3 := Lib.hid (HBX.out.below hb3)
        have hgb : w.heap.size + 3 ≤ w2.heap.size := HBX.out.top
        have HRO := Lib.hid (fun j hj => room_own (base := w.heap.size + 3) HLX.out hgb (by omega) hroom3 j hj)
        clear hblk3 hroom3 hb3
        cases hnm : isNm nm with
        | false =>
          cases pl with
          | false =>
            have c1w := HC1.out w3 HB3.out.bel
            have c2w := HC2.out w3 HB3.out.bel
            obtain ⟨rvn, rvp, hT3⟩ := HB3.out.ref
            have HT3 := Lib.hid hT3
            clear hT3
            have hq0 : 0 < q := by have := HQ.out; omega
            have hcu : cutS (some (⟨w2.heap.size, 0, none⟩ : Addr)) m (m + q) 1 = some (Addr.add ⟨w2.heap.size, 0, none⟩ m) := by
              unfold cutS
              rw [if_neg (by omega), Nat.mul_one]; rfl
            have hsl := fun W => run_cut (P := Try.prog) Try.underlying22 (size := 1) HSZ.out (some (⟨w2.heap.size, 0, none⟩ : Addr)) m (m + q) .i64 .i64 (m : Int) ((m : Int) + (q : Int)) m q rfl rfl (Nat.le_refl _) W
            rw [hcu, show m + q - m = q by omega] at hsl
            clear hcu
            have HPUT := Lib.hid (put_two w3 _ _ _ _ (two_none (row_bad w3 ⟨w.heap.size + 1, 0, none⟩ (some ⟨w2.heap.size, 0, none⟩) m (m + q) nm false (by omega) hnm)))
            have HRPUT := Lib.hid (fun w4 => rput_two w4 _ _ _ _ (rput_bad w4 ⟨w.heap.size + 2, 0, none⟩ Ab1 m cb1 nm false (by omega) hnm))
            go_wp2_with (first | (go_at_call 16; refine HPUT.out.mono ?_; clear HPUT; rintro e w4 ⟨x1, b1, rfl, rfl, rfl, hb4⟩; have HB4 := Lib.hid (HB3.out.below hb4); have c1y := HC1.out w4 HB4.out.bel; have c2y := HC2.out w4 HB4.out.bel) | (go_at_call 17; refine (HRPUT.out _).mono ?_; clear HRPUT; rintro e w5 ⟨y1, b2, rfl, rfl, rfl, hb5⟩; have HB5 := Lib.hid (HB4.out.below hb5); have ha5 := HB5.out.ra; rw [HLX.out] at ha5; have hm5 := own_below (own_below (HRO.out m (by omega)) hb4) hb5; have hf5 := own_below (own_below (HRO.out (m + q) (by omega)) hb4) hb5; rw [List.take_left' HLX.out] at hm5; rw [List.take_of_length_le (by rw [List.length_append, HLX.out, List.length_replicate]; exact Nat.le_refl _)] at hf5; have hcx := run_conv_str (P := Try.prog) (dst := 9) (l := []) w5 Try.underlying22 Try.underlying5 Try.underlying9 (Rd.nil w5 1); obtain ⟨sL, hsL⟩ : ∃ s, str (L ++ List.replicate z (0 : UInt8)) = s := ⟨_, rfl⟩; have hcr := run_conv_str (P := Try.prog) (dst := 9) w5 Try.underlying22 Try.underlying5 Try.underlying9 (rd_own hm5); have hca := run_conv_str (P := Try.prog) (dst := 9) w5 Try.underlying22 Try.underlying5 Try.underlying9 (rd_own ha5); rw [hsL] at hcr hca; clear hsL; have hsp := (rd_own hf5).bcut m (m + q) (by omega) (Nat.le_refl _); rw [List.drop_left' HLX.out, show m + q - m = q by omega, List.take_of_length_le (by rw [List.length_replicate]; exact Nat.le_refl _)] at hsp; have HSP := Lib.hid (show Rd w5 1 (some (Addr.add ⟨w2.heap.size, 0, none⟩ m)) q q (bs (List.replicate q 0)) from hsp); clear hsp; clear hb4 hb5 ha5 hm5 hf5) | (go_at_call 18; refine (bare_ w5 _ q q (by first | exact HSP.out | (have hq := HSP.out; rw [addr_add0] at hq; exact hq)) (by omega)).mono ?_; rintro e w6 ⟨rfl, rfl⟩))
            go_roundw
            case rel => exact ⟨k + 1, _, _, by go_num, by omega, by have := HLX.out; omega, by omega, HB5.out⟩
            case measure => simp [intOf]; omega
          | true =>
            have c1w := HC1.out w3 HB3.out.bel
            have c2w := HC2.out w3 HB3.out.bel
            obtain ⟨rvn, rvp, hT3⟩ := HB3.out.ref
            have HT3 := Lib.hid hT3
            clear hT3
            have hq0 : 0 < q := by have := HQ.out; omega
            have hcu : cutS (some (⟨w2.heap.size, 0, none⟩ : Addr)) m (m + q) 1 = some (Addr.add ⟨w2.heap.size, 0, none⟩ m) := by
              unfold cutS
              rw [if_neg (by omega), Nat.mul_one]; rfl
            have hsl := fun W => run_cut (P := Try.prog) Try.underlying22 (size := 1) HSZ.out (some (⟨w2.heap.size, 0, none⟩ : Addr)) m (m + q) .i64 .i64 (m : Int) ((m : Int) + (q : Int)) m q rfl rfl (Nat.le_refl _) W
            rw [hcu, show m + q - m = q by omega] at hsl
            clear hcu
            have HPUT := Lib.hid (plain_two w3 _ _ _ _ (two_none (row_bad w3 ⟨w.heap.size + 1, 0, none⟩ (some ⟨w2.heap.size, 0, none⟩) m (m + q) nm true (by omega) hnm)))
            have HRPUT := Lib.hid (fun w4 => rplain_two w4 _ _ _ _ (rput_bad w4 ⟨w.heap.size + 2, 0, none⟩ Ab1 m cb1 nm true (by omega) hnm))
            go_wp2_with (first | (go_at_call 14; refine HPUT.out.mono ?_; clear HPUT; rintro e w4 ⟨x1, b1, rfl, rfl, rfl, hb4⟩; have HB4 := Lib.hid (HB3.out.below hb4); have c1y := HC1.out w4 HB4.out.bel; have c2y := HC2.out w4 HB4.out.bel) | (go_at_call 15; refine (HRPUT.out _).mono ?_; clear HRPUT; rintro e w5 ⟨y1, b2, rfl, rfl, rfl, hb5⟩; have HB5 := Lib.hid (HB4.out.below hb5); have ha5 := HB5.out.ra; rw [HLX.out] at ha5; have hm5 := own_below (own_below (HRO.out m (by omega)) hb4) hb5; have hf5 := own_below (own_below (HRO.out (m + q) (by omega)) hb4) hb5; rw [List.take_left' HLX.out] at hm5; rw [List.take_of_length_le (by rw [List.length_append, HLX.out, List.length_replicate]; exact Nat.le_refl _)] at hf5; have hcx := run_conv_str (P := Try.prog) (dst := 9) (l := []) w5 Try.underlying22 Try.underlying5 Try.underlying9 (Rd.nil w5 1); obtain ⟨sL, hsL⟩ : ∃ s, str (L ++ List.replicate z (0 : UInt8)) = s := ⟨_, rfl⟩; have hcr := run_conv_str (P := Try.prog) (dst := 9) w5 Try.underlying22 Try.underlying5 Try.underlying9 (rd_own hm5); have hca := run_conv_str (P := Try.prog) (dst := 9) w5 Try.underlying22 Try.underlying5 Try.underlying9 (rd_own ha5); rw [hsL] at hcr hca; clear hsL; have hsp := (rd_own hf5).bcut m (m + q) (by omega) (Nat.le_refl _); rw [List.drop_left' HLX.out, show m + q - m = q by omega, List.take_of_length_le (by rw [List.length_replicate]; exact Nat.le_refl _)] at hsp; have HSP := Lib.hid (show Rd w5 1 (some (Addr.add ⟨w2.heap.size, 0, none⟩ m)) q q (bs (List.replicate q 0)) from hsp); clear hsp; clear hb4 hb5 ha5 hm5 hf5) | (go_at_call 18; refine (bare_ w5 _ q q (by first | exact HSP.out | (have hq := HSP.out; rw [addr_add0] at hq; exact hq)) (by omega)).mono ?_; rintro e w6 ⟨rfl, rfl⟩))
            go_roundw
            case rel => exact ⟨k + 1, _, _, by go_num, by omega, by have := HLX.out; omega, by omega, HB5.out⟩
            case measure => simp [intOf]; omega
        | true =>
          obtain ⟨ls, hls, hok1, h255, _⟩ := isNm_true hnm
          have HLS := Lib.hid hls
          clear hnm hls
          cases pl with
          | false =>
            have c1w := HC1.out w3 HB3.out.bel
            have c2w := HC2.out w3 HB3.out.bel
            obtain ⟨rvn, rvp, hT3⟩ := HB3.out.ref
            have HT3 := Lib.hid hT3
            clear hT3
            have hq0 : 0 < q := by have := HQ.out; omega
            have hcu : cutS (some (⟨w2.heap.size, 0, none⟩ : Addr)) m (m + q) 1 = some (Addr.add ⟨w2.heap.size, 0, none⟩ m) := by
              unfold cutS
              rw [if_neg (by omega), Nat.mul_one]; rfl
            have hsl := fun W => run_cut (P := Try.prog) Try.underlying22 (size := 1) HSZ.out (some (⟨w2.heap.size, 0, none⟩ : Addr)) m (m + q) .i64 .i64 (m : Int) ((m : Int) + (q : Int)) m q rfl rfl (Nat.le_refl _) W
            rw [hcu, show m + q - m = q by omega] at hsl
            clear hcu
            have HPUT := Lib.hid (show Calls Try.prog 16 #[.pointer (some ⟨w.heap.size + 1, 0, none⟩), .slice (some ⟨w2.heap.size, 0, none⟩) m (m + q), .string nm] w3 (Two (SomeB w3 w.heap.size false (L ++ List.replicate z (0 : UInt8)) ls tab)) by
              have hr3 := rd_own (HRO.out m (by omega))
              rw [List.take_left' HLX.out] at hr3
              have := put_two w3 _ _ _ _ (two_some (row_ok w3 _ _ HB3.out.made.cell HB3.out.made.ne tab HB3.out.made.tbl _ m _ (L ++ List.replicate z (0 : UInt8)) hr3 (by omega) ls hok1 h255 (by omega) false))
              rwa [← HLS.out] at this)
            have HRPUT := Lib.hid (show ∀ w4, w3.grownBy w4 (some w.heap.size) → Calls Try.prog 17 #[.pointer (some ⟨w.heap.size + 2, 0, none⟩), .slice Ab1 m cb1, .string nm] w4 (Two (RefR w4 (w.heap.size + 2) false (L ++ List.replicate z (0 : UInt8)) ls tab)) by
              intro w4 hg
              have hr4 := rd_own (own_kept_low HB3.out.rb (by omega) hg)
              obtain ⟨D, nn, _, _, _, hbd⟩ := HB3.out.made.tbl
              have := rput_two w4 _ _ _ _ (rput_ok w4 _ rvn rvp tab (HT3.out.low hg (by omega)) (by omega) hbd _ m _ (L ++ List.replicate z (0 : UInt8)) hr4 (by omega) ls hok1 h255 false)
              rwa [← HLS.out] at this)
            have hes := (en_size false ls tab ((L ++ List.replicate z (0 : UInt8))).length).2.1
            have hel := en_len false ls tab ((L ++ List.replicate z (0 : UInt8))).length
            have hgc := gl_count ls
            obtain ⟨me, hme⟩ : ∃ me, ((L ++ List.replicate z (0 : UInt8))).length + (en false tab ls ((L ++ List.replicate z (0 : UInt8))).length).1.length = me := ⟨_, rfl⟩
            have HME := Lib.hid hme
            have HLE := Lib.hid (show ((L ++ List.replicate z (0 : UInt8)) ++ (en false tab ls ((L ++ List.replicate z (0 : UInt8))).length).1).length ≤ 9300 * (k + 1) by have := HLX.out; rw [List.length_append]; omega)
            have HTE := Lib.hid (show (en false tab ls ((L ++ List.replicate z (0 : UInt8))).length).2.length ≤ 255 * (k + 1) by omega)
            clear hme hes hel hgc
            go_wp2_with (first | (go_at_call 16; refine HPUT.out.mono ?_; clear HPUT; rintro e w4 ⟨x1, b1, rfl, hs4⟩; have e4 : b1 = .int .i64 0 := hs4.1; subst e4; have o4 := hs4.2.1; rw [HME.out] at o4; obtain ⟨Ax, cx, rfl, _⟩ := own_rd o4; have HS4 := Lib.hid hs4; have hbel4 : Below w.heap.size w w4 := HB3.out.bel.grown hs4.2.2.2 HB3.out.bel.size (fun q hq => by cases hq; exact Nat.le_refl _); have c1y := HC1.out w4 hbel4; have c2y := HC2.out w4 hbel4; clear hs4 o4 hbel4) | (go_at_call 17; refine (HRPUT.out _ HS4.out.2.2.2).mono ?_; clear HRPUT; rintro e w5 ⟨y1, b2, rfl, hr5⟩; have hp5 := HB3.out.puts HS4.out hr5; have e5 : b2 = .int .i64 0 := hp5.2.1; subst e5; have o5 := hp5.2.2.1.rb; rw [List.length_append, HME.out] at o5; obtain ⟨Ay, cy, rfl, hry⟩ := own_rd o5; have o6 := hp5.2.2.1.ra; rw [List.length_append, HME.out] at o6; have hrx := rd_own o6; have HP5 := Lib.hid hp5.2.2.1; have ha5 := hp5.2.2.2 (by omega) HB3.out.ra; rw [HLX.out] at ha5; have hm5 := hp5.2.2.2 (by omega) (HRO.out m (by omega)); have hf5 := hp5.2.2.2 (by omega) (HRO.out (m + q) (by omega)); rw [List.take_left' HLX.out] at hm5; rw [List.take_of_length_le (by rw [List.length_append, HLX.out, List.length_replicate]; exact Nat.le_refl _)] at hf5; obtain ⟨sE, hsE⟩ : ∃ s, str ((L ++ List.replicate z (0 : UInt8)) ++ (en false tab ls ((L ++ List.replicate z (0 : UInt8))).length).1) = s := ⟨_, rfl⟩; have hcx := run_conv_str (P := Try.prog) (dst := 9) w5 Try.underlying22 Try.underlying5 Try.underlying9 hrx; have hcy := run_conv_str (P := Try.prog) (dst := 9) w5 Try.underlying22 Try.underlying5 Try.underlying9 hry; rw [hsE] at hcx hcy; clear hsE; obtain ⟨sL, hsL⟩ : ∃ s, str (L ++ List.replicate z (0 : UInt8)) = s := ⟨_, rfl⟩; have hcr := run_conv_str (P := Try.prog) (dst := 9) w5 Try.underlying22 Try.underlying5 Try.underlying9 (rd_own hm5); have hca := run_conv_str (P := Try.prog) (dst := 9) w5 Try.underlying22 Try.underlying5 Try.underlying9 (rd_own ha5); rw [hsL] at hcr hca; clear hsL; have hsp := (rd_own hf5).bcut m (m + q) (by omega) (Nat.le_refl _); rw [List.drop_left' HLX.out, show m + q - m = q by omega, List.take_of_length_le (by rw [List.length_replicate]; exact Nat.le_refl _)] at hsp; have HSP := Lib.hid (show Rd w5 1 (some (Addr.add ⟨w2.heap.size, 0, none⟩ m)) q q (bs (List.replicate q 0)) from hsp); clear hsp; clear hr5 hp5 o5 o6 hrx hry ha5 hm5 hf5) | (go_at_call 18; refine (bare_ w5 _ q q (by first | exact HSP.out | (have hq := HSP.out; rw [addr_add0] at hq; exact hq)) (by omega)).mono ?_; rintro e w6 ⟨rfl, rfl⟩))
            go_roundw
            case rel => exact ⟨k + 1, _, _, by go_num, by omega, HLE.out, HTE.out, HP5.out⟩
            case measure => simp [intOf]; omega
          | true =>
            have c1w := HC1.out w3 HB3.out.bel
            have c2w := HC2.out w3 HB3.out.bel
            obtain ⟨rvn, rvp, hT3⟩ := HB3.out.ref
            have HT3 := Lib.hid hT3
            clear hT3
            have hq0 : 0 < q := by have := HQ.out; omega
            have hcu : cutS (some (⟨w2.heap.size, 0, none⟩ : Addr)) m (m + q) 1 = some (Addr.add ⟨w2.heap.size, 0, none⟩ m) := by
              unfold cutS
              rw [if_neg (by omega), Nat.mul_one]; rfl
            have hsl := fun W => run_cut (P := Try.prog) Try.underlying22 (size := 1) HSZ.out (some (⟨w2.heap.size, 0, none⟩ : Addr)) m (m + q) .i64 .i64 (m : Int) ((m : Int) + (q : Int)) m q rfl rfl (Nat.le_refl _) W
            rw [hcu, show m + q - m = q by omega] at hsl
            clear hcu
            have HPUT := Lib.hid (show Calls Try.prog 14 #[.pointer (some ⟨w.heap.size + 1, 0, none⟩), .slice (some ⟨w2.heap.size, 0, none⟩) m (m + q), .string nm] w3 (Two (SomeB w3 w.heap.size true (L ++ List.replicate z (0 : UInt8)) ls tab)) by
              have hr3 := rd_own (HRO.out m (by omega))
              rw [List.take_left' HLX.out] at hr3
              have := plain_two w3 _ _ _ _ (two_some (row_ok w3 _ _ HB3.out.made.cell HB3.out.made.ne tab HB3.out.made.tbl _ m _ (L ++ List.replicate z (0 : UInt8)) hr3 (by omega) ls hok1 h255 (by omega) true))
              rwa [← HLS.out] at this)
            have HRPUT := Lib.hid (show ∀ w4, w3.grownBy w4 (some w.heap.size) → Calls Try.prog 15 #[.pointer (some ⟨w.heap.size + 2, 0, none⟩), .slice Ab1 m cb1, .string nm] w4 (Two (RefR w4 (w.heap.size + 2) true (L ++ List.replicate z (0 : UInt8)) ls tab)) by
              intro w4 hg
              have hr4 := rd_own (own_kept_low HB3.out.rb (by omega) hg)
              obtain ⟨D, nn, _, _, _, hbd⟩ := HB3.out.made.tbl
              have := rplain_two w4 _ _ _ _ (rput_ok w4 _ rvn rvp tab (HT3.out.low hg (by omega)) (by omega) hbd _ m _ (L ++ List.replicate z (0 : UInt8)) hr4 (by omega) ls hok1 h255 true)
              rwa [← HLS.out] at this)
            have hes := (en_size true ls tab ((L ++ List.replicate z (0 : UInt8))).length).2.1
            have hel := en_len true ls tab ((L ++ List.replicate z (0 : UInt8))).length
            have hgc := gl_count ls
            obtain ⟨me, hme⟩ : ∃ me, ((L ++ List.replicate z (0 : UInt8))).length + (en true tab ls ((L ++ List.replicate z (0 : UInt8))).length).1.length = me := ⟨_, rfl⟩
            have HME := Lib.hid hme
            have HLE := Lib.hid (show ((L ++ List.replicate z (0 : UInt8)) ++ (en true tab ls ((L ++ List.replicate z (0 : UInt8))).length).1).length ≤ 9300 * (k + 1) by have := HLX.out; rw [List.length_append]; omega)
            have HTE := Lib.hid (show (en true tab ls ((L ++ List.replicate z (0 : UInt8))).length).2.length ≤ 255 * (k + 1) by omega)
            clear hme hes hel hgc
            go_wp2_with (first | (go_at_call 14; refine HPUT.out.mono ?_; clear HPUT; rintro e w4 ⟨x1, b1, rfl, hs4⟩; have e4 : b1 = .int .i64 0 := hs4.1; subst e4; have o4 := hs4.2.1; rw [HME.out] at o4; obtain ⟨Ax, cx, rfl, _⟩ := own_rd o4; have HS4 := Lib.hid hs4; have hbel4 : Below w.heap.size w w4 := HB3.out.bel.grown hs4.2.2.2 HB3.out.bel.size (fun q hq => by cases hq; exact Nat.le_refl _); have c1y := HC1.out w4 hbel4; have c2y := HC2.out w4 hbel4; clear hs4 o4 hbel4) | (go_at_call 15; refine (HRPUT.out _ HS4.out.2.2.2).mono ?_; clear HRPUT; rintro e w5 ⟨y1, b2, rfl, hr5⟩; have hp5 := HB3.out.puts HS4.out hr5; have e5 : b2 = .int .i64 0 := hp5.2.1; subst e5; have o5 := hp5.2.2.1.rb; rw [List.length_append, HME.out] at o5; obtain ⟨Ay, cy, rfl, hry⟩ := own_rd o5; have o6 := hp5.2.2.1.ra; rw [List.length_append, HME.out] at o6; have hrx := rd_own o6; have HP5 := Lib.hid hp5.2.2.1; have ha5 := hp5.2.2.2 (by omega) HB3.out.ra; rw [HLX.out] at ha5; have hm5 := hp5.2.2.2 (by omega) (HRO.out m (by omega)); have hf5 := hp5.2.2.2 (by omega) (HRO.out (m + q) (by omega)); rw [List.take_left' HLX.out] at hm5; rw [List.take_of_length_le (by rw [List.length_append, HLX.out, List.length_replicate]; exact Nat.le_refl _)] at hf5; obtain ⟨sE, hsE⟩ : ∃ s, str ((L ++ List.replicate z (0 : UInt8)) ++ (en true tab ls ((L ++ List.replicate z (0 : UInt8))).length).1) = s := ⟨_, rfl⟩; have hcx := run_conv_str (P := Try.prog) (dst := 9) w5 Try.underlying22 Try.underlying5 Try.underlying9 hrx; have hcy := run_conv_str (P := Try.prog) (dst := 9) w5 Try.underlying22 Try.underlying5 Try.underlying9 hry; rw [hsE] at hcx hcy; clear hsE; obtain ⟨sL, hsL⟩ : ∃ s, str (L ++ List.replicate z (0 : UInt8)) = s := ⟨_, rfl⟩; have hcr := run_conv_str (P := Try.prog) (dst := 9) w5 Try.underlying22 Try.underlying5 Try.underlying9 (rd_own hm5); have hca := run_conv_str (P := Try.prog) (dst := 9) w5 Try.underlying22 Try.underlying5 Try.underlying9 (rd_own ha5); rw [hsL] at hcr hca; clear hsL; have hsp := (rd_own hf5).bcut m (m + q) (by omega) (Nat.le_refl _); rw [List.drop_left' HLX.out, show m + q - m = q by omega, List.take_of_length_le (by rw [List.length_replicate]; exact Nat.le_refl _)] at hsp; have HSP := Lib.hid (show Rd w5 1 (some (Addr.add ⟨w2.heap.size, 0, none⟩ m)) q q (bs (List.replicate q 0)) from hsp); clear hsp; clear hr5 hp5 o5 o6 hrx hry ha5 hm5 hf5) | (go_at_call 18; refine (bare_ w5 _ q q (by first | exact HSP.out | (have hq := HSP.out; rw [addr_add0] at hq; exact hq)) (by omega)).mono ?_; rintro e w6 ⟨rfl, rfl⟩))
            go_roundw
            case rel => exact ⟨k + 1, _, _, by go_num, by omega, HLE.out, HTE.out, HP5.out⟩
            case measure => simp [intOf]; omega
      · obtain ⟨m, hm⟩ : ∃ m, L.length = m := ⟨_, rfl⟩
        have hm6 : m ≤ 1000000 := by omega
        have hm7 : m ≤ 9300 * k + 9000 := by omega
        have HLX := Lib.hid hm
        have hmk2 := HMK.out wr m hm6
        rw [hm] at HB ⊢
        clear hm hkk1
        go_upto_region 14 with (fail)
        go_wp2_with (refine wpList_copy_splice (w := wr.alloc (.cells (madeCells #[.int .u8 0] (m + q)) 5)) rfl (.tmp 47) (.tmp 48) 22 22 rfl 5 Try.underlying22 HSZ.out (some ⟨wr.heap.size, 0, none⟩) Aa m (m + q) m ca rfl rfl wr.heap.size 0 _ _ (HBLK.out wr m) (bs L) ?c1n ?c2n ?c3n (bs_one _) wr.heap.size wr (below_new wr _) (Nat.le_refl _) ?_)
        case c1n => rw [bs_length, HLX.out]; (try exact (Nat.min_self m).symm)
        case c2n =>
          intro hp
          have hrd : Rd wr 1 Aa m ca (bs L) := rd_own (by have := HB.out.ra; rwa [HLX.out] at this)
          cases hA : Aa with
          | none => rw [hA] at hrd; have := (hrd.nil_ rfl).1; rw [bs_length, HLX.out] at hp; omega
          | some aq => rw [hA] at hrd; first | exact ⟨rfl, aq, rfl, (hrd.alloc _).cells aq rfl⟩ | exact ⟨aq, rfl, (hrd.alloc _).cells aq rfl⟩
        case c3n => rw [bs_length, HLX.out]; (try simp)
        intro w3 hblk3 hb3
        have hroom3 : w3.heap[wr.heap.size]? = some (.cells (bs (L ++ List.replicate q 0)).toArray 5 (0, 0)) := by
          have h := hblk3.out
          rw [splice_head, bs_length, HLX.out] at h
          have e : bs L ++ (List.replicate (m + q) (Value.int .u8 0)).drop m = bs (L ++ List.replicate q 0) := by
            rw [bs_app L, List.drop_replicate, show m + q - m = q by omega, bs_noughts]
          rw [e] at h
          exact h
        have HRM := Lib.hid hroom3
        have HB3 := Lib.hid (HB.out.below hb3)
        have hgb : w.heap.size + 3 ≤ wr.heap.size := HB.out.top
        have HRO := Lib.hid (fun j hj => room_own (base := w.heap.size + 3) HLX.out hgb (by omega) hroom3 j hj)
        clear hblk3 hroom3 hb3
        cases hnm : isNm nm with
        | false =>
          cases pl with
          | false =>
            have c1w := HC1.out w3 HB3.out.bel
            have c2w := HC2.out w3 HB3.out.bel
            obtain ⟨rvn, rvp, hT3⟩ := HB3.out.ref
            have HT3 := Lib.hid hT3
            clear hT3
            have hq0 : 0 < q := by have := HQ.out; omega
            have hcu : cutS (some (⟨wr.heap.size, 0, none⟩ : Addr)) m (m + q) 1 = some (Addr.add ⟨wr.heap.size, 0, none⟩ m) := by
              unfold cutS
              rw [if_neg (by omega), Nat.mul_one]; rfl
            have hsl := fun W => run_cut (P := Try.prog) Try.underlying22 (size := 1) HSZ.out (some (⟨wr.heap.size, 0, none⟩ : Addr)) m (m + q) .i64 .i64 (m : Int) ((m : Int) + (q : Int)) m q rfl rfl (Nat.le_refl _) W
            rw [hcu, show m + q - m = q by omega] at hsl
            clear hcu
            have HPUT := Lib.hid (put_two w3 _ _ _ _ (two_none (row_bad w3 ⟨w.heap.size + 1, 0, none⟩ (some ⟨wr.heap.size, 0, none⟩) m (m + q) nm false (by omega) hnm)))
            have HRPUT := Lib.hid (fun w4 => rput_two w4 _ _ _ _ (rput_bad w4 ⟨w.heap.size + 2, 0, none⟩ Ab m cb nm false (by omega) hnm))
            go_wp2_with (first | (go_at_call 16; refine HPUT.out.mono ?_; clear HPUT; rintro e w4 ⟨x1, b1, rfl, rfl, rfl, hb4⟩; have HB4 := Lib.hid (HB3.out.below hb4); have c1y := HC1.out w4 HB4.out.bel; have c2y := HC2.out w4 HB4.out.bel) | (go_at_call 17; refine (HRPUT.out _).mono ?_; clear HRPUT; rintro e w5 ⟨y1, b2, rfl, rfl, rfl, hb5⟩; have HB5 := Lib.hid (HB4.out.below hb5); have ha5 := HB5.out.ra; rw [HLX.out] at ha5; have hm5 := own_below (own_below (HRO.out m (by omega)) hb4) hb5; have hf5 := own_below (own_below (HRO.out (m + q) (by omega)) hb4) hb5; rw [List.take_left' HLX.out] at hm5; rw [List.take_of_length_le (by rw [List.length_append, HLX.out, List.length_replicate]; exact Nat.le_refl _)] at hf5; have hcx := run_conv_str (P := Try.prog) (dst := 9) (l := []) w5 Try.underlying22 Try.underlying5 Try.underlying9 (Rd.nil w5 1); obtain ⟨sL, hsL⟩ : ∃ s, str L = s := ⟨_, rfl⟩; have hcr := run_conv_str (P := Try.prog) (dst := 9) w5 Try.underlying22 Try.underlying5 Try.underlying9 (rd_own hm5); have hca := run_conv_str (P := Try.prog) (dst := 9) w5 Try.underlying22 Try.underlying5 Try.underlying9 (rd_own ha5); rw [hsL] at hcr hca; clear hsL; have hsp := (rd_own hf5).bcut m (m + q) (by omega) (Nat.le_refl _); rw [List.drop_left' HLX.out, show m + q - m = q by omega, List.take_of_length_le (by rw [List.length_replicate]; exact Nat.le_refl _)] at hsp; have HSP := Lib.hid (show Rd w5 1 (some (Addr.add ⟨wr.heap.size, 0, none⟩ m)) q q (bs (List.replicate q 0)) from hsp); clear hsp; clear hb4 hb5 ha5 hm5 hf5) | (go_at_call 18; refine (bare_ w5 _ q q (by first | exact HSP.out | (have hq := HSP.out; rw [addr_add0] at hq; exact hq)) (by omega)).mono ?_; rintro e w6 ⟨rfl, rfl⟩))
            go_roundw
            case rel => exact ⟨k + 1, _, _, by go_num, by omega, by have := HLX.out; omega, by omega, HB5.out⟩
            case measure => simp [intOf]; omega
          | true =>
            have c1w := HC1.out w3 HB3.out.bel
            have c2w := HC2.out w3 HB3.out.bel
            obtain ⟨rvn, rvp, hT3⟩ := HB3.out.ref
            have HT3 := Lib.hid hT3
            clear hT3
            have hq0 : 0 < q := by have := HQ.out; omega
            have hcu : cutS (some (⟨wr.heap.size, 0, none⟩ : Addr)) m (m + q) 1 = some (Addr.add ⟨wr.heap.size, 0, none⟩ m) := by
              unfold cutS
              rw [if_neg (by omega), Nat.mul_one]; rfl
            have hsl := fun W => run_cut (P := Try.prog) Try.underlying22 (size := 1) HSZ.out (some (⟨wr.heap.size, 0, none⟩ : Addr)) m (m + q) .i64 .i64 (m : Int) ((m : Int) + (q : Int)) m q rfl rfl (Nat.le_refl _) W
            rw [hcu, show m + q - m = q by omega] at hsl
            clear hcu
            have HPUT := Lib.hid (plain_two w3 _ _ _ _ (two_none (row_bad w3 ⟨w.heap.size + 1, 0, none⟩ (some ⟨wr.heap.size, 0, none⟩) m (m + q) nm true (by omega) hnm)))
            have HRPUT := Lib.hid (fun w4 => rplain_two w4 _ _ _ _ (rput_bad w4 ⟨w.heap.size + 2, 0, none⟩ Ab m cb nm true (by omega) hnm))
            go_wp2_with (first | (go_at_call 14; refine HPUT.out.mono ?_; clear HPUT; rintro e w4 ⟨x1, b1, rfl, rfl, rfl, hb4⟩; have HB4 := Lib.hid (HB3.out.below hb4); have c1y := HC1.out w4 HB4.out.bel; have c2y := HC2.out w4 HB4.out.bel) | (go_at_call 15; refine (HRPUT.out _).mono ?_; clear HRPUT; rintro e w5 ⟨y1, b2, rfl, rfl, rfl, hb5⟩; have HB5 := Lib.hid (HB4.out.below hb5); have ha5 := HB5.out.ra; rw [HLX.out] at ha5; have hm5 := own_below (own_below (HRO.out m (by omega)) hb4) hb5; have hf5 := own_below (own_below (HRO.out (m + q) (by omega)) hb4) hb5; rw [List.take_left' HLX.out] at hm5; rw [List.take_of_length_le (by rw [List.length_append, HLX.out, List.length_replicate]; exact Nat.le_refl _)] at hf5; have hcx := run_conv_str (P := Try.prog) (dst := 9) (l := []) w5 Try.underlying22 Try.underlying5 Try.underlying9 (Rd.nil w5 1); obtain ⟨sL, hsL⟩ : ∃ s, str L = s := ⟨_, rfl⟩; have hcr := run_conv_str (P := Try.prog) (dst := 9) w5 Try.underlying22 Try.underlying5 Try.underlying9 (rd_own hm5); have hca := run_conv_str (P := Try.prog) (dst := 9) w5 Try.underlying22 Try.underlying5 Try.underlying9 (rd_own ha5); rw [hsL] at hcr hca; clear hsL; have hsp := (rd_own hf5).bcut m (m + q) (by omega) (Nat.le_refl _); rw [List.drop_left' HLX.out, show m + q - m = q by omega, List.take_of_length_le (by rw [List.length_replicate]; exact Nat.le_refl _)] at hsp; have HSP := Lib.hid (show Rd w5 1 (some (Addr.add ⟨wr.heap.size, 0, none⟩ m)) q q (bs (List.replicate q 0)) from hsp); clear hsp; clear hb4 hb5 ha5 hm5 hf5) | (go_at_call 18; refine (bare_ w5 _ q q (by first | exact HSP.out | (have hq := HSP.out; rw [addr_add0] at hq; exact hq)) (by omega)).mono ?_; rintro e w6 ⟨rfl, rfl⟩))
            go_roundw
            case rel => exact ⟨k + 1, _, _, by go_num, by omega, by have := HLX.out; omega, by omega, HB5.out⟩
            case measure => simp [intOf]; omega
        | true =>
          obtain ⟨ls, hls, hok1, h255, _⟩ := isNm_true hnm
          have HLS := Lib.hid hls
          clear hnm hls
          cases pl with
          | false =>
            have c1w := HC1.out w3 HB3.out.bel
            have c2w := HC2.out w3 HB3.out.bel
            obtain ⟨rvn, rvp, hT3⟩ := HB3.out.ref
            have HT3 := Lib.hid hT3
            clear hT3
            have hq0 : 0 < q := by have := HQ.out; omega
            have hcu : cutS (some (⟨wr.heap.size, 0, none⟩ : Addr)) m (m + q) 1 = some (Addr.add ⟨wr.heap.size, 0, none⟩ m) := by
              unfold cutS
              rw [if_neg (by omega), Nat.mul_one]; rfl
            have hsl := fun W => run_cut (P := Try.prog) Try.underlying22 (size := 1) HSZ.out (some (⟨wr.heap.size, 0, none⟩ : Addr)) m (m + q) .i64 .i64 (m : Int) ((m : Int) + (q : Int)) m q rfl rfl (Nat.le_refl _) W
            rw [hcu, show m + q - m = q by omega] at hsl
            clear hcu
            have HPUT := Lib.hid (show Calls Try.prog 16 #[.pointer (some ⟨w.heap.size + 1, 0, none⟩), .slice (some ⟨wr.heap.size, 0, none⟩) m (m + q), .string nm] w3 (Two (SomeB w3 w.heap.size false L ls tab)) by
              have hr3 := rd_own (HRO.out m (by omega))
              rw [List.take_left' HLX.out] at hr3
              have := put_two w3 _ _ _ _ (two_some (row_ok w3 _ _ HB3.out.made.cell HB3.out.made.ne tab HB3.out.made.tbl _ m _ L hr3 (by omega) ls hok1 h255 (by omega) false))
              rwa [← HLS.out] at this)
            have HRPUT := Lib.hid (show ∀ w4, w3.grownBy w4 (some w.heap.size) → Calls Try.prog 17 #[.pointer (some ⟨w.heap.size + 2, 0, none⟩), .slice Ab m cb, .string nm] w4 (Two (RefR w4 (w.heap.size + 2) false L ls tab)) by
              intro w4 hg
              have hr4 := rd_own (own_kept_low HB3.out.rb (by omega) hg)
              obtain ⟨D, nn, _, _, _, hbd⟩ := HB3.out.made.tbl
              have := rput_two w4 _ _ _ _ (rput_ok w4 _ rvn rvp tab (HT3.out.low hg (by omega)) (by omega) hbd _ m _ L hr4 (by omega) ls hok1 h255 false)
              rwa [← HLS.out] at this)
            have hes := (en_size false ls tab (L).length).2.1
            have hel := en_len false ls tab (L).length
            have hgc := gl_count ls
            obtain ⟨me, hme⟩ : ∃ me, (L).length + (en false tab ls (L).length).1.length = me := ⟨_, rfl⟩
            have HME := Lib.hid hme
            have HLE := Lib.hid (show (L ++ (en false tab ls (L).length).1).length ≤ 9300 * (k + 1) by have := HLX.out; rw [List.length_append]; omega)
            have HTE := Lib.hid (show (en false tab ls (L).length).2.length ≤ 255 * (k + 1) by omega)
            clear hme hes hel hgc
            go_wp2_with (first | (go_at_call 16; refine HPUT.out.mono ?_; clear HPUT; rintro e w4 ⟨x1, b1, rfl, hs4⟩; have e4 : b1 = .int .i64 0 := hs4.1; subst e4; have o4 := hs4.2.1; rw [HME.out] at o4; obtain ⟨Ax, cx, rfl, _⟩ := own_rd o4; have HS4 := Lib.hid hs4; have hbel4 : Below w.heap.size w w4 := HB3.out.bel.grown hs4.2.2.2 HB3.out.bel.size (fun q hq => by cases hq; exact Nat.le_refl _); have c1y := HC1.out w4 hbel4; have c2y := HC2.out w4 hbel4; clear hs4 o4 hbel4) | (go_at_call 17; refine (HRPUT.out _ HS4.out.2.2.2).mono ?_; clear HRPUT; rintro e w5 ⟨y1, b2, rfl, hr5⟩; have hp5 := HB3.out.puts HS4.out hr5; have e5 : b2 = .int .i64 0 := hp5.2.1; subst e5; have o5 := hp5.2.2.1.rb; rw [List.length_append, HME.out] at o5; obtain ⟨Ay, cy, rfl, hry⟩ := own_rd o5; have o6 := hp5.2.2.1.ra; rw [List.length_append, HME.out] at o6; have hrx := rd_own o6; have HP5 := Lib.hid hp5.2.2.1; have ha5 := hp5.2.2.2 (by omega) HB3.out.ra; rw [HLX.out] at ha5; have hm5 := hp5.2.2.2 (by omega) (HRO.out m (by omega)); have hf5 := hp5.2.2.2 (by omega) (HRO.out (m + q) (by omega)); rw [List.take_left' HLX.out] at hm5; rw [List.take_of_length_le (by rw [List.length_append, HLX.out, List.length_replicate]; exact Nat.le_refl _)] at hf5; obtain ⟨sE, hsE⟩ : ∃ s, str (L ++ (en false tab ls (L).length).1) = s := ⟨_, rfl⟩; have hcx := run_conv_str (P := Try.prog) (dst := 9) w5 Try.underlying22 Try.underlying5 Try.underlying9 hrx; have hcy := run_conv_str (P := Try.prog) (dst := 9) w5 Try.underlying22 Try.underlying5 Try.underlying9 hry; rw [hsE] at hcx hcy; clear hsE; obtain ⟨sL, hsL⟩ : ∃ s, str L = s := ⟨_, rfl⟩; have hcr := run_conv_str (P := Try.prog) (dst := 9) w5 Try.underlying22 Try.underlying5 Try.underlying9 (rd_own hm5); have hca := run_conv_str (P := Try.prog) (dst := 9) w5 Try.underlying22 Try.underlying5 Try.underlying9 (rd_own ha5); rw [hsL] at hcr hca; clear hsL; have hsp := (rd_own hf5).bcut m (m + q) (by omega) (Nat.le_refl _); rw [List.drop_left' HLX.out, show m + q - m = q by omega, List.take_of_length_le (by rw [List.length_replicate]; exact Nat.le_refl _)] at hsp; have HSP := Lib.hid (show Rd w5 1 (some (Addr.add ⟨wr.heap.size, 0, none⟩ m)) q q (bs (List.replicate q 0)) from hsp); clear hsp; clear hr5 hp5 o5 o6 hrx hry ha5 hm5 hf5) | (go_at_call 18; refine (bare_ w5 _ q q (by first | exact HSP.out | (have hq := HSP.out; rw [addr_add0] at hq; exact hq)) (by omega)).mono ?_; rintro e w6 ⟨rfl, rfl⟩))
            go_roundw
            case rel => exact ⟨k + 1, _, _, by go_num, by omega, HLE.out, HTE.out, HP5.out⟩
            case measure => simp [intOf]; omega
          | true =>
            have c1w := HC1.out w3 HB3.out.bel
            have c2w := HC2.out w3 HB3.out.bel
            obtain ⟨rvn, rvp, hT3⟩ := HB3.out.ref
            have HT3 := Lib.hid hT3
            clear hT3
            have hq0 : 0 < q := by have := HQ.out; omega
            have hcu : cutS (some (⟨wr.heap.size, 0, none⟩ : Addr)) m (m + q) 1 = some (Addr.add ⟨wr.heap.size, 0, none⟩ m) := by
              unfold cutS
              rw [if_neg (by omega), Nat.mul_one]; rfl
            have hsl := fun W => run_cut (P := Try.prog) Try.underlying22 (size := 1) HSZ.out (some (⟨wr.heap.size, 0, none⟩ : Addr)) m (m + q) .i64 .i64 (m : Int) ((m : Int) + (q : Int)) m q rfl rfl (Nat.le_refl _) W
            rw [hcu, show m + q - m = q by omega] at hsl
            clear hcu
            have HPUT := Lib.hid (show Calls Try.prog 14 #[.pointer (some ⟨w.heap.size + 1, 0, none⟩), .slice (some ⟨wr.heap.size, 0, none⟩) m (m + q), .string nm] w3 (Two (SomeB w3 w.heap.size true L ls tab)) by
              have hr3 := rd_own (HRO.out m (by omega))
              rw [List.take_left' HLX.out] at hr3
              have := plain_two w3 _ _ _ _ (two_some (row_ok w3 _ _ HB3.out.made.cell HB3.out.made.ne tab HB3.out.made.tbl _ m _ L hr3 (by omega) ls hok1 h255 (by omega) true))
              rwa [← HLS.out] at this)
            have HRPUT := Lib.hid (show ∀ w4, w3.grownBy w4 (some w.heap.size) → Calls Try.prog 15 #[.pointer (some ⟨w.heap.size + 2, 0, none⟩), .slice Ab m cb, .string nm] w4 (Two (RefR w4 (w.heap.size + 2) true L ls tab)) by
              intro w4 hg
              have hr4 := rd_own (own_kept_low HB3.out.rb (by omega) hg)
              obtain ⟨D, nn, _, _, _, hbd⟩ := HB3.out.made.tbl
              have := rplain_two w4 _ _ _ _ (rput_ok w4 _ rvn rvp tab (HT3.out.low hg (by omega)) (by omega) hbd _ m _ L hr4 (by omega) ls hok1 h255 true)
              rwa [← HLS.out] at this)
            have hes := (en_size true ls tab (L).length).2.1
            have hel := en_len true ls tab (L).length
            have hgc := gl_count ls
            obtain ⟨me, hme⟩ : ∃ me, (L).length + (en true tab ls (L).length).1.length = me := ⟨_, rfl⟩
            have HME := Lib.hid hme
            have HLE := Lib.hid (show (L ++ (en true tab ls (L).length).1).length ≤ 9300 * (k + 1) by have := HLX.out; rw [List.length_append]; omega)
            have HTE := Lib.hid (show (en true tab ls (L).length).2.length ≤ 255 * (k + 1) by omega)
            clear hme hes hel hgc
            go_wp2_with (first | (go_at_call 14; refine HPUT.out.mono ?_; clear HPUT; rintro e w4 ⟨x1, b1, rfl, hs4⟩; have e4 : b1 = .int .i64 0 := hs4.1; subst e4; have o4 := hs4.2.1; rw [HME.out] at o4; obtain ⟨Ax, cx, rfl, _⟩ := own_rd o4; have HS4 := Lib.hid hs4; have hbel4 : Below w.heap.size w w4 := HB3.out.bel.grown hs4.2.2.2 HB3.out.bel.size (fun q hq => by cases hq; exact Nat.le_refl _); have c1y := HC1.out w4 hbel4; have c2y := HC2.out w4 hbel4; clear hs4 o4 hbel4) | (go_at_call 15; refine (HRPUT.out _ HS4.out.2.2.2).mono ?_; clear HRPUT; rintro e w5 ⟨y1, b2, rfl, hr5⟩; have hp5 := HB3.out.puts HS4.out hr5; have e5 : b2 = .int .i64 0 := hp5.2.1; subst e5; have o5 := hp5.2.2.1.rb; rw [List.length_append, HME.out] at o5; obtain ⟨Ay, cy, rfl, hry⟩ := own_rd o5; have o6 := hp5.2.2.1.ra; rw [List.length_append, HME.out] at o6; have hrx := rd_own o6; have HP5 := Lib.hid hp5.2.2.1; have ha5 := hp5.2.2.2 (by omega) HB3.out.ra; rw [HLX.out] at ha5; have hm5 := hp5.2.2.2 (by omega) (HRO.out m (by omega)); have hf5 := hp5.2.2.2 (by omega) (HRO.out (m + q) (by omega)); rw [List.take_left' HLX.out] at hm5; rw [List.take_of_length_le (by rw [List.length_append, HLX.out, List.length_replicate]; exact Nat.le_refl _)] at hf5; obtain ⟨sE, hsE⟩ : ∃ s, str (L ++ (en true tab ls (L).length).1) = s := ⟨_, rfl⟩; have hcx := run_conv_str (P := Try.prog) (dst := 9) w5 Try.underlying22 Try.underlying5 Try.underlying9 hrx; have hcy := run_conv_str (P := Try.prog) (dst := 9) w5 Try.underlying22 Try.underlying5 Try.underlying9 hry; rw [hsE] at hcx hcy; clear hsE; obtain ⟨sL, hsL⟩ : ∃ s, str L = s := ⟨_, rfl⟩; have hcr := run_conv_str (P := Try.prog) (dst := 9) w5 Try.underlying22 Try.underlying5 Try.underlying9 (rd_own hm5); have hca := run_conv_str (P := Try.prog) (dst := 9) w5 Try.underlying22 Try.underlying5 Try.underlying9 (rd_own ha5); rw [hsL] at hcr hca; clear hsL; have hsp := (rd_own hf5).bcut m (m + q) (by omega) (Nat.le_refl _); rw [List.drop_left' HLX.out, show m + q - m = q by omega, List.take_of_length_le (by rw [List.length_replicate]; exact Nat.le_refl _)] at hsp; have HSP := Lib.hid (show Rd w5 1 (some (Addr.add ⟨wr.heap.size, 0, none⟩ m)) q q (bs (List.replicate q 0)) from hsp); clear hsp; clear hr5 hp5 o5 o6 hrx hry ha5 hm5 hf5) | (go_at_call 18; refine (bare_ w5 _ q q (by first | exact HSP.out | (have hq := HSP.out; rw [addr_add0] at hq; exact hq)) (by omega)).mono ?_; rintro e w6 ⟨rfl, rfl⟩))
            go_roundw
            case rel => exact ⟨k + 1, _, _, by go_num, by omega, HLE.out, HTE.out, HP5.out⟩
            case measure => simp [intOf]; omega
    · have hge : decide ((k : Int) < (n : Int)) = false := by simp; omega
      go_wp2_with (go_at_call 11; refine (wakes_ _).mono ?_; rintro e w11 ⟨rfl, hb11⟩)
      go_ret
      exact ⟨rfl, HB.out.bel.trans (hb11.mono HB.out.bel.size)⟩
set_option maxRecDepth 8000 in
theorem pressPuts_walk (w : World) (A : Option Addr) (n c : Nat) (X : List It) (hX : Rd w 3 A n c (its X)) (hok : ∀ a ∈ X, a.ok) (hy : n < 9223372036854775808) :
    Calls Try.prog 5 #[.slice A n c] w fun e w' => e = .returned (.bool true) ∧ Below w.heap.size w w' := by
  by_cases hn : n ≤ 40
  · exact pressPuts_core w A n c X hX hok hn
  · have hn' : (40 : Int) < (n : Int) := by omega
    go_enter Try.func5, Try.ntmps5
    go_wp2_with (go_at_call 11; refine (wakes_ _).mono ?_; rintro e w7 ⟨rfl, hb7⟩)
    go_ret
    exact ⟨rfl, hb7⟩
end Go.Proofs.Ytobfahafpmipfaa
