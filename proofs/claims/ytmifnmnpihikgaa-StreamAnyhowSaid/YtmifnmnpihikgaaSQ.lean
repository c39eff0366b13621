/- stream: StreamAnyhow. -/
import Derived.Test.YtmifnmnpihikgaaSP
import Derived.Test.YtmifnmnpihikgaaHR
namespace Go.Proofs.Ytmifnmnpihikgaa
open Go.RowKit Go.HL
set_option linter.unusedVariables false
set_option linter.unusedSimpArgs false
theorem szs_tk (l : List (List UInt8)) (k : Nat) : szs (l.take k) ≤ szs l := by
  conv => rhs; rw [← List.take_append_drop k l]
  unfold szs
  rw [List.map_append, List.sum_append]
  omega
theorem len_tolds (q : List (List UInt8)) : q.length ≤ tolds q := by
  induction q with
  | nil => simp
  | cons a q ih => simp [tolds] at ih ⊢; omega
theorem ms_one (l : List Ms) : ∀ u ∈ l.map Ms.val, u.oneCell' = true := by
  intro u hu
  obtain ⟨m, _, rfl⟩ := List.mem_map.1 hu
  rfl
theorem u16_at {w : World} {ad : Addr} {n c : Nat} {l : List Int} (hr : Rd w 1 (some ad) n c (l.map (Value.int .u16))) (j : Nat) (x : Int) (hx : l[j]? = some x) : w.cell? (ad.add j) = some (.int .u16 x) := hr.cells ad rfl j _ (by simp [hx])
set_option maxRecDepth 100000 in
set_option maxHeartbeats 8000000 in
theorem streamAnyhow_walk (w : World) (A : Option Addr) (n c : Nat) (X : List Ms) (Ac : Option Addr) (nc cc : Nat) (cu : List Int) (hX : Mss w A n c X) (hXc : ∀ m ∈ X, m.c ≤ 140737488351232) (hcu : Rd w 1 Ac nc cc (cu.map (Value.int .u16))) (hcw : ∀ x ∈ cu, (Lit.int .u16 x).wf = true) (hcc : cc * 2 ≤ 140737488351232) :
    Calls Try.prog 5 #[.slice A n c, .slice Ac nc cc] w (Tells w (.bool true)) := by
  have HXN := Lib.hid hX.len
  have hnc := hX.r.le
  have hncc := hcu.le
  have HCN := Lib.hid (show cu.length = nc by have := hcu.len; simpa using this)
  go_enter Try.func5, Try.ntmps5
  go_wp2
  go_loop [5, 6] (fun u5 u6 => ∃ j S : Nat, j ≤ n ∧ j ≤ 101 ∧ u6 = .int .i64 j ∧ u5 = .int .i64 S ∧ S = szs ((X.map Ms.l).take j) ∧ S ≤ 140737488482304) (fun _ u6 => n - (intOf u6).toNat)
  case atStart => exact ⟨0, 0, Nat.zero_le _, Nat.zero_le _, rfl, rfl, by simp [szs], Nat.zero_le _⟩
  case round =>
    obtain ⟨j, S, hj, hj1, rfl, rfl, hS, hS1⟩ := hrel
    have HS := Lib.hid hS
    clear hS
    by_cases hlt : j < n
    · have hlt' : (j : Int) < (n : Int) := by omega
      by_cases h101 : j < 101
      · have h101' : (j : Int) < 101 := by omega
        by_cases hbig : S ≤ 131072
        · have hbig' : (S : Int) ≤ 131072 := by omega
          obtain ⟨m, hm⟩ : ∃ m, X[j]? = some m := ⟨_, List.getElem?_eq_getElem (by have := HXN.out; omega)⟩
          obtain ⟨ad, rfl⟩ : ∃ a, A = some a := by
            cases A with
            | none => have := (hX.r.nil_ rfl).1; omega
            | some a => exact ⟨a, rfl⟩
          have hcj := hX.at j m hm
          have hmo := hX.m m (List.mem_of_getElem? hm)
          have HML := Lib.hid hmo.len
          have hmc := hXc m (List.mem_of_getElem? hm)
          have hmn := Rd.le hmo
          have HST := Lib.hid (szs_take (X.map Ms.l) j m.l (by simp [hm]))
          go_wp2
          go_round
          case rel => exact ⟨j + 1, S + m.n, by omega, by omega, by go_num, by go_num, by have := HST.out; have := HS.out; have := HML.out; omega, by omega⟩
          case measure => simp [intOf]; omega
        · have hbig' : ¬ (S : Int) ≤ 131072 := by omega
          by_cases h100 : 100 < n
          · have h100' : (100 : Int) < (n : Int) := by omega
            go_wp2_with (go_at_call 8; refine (wakes _).mono ?_; rintro e w7 ⟨rfl, hb7⟩)
            go_ret
            exact ⟨rfl, hb7⟩
          · have h100' : ¬ (100 : Int) < (n : Int) := by omega
            go_wp2_with (go_at_call 8; refine (wakes _).mono ?_; rintro e w7 ⟨rfl, hb7⟩)
            go_ret
            exact ⟨rfl, hb7⟩
      · have h101' : ¬ (j : Int) < 101 := by omega
        have h100' : (100 : Int) < (n : Int) := by omega
        go_wp2_with (go_at_call 8; refine (wakes _).mono ?_; rintro e w7 ⟨rfl, hb7⟩)
        go_ret
        exact ⟨rfl, hb7⟩
    · have hlt' : ¬ (j : Int) < (n : Int) := by omega
      by_cases h100 : 100 < n
      · have h100' : (100 : Int) < (n : Int) := by omega
        go_wp2_with (go_at_call 8; refine (wakes _).mono ?_; rintro e w7 ⟨rfl, hb7⟩)
        go_ret
        exact ⟨rfl, hb7⟩
      have h100' : ¬ (100 : Int) < (n : Int) := by omega
      by_cases hbig : S ≤ 131072
      · have hbig' : ¬ (131072 : Int) < (S : Int) := by omega
        have HT := Lib.hid (show szs (X.map Ms.l) ≤ 131072 by
          have h1 := HS.out
          rw [List.take_of_length_le (by have := HXN.out; simp; omega)] at h1
          omega)
        clear HS hS1 hj1 hbig
        go_wp2
        go_loopw [7, 8] (fun u7 u8 wr => ∃ i N : Nat, i ≤ n ∧ u8 = .int .i64 i ∧ wr.ownsRow w.heap.size 5 1 u7 N (bs (frms ((X.map Ms.l).take i))) ∧ (∀ k y, k < i → X[k]? = some y → y.n ≤ 65535) ∧ Below w.heap.size w wr) (fun _ u8 _ => n - (intOf u8).toNat)
        case atStart => exact ⟨0, 0, Nat.zero_le _, rfl, by simpa [frms, bs] using World.ownsRow_nil w w.heap.size 5 1, (fun k y hk => absurd hk (by omega)), Below.refl _ _⟩
        case round =>
          obtain ⟨i, N, hi, rfl, hoa, hsm, hbr⟩ := hrel
          have hXr := hX.below hbr
          have HSM := Lib.hid hsm
          clear hsm
          have hNl := hoa.1
          rw [bs_length, Nat.mul_one] at hNl
          have hNb : N ≤ 131272 := by
            have h1 := frms_len ((X.map Ms.l).take i)
            have h2 : szs ((X.map Ms.l).take i) ≤ szs (X.map Ms.l) := by
              exact szs_tk _ _
            have h3 := HT.out
            have h4 : ((X.map Ms.l).take i).length ≤ i := List.length_take_le _ _
            omega
          have HNL := Lib.hid hNl
          clear hNl
          by_cases hlt2 : i < n
          · have hlt2' : (i : Int) < (n : Int) := by omega
            obtain ⟨m, hm⟩ : ∃ m, X[i]? = some m := ⟨_, List.getElem?_eq_getElem (by have := HXN.out; omega)⟩
            obtain ⟨ad, rfl⟩ : ∃ a, A = some a := by
              cases A with
              | none => have := (hX.r.nil_ rfl).1; omega
              | some a => exact ⟨a, rfl⟩
            have hci := hXr.at i m hm
            have hmo := hXr.m m (List.mem_of_getElem? hm)
            have HML := Lib.hid hmo.len
            have HST := Lib.hid (frms_take (X.map Ms.l) i m.l (by simp [hm]))
            by_cases hm65 : m.n ≤ 65535
            · have hm65' : ¬ (65535 : Int) < (m.n : Int) := by omega
              have hf := frame_ok wr m.a m.n m.c m.l hmo hm65
              unfold FrameP at hf
              rw [HML.out] at hf
              have HF := Lib.hid hf
              clear hf
              go_wp2_with (first | (go_at_call 14; refine HF.out.mono ?_; rintro e w2 ⟨v2, rfl, ho2, hb2⟩; have hci2 := (hXr.below hb2).at i m hm; have hoa2 := own_below hoa hb2; obtain ⟨A2, c2, rfl, hr2⟩ := own_rd ho2; have hb02 := below_trans hbr hb2; have hz2 := hb02.size) | (at_builtin; refine wpList_app (w0 := w) _ w.heap.size rfl (.tmp 74) (.tmp 75) 26 26 5 (.int .u8 0) 1 1 rfl Try.underlying26 info_u8 rfl (by omega) (by omega) _ N (bs (frms ((X.map Ms.l).take i))) rfl (.own hoa2) _ (m.n + 2) (bs (frm m.l)) rfl (.slice hr2 (bs_one _)) hb02 hz2 (by omega) ?_; intro v3 w3 _ ho3' hb3 hg3; have ho3 := ho3' (.inr hoa2); clear ho3' hg3))
              rw [← bs_append] at ho3
              go_roundw
              case rel => exact ⟨i + 1, N + (m.n + 2), by omega, by go_num, by rw [HST.out]; exact ho3, (fun k y hk hy => by
                rcases Nat.lt_or_ge k i with h | h
                · exact HSM.out k y h hy
                · obtain rfl : k = i := by omega
                  rw [hm] at hy
                  cases hy
                  exact hm65), hb3⟩
              case measure => simp [intOf]; omega
            · have hm65' : (65535 : Int) < (m.n : Int) := by omega
              have hf := frame_no wr m.a m.n m.c hm65
              go_wp2_with (first | (go_at_call 14; refine hf.mono ?_; rintro e w2 ⟨rfl, hb2⟩; have hci2 := (hXr.below hb2).at i m hm) | (go_at_call 8; refine (wakes _).mono ?_; rintro e w7 ⟨rfl, hb7⟩))
              go_ret
              exact ⟨rfl, below_trans (below_trans hbr hb2) hb7⟩
          · have hlt2' : ¬ (i : Int) < (n : Int) := by omega
            obtain rfl : n = i := by omega
            rw [List.take_of_length_le (by have := HXN.out; simp; omega)] at hoa
            have hFN := HNL.out
            rw [List.take_of_length_le (by have := HXN.out; simp; omega)] at hFN
            have hFC := cut_frms (X.map Ms.l) (fun x hx => by
              obtain ⟨m, hm, rfl⟩ := List.mem_map.1 hx
              obtain ⟨k, hk⟩ := List.getElem?_of_mem hm
              have h1 := HSM.out k m (by have h2 := (List.getElem?_eq_some_iff.1 hk).1; have := HXN.out; omega) hk
              rw [(hX.m m hm).len]
              exact h1)
            obtain ⟨F, hF⟩ : ∃ F, frms (X.map Ms.l) = F := ⟨_, rfl⟩
            rw [hF] at hoa hFN hFC
            obtain ⟨Aa0, ca0, rfl, hra0⟩ := own_rd hoa
            have HFC := Lib.hid (And.intro hFN hFC)
            have HAlt := Lib.hid (show ∀ a, Aa0 = some a → w.heap.size ≤ a.block ∧ a.block < wr.heap.size from fun a ha => hoa.lt a.block (by rw [ha]; rfl))
            clear hoa hFN hFC hF HNL HSM HT
            have hR0 := Boxed.new wr 48 (.slice none 0 0)
            have hbn := below_new wr (.cells #[.slice none 0 0] 48)
            go_upto_region 21 with (go_at_call 9; refine (newReader_ _).mono ?_; rintro e w' ⟨rfl, rfl⟩)
            have hra1 := hra0.below hbn
            have hbr1 := below_trans hbr hbn
            have hz1 := World.size_alloc wr (.cells #[.slice none 0 0] 48)
            have hwR := hbr.size
            obtain ⟨R, hRR⟩ : ∃ x, wr.heap.size = x := ⟨_, rfl⟩
            rw [hRR] at hR0 HAlt hz1 hwR ⊢
            obtain ⟨W0, hW⟩ : ∃ x, wr.alloc (.cells #[.slice none 0 0] 48) = x := ⟨_, rfl⟩
            rw [hW] at hR0 hra1 hbr1 hz1 ⊢
            clear hW hRR hbn hra0 hbr hXr hi hlt2 hlt2'
            go_loopw [7, 12, 13] (fun u7 u12 u13 wr => ∃ (p i : Nat) (Aa : Option Addr) (na ca : Nat) (Aw : Option Addr) (nw cw : Nat) (lw : List UInt8) (T : List Ms), u7 = .slice Aa na ca ∧ u13 = .int .i64 i ∧ F.length = p + na ∧ i ≤ nc + 1 ∧ (i = nc + 1 → na = 0) ∧ Rd wr 1 Aa na ca (bs (F.drop p)) ∧ (∀ a, Aa = some a → a.block < R) ∧ wr.ownsRow (R + 1) 26 1 u12 T.length (T.map Ms.val) ∧ (∀ m ∈ T, MsT wr m) ∧ T.map Ms.l = (cut (F.take p)).1 ∧ Boxed wr R 48 (.slice Aw nw cw) ∧ Rd wr 1 Aw nw cw (bs lw) ∧ lw = (cut (F.take p)).2 ∧ Below w.heap.size w wr ∧ R + 1 ≤ wr.heap.size) (fun _ _ u13 _ => nc + 2 - (intOf u13).toNat)
            case atStart => exact ⟨0, 0, Aa0, N, ca0, none, 0, 0, [], [], rfl, rfl, by have := HFC.out.1; omega, by omega, by omega, hra1, fun a ha => (HAlt.out a ha).2, World.ownsRow_nil _ _ _ _, by simp, rfl, hR0, Rd.nil _ _, rfl, hbr1, by omega⟩
            case round =>
              clear hra1 hR0 hbr1
              obtain ⟨p, i, Aa, na, ca, Aw, nw, cw, lw, T, rfl, rfl, hpn, hi, hlast, hra, hab, hown, hT, hTl, hbx, hrw, hlw, hbr, hzr⟩ := hrel
              have hXr := hX.below hbr
              have hcur := hcu.below hbr
              have hac := hra.le
              have HTl := Lib.hid (And.intro hTl hlw)
              have HT := Lib.hid hT
              have HFP := Lib.hid hpn
              have hna : na ≤ 131272 := by have := HFC.out.1; omega
              have hlwn : nw ≤ 131272 := by
                have h1 := hrw.blen
                have h2 := cut_tolds (F.take p)
                rw [← hlw, h1] at h2
                have h3 : (F.take p).length ≤ p := List.length_take_le _ _
                have := HFC.out.1
                have := HFP.out
                omega
              clear hTl hlw hT hpn
              by_cases hp0 : 0 < na
              · have hp0' : (0 : Int) < (na : Int) := by omega
                by_cases hic : i < nc
                · have hic' : (i : Int) < (nc : Int) := by omega
                  obtain ⟨x, hx⟩ : ∃ x, cu[i]? = some x := ⟨_, List.getElem?_eq_getElem (by have := HCN.out; omega)⟩
                  have hxb := bd_u16 (hcw x (List.mem_of_getElem? hx))
                  obtain ⟨k, rfl⟩ : ∃ k : Nat, x = (k : Int) := ⟨x.toNat, by omega⟩
                  obtain ⟨ac, rfl⟩ : ∃ a, Ac = some a := by
                    cases Ac with
                    | none => have := (hcu.nil_ rfl).1; omega
                    | some a => exact ⟨a, rfl⟩
                  have hcx := u16_at hcur i _ hx
                  go_upto_region 26 with fail
                  obtain ⟨K, hKK, hKna⟩ : ∃ K : Nat, (if k < na then (k : Int) else (na : Int)) = (K : Int) ∧ K ≤ na := by
                    by_cases h : k < na
                    · exact ⟨k, by rw [if_pos h], by omega⟩
                    · exact ⟨na, by rw [if_neg h], by omega⟩
                  rw [hKK]
                  have hLast : i + 1 = nc + 1 → na - K = 0 := by omega
                  clear hKK
                  go_upto_region 27 with (first | (refine wpList_app_nil wr wr wr.heap.size rfl (.const (.slice none 0 0)) (.tmp 100) 26 26 5 (.int .u8 0) 1 1 rfl Try.underlying26 info_u8 rfl (by omega) (by omega) rfl _ _ (bs ((F.drop p).take K)) rfl (.slice (hra.bpre K hKna) (bs_one _)) (Below.refl _ _) (Nat.le_refl _) (by omega) ?_; intro v1 w1 ho1 hb1 hg1; obtain ⟨A1, c1, rfl, hr1⟩ := own_rd ho1; have hbx1 : Boxed w1 R 48 (.slice Aw nw cw) := (hb1.block R hzr).trans hbx; have hf := feed_ w1 R Aw nw cw lw A1 K c1 ((F.drop p).take K) hbx1 (hrw.below hb1) hr1 (by omega); unfold FeedP at hf; have HF2 := Lib.hid hf; clear hf) | (go_at_call 10; refine HF2.out.mono ?_; rintro e w2 ⟨Y, v, r, rfl, ho, hY, hYl, hR2, hor, hg2⟩))
                  have hTt : ∀ m ∈ T, MsT w2 m := fun m hm => (((HT.out m hm).below hb1).kept hg2 (fun j hj => by cases hj; exact not_byt_box hbx1))
                  have hown2 := (own_below hown hb1).kept hg2 (by
                    cases hv : u12.ownBlock with
                    | none => exact .inl rfl
                    | some j => right; intro e; have := own_base hown j hv; cases e; omega)
                  have hz2 := hg2.size
                  have hz1 := hb1.size
                  have hbr2 := feed_below (below_trans hbr hb1) hwR hg2
                  obtain ⟨Av, cv, rfl, hrv⟩ := own_rd ho
                  have hYT : ∀ m ∈ Y, MsT w2 m := fun m hm => ⟨(hY m hm).1, fun a ha => ((hY m hm).2 a ha).2⟩
                  have hmore := cut_more F p K
                  rw [← HTl.out.2] at hmore
                  have hnum : T.length + Y.length ≤ 131272 := by
                    have h1 := congrArg (fun q => q.1.length) hmore
                    simp only [List.length_append] at h1
                    have h2 := cut_tolds (F.take (p + K))
                    have h3 := len_tolds (cut (F.take (p + K))).1
                    have h4 : (F.take (p + K)).length ≤ F.length := List.length_take_le' _ _
                    have h5 := congrArg List.length HTl.out.1
                    have h6 := congrArg List.length hYl
                    have h7 := HFC.out.1
                    simp only [List.length_map] at h5 h6
                    omega
                  have HM := Lib.hid hmore
                  have HYT := Lib.hid (And.intro hYT hYl)
                  have HTt := Lib.hid hTt
                  have hrc2 : Rd w2 1 (cutS Aa K ca 1) (na - K) (ca - K) (bs (F.drop (p + K))) := by
                    have h1 := (hra.bcutO K (na - K) ca (by omega) (by omega) (Nat.le_refl _)).below hb1
                    rw [List.take_of_length_le (by have := HFP.out; simp; omega), List.drop_drop] at h1
                    exact rd_grown h1 hg2 (fun a ha e => by
                      have h2 : a.block < R := cutS_blk (P := fun b => b < R) hab a ha
                      cases e
                      omega)
                  have hcb : ∀ a, cutS Aa K ca 1 = some a → a.block < R := cutS_blk (P := fun b => b < R) hab
                  obtain ⟨Ar, cr, rfl, hrr⟩ := own_rd hor
                  have hrT : ∀ a, Ar = some a → Byt w2 a.block := fun a ha => Byt.of_own hor a.block (by rw [ha]; rfl)
                  clear hmore hYT hYl hTt hY ho hX hXr HF2 hb1 hg1 hg2 hr1 hbx1 hra hcur hor
                  go_wp2_with (first | (refine wpList_app (w0 := w2) _ (R + 1) rfl (.tmp 107) (.tmp 108) 22 22 26 (.slice none 0 0) 1 24 rfl Try.underlying22 info_bytes rfl (by omega) (by omega) _ T.length (T.map Ms.val) rfl (.own hown2) _ Y.length (Y.map Ms.val) rfl (.slice hrv (ms_one _)) (Below.refl _ _) (by omega) (by omega) ?_; intro v3 w3 _ ho3' hb3 hg3; have ho3 := ho3' (.inr hown2); clear ho3' hb3) | (refine wpList_cutL rfl 26 5 (.tmp 110) (.tmp 111) rfl Try.underlying26 (size := 1) (by kernel_rfl) Aa na ca rfl rfl K rfl hKna ?_))
                  have hT3 : ∀ m ∈ T ++ Y, MsT w3 m := fun m hm => by
                    rcases List.mem_append.1 hm with h | h
                    · exact (HTt.out m h).kept hg3 (not_byt_own hown2)
                    · exact (HYT.out.1 m h).kept hg3 (not_byt_own hown2)
                  have hz3 := hg3.size
                  have hR3 := hR2.kept hg3 (by intro e; have := own_base hown2 R e.symm; omega)
                  have hrr3 := rd_grown hrr hg3 (fun a ha e => not_byt_own hown2 _ e.symm (hrT a ha))
                  have hrc3 := rd_grown hrc2 hg3 (fun a ha e => by have h1 := own_base hown2 _ e.symm; have h2 := hcb a ha; omega)
                  have hb3 := hbr2.grown hg3 hbr2.size (fun k hk => by have := own_base hown2 k hk; omega)
                  rw [← List.map_append, ← List.length_append] at ho3
                  go_roundw
                  case rel => exact ⟨p + K, i + 1, cutS Aa K ca 1, na - K, ca - K, Ar, _, cr, _, T ++ Y, rfl, by go_num, by have := HFP.out; omega, by omega, hLast, hrc3, hcb, ho3, hT3, by rw [HM.out, List.map_append, HTl.out.1, HYT.out.2], hR3, hrr3, by rw [HM.out], hb3, by omega⟩
                  case measure => simp [intOf]; omega
                · have hic' : ¬ (i : Int) < (nc : Int) := by omega
                  go_upto_region 26 with fail
                  obtain ⟨K, hKK⟩ : ∃ K : Nat, (na : Int) = (K : Int) := ⟨_, rfl⟩
                  have hKna : K ≤ na := by omega
                  have hLast : i + 1 = nc + 1 → na - K = 0 := by omega
                  rw [hKK]
                  clear hKK
                  go_upto_region 27 with (first | (refine wpList_app_nil wr wr wr.heap.size rfl (.const (.slice none 0 0)) (.tmp 100) 26 26 5 (.int .u8 0) 1 1 rfl Try.underlying26 info_u8 rfl (by omega) (by omega) rfl _ _ (bs ((F.drop p).take K)) rfl (.slice (hra.bpre K hKna) (bs_one _)) (Below.refl _ _) (Nat.le_refl _) (by omega) ?_; intro v1 w1 ho1 hb1 hg1; obtain ⟨A1, c1, rfl, hr1⟩ := own_rd ho1; have hbx1 : Boxed w1 R 48 (.slice Aw nw cw) := (hb1.block R hzr).trans hbx; have hf := feed_ w1 R Aw nw cw lw A1 K c1 ((F.drop p).take K) hbx1 (hrw.below hb1) hr1 (by omega); unfold FeedP at hf; have HF2 := Lib.hid hf; clear hf) | (go_at_call 10; refine HF2.out.mono ?_; rintro e w2 ⟨Y, v, r, rfl, ho, hY, hYl, hR2, hor, hg2⟩))
                  have hTt : ∀ m ∈ T, MsT w2 m := fun m hm => (((HT.out m hm).below hb1).kept hg2 (fun j hj => by cases hj; exact not_byt_box hbx1))
                  have hown2 := (own_below hown hb1).kept hg2 (by
                    cases hv : u12.ownBlock with
                    | none => exact .inl rfl
                    | some j => right; intro e; have := own_base hown j hv; cases e; omega)
                  have hz2 := hg2.size
                  have hz1 := hb1.size
                  have hbr2 := feed_below (below_trans hbr hb1) hwR hg2
                  obtain ⟨Av, cv, rfl, hrv⟩ := own_rd ho
                  have hYT : ∀ m ∈ Y, MsT w2 m := fun m hm => ⟨(hY m hm).1, fun a ha => ((hY m hm).2 a ha).2⟩
                  have hmore := cut_more F p K
                  rw [← HTl.out.2] at hmore
                  have hnum : T.length + Y.length ≤ 131272 := by
                    have h1 := congrArg (fun q => q.1.length) hmore
                    simp only [List.length_append] at h1
                    have h2 := cut_tolds (F.take (p + K))
                    have h3 := len_tolds (cut (F.take (p + K))).1
                    have h4 : (F.take (p + K)).length ≤ F.length := List.length_take_le' _ _
                    have h5 := congrArg List.length HTl.out.1
                    have h6 := congrArg List.length hYl
                    have h7 := HFC.out.1
                    simp only [List.length_map] at h5 h6
                    omega
                  have HM := Lib.hid hmore
                  have HYT := Lib.hid (And.intro hYT hYl)
                  have HTt := Lib.hid hTt
                  have hrc2 : Rd w2 1 (cutS Aa K ca 1) (na - K) (ca - K) (bs (F.drop (p + K))) := by
                    have h1 := (hra.bcutO K (na - K) ca (by omega) (by omega) (Nat.le_refl _)).below hb1
                    rw [List.take_of_length_le (by have := HFP.out; simp; omega), List.drop_drop] at h1
                    exact rd_grown h1 hg2 (fun a ha e => by
                      have h2 : a.block < R := cutS_blk (P := fun b => b < R) hab a ha
                      cases e
                      omega)
                  have hcb : ∀ a, cutS Aa K ca 1 = some a → a.block < R := cutS_blk (P := fun b => b < R) hab
                  obtain ⟨Ar, cr, rfl, hrr⟩ := own_rd hor
                  have hrT : ∀ a, Ar = some a → Byt w2 a.block := fun a ha => Byt.of_own hor a.block (by rw [ha]; rfl)
                  clear hmore hYT hYl hTt hY ho hX hXr HF2 hb1 hg1 hg2 hr1 hbx1 hra hcur hor
                  go_wp2_with (first | (refine wpList_app (w0 := w2) _ (R + 1) rfl (.tmp 107) (.tmp 108) 22 22 26 (.slice none 0 0) 1 24 rfl Try.underlying22 info_bytes rfl (by omega) (by omega) _ T.length (T.map Ms.val) rfl (.own hown2) _ Y.length (Y.map Ms.val) rfl (.slice hrv (ms_one _)) (Below.refl _ _) (by omega) (by omega) ?_; intro v3 w3 _ ho3' hb3 hg3; have ho3 := ho3' (.inr hown2); clear ho3' hb3) | (refine wpList_cutL rfl 26 5 (.tmp 110) (.tmp 111) rfl Try.underlying26 (size := 1) (by kernel_rfl) Aa na ca rfl rfl K rfl hKna ?_))
                  have hT3 : ∀ m ∈ T ++ Y, MsT w3 m := fun m hm => by
                    rcases List.mem_append.1 hm with h | h
                    · exact (HTt.out m h).kept hg3 (not_byt_own hown2)
                    · exact (HYT.out.1 m h).kept hg3 (not_byt_own hown2)
                  have hz3 := hg3.size
                  have hR3 := hR2.kept hg3 (by intro e; have := own_base hown2 R e.symm; omega)
                  have hrr3 := rd_grown hrr hg3 (fun a ha e => not_byt_own hown2 _ e.symm (hrT a ha))
                  have hrc3 := rd_grown hrc2 hg3 (fun a ha e => by have h1 := own_base hown2 _ e.symm; have h2 := hcb a ha; omega)
                  have hb3 := hbr2.grown hg3 hbr2.size (fun k hk => by have := own_base hown2 k hk; omega)
                  rw [← List.map_append, ← List.length_append] at ho3
                  go_roundw
                  case rel => exact ⟨p + K, i + 1, cutS Aa K ca 1, na - K, ca - K, Ar, _, cr, _, T ++ Y, rfl, by go_num, by have := HFP.out; omega, by omega, hLast, hrc3, hcb, ho3, hT3, by rw [HM.out, List.map_append, HTl.out.1, HYT.out.2], hR3, hrr3, by rw [HM.out], hb3, by omega⟩
                  case measure => simp [intOf]; omega
              · have hp0' : ¬ (0 : Int) < (na : Int) := by omega
                obtain rfl : na = 0 := by omega
                have hpF : p = F.length := by have := HFP.out; omega
                have hTl := HTl.out
                rw [hpF, List.take_length, HFC.out.2] at hTl
                obtain ⟨hTl, hlw⟩ := hTl
                have hnw := hrw.blen
                rw [hlw] at hnw
                obtain rfl : nw = 0 := hnw.symm
                have hTn : T.length = n := by
                  have h1 := congrArg List.length hTl
                  simp only [List.length_map] at h1
                  have := HXN.out
                  omega
                have hTm : ∀ m ∈ T, MsOk wr m := fun m hm => (HT.out m hm).1
                obtain ⟨At, ct, rfl, hrt⟩ := own_rd hown
                rw [hTn] at hrt hown ⊢
                have HTn := Lib.hid hTn
                have HTl2 := Lib.hid hTl
                have HL2 := Lib.hid (left_ wr R Aw 0 cw hbx.cell)
                have HXm := Lib.hid hXr.m
                have hXx := hXr.r
                clear hTl hlw hTn hown HT HTl hbx hrw hra hab hcur hX hXr hpF HFP
                go_wp2_with (go_at_call 13; refine HL2.out.mono ?_; rintro e w' ⟨rfl, rfl⟩)
                go_loopw [17] (fun u17 W => ∃ j : Nat, j ≤ n ∧ u17 = .int .i64 j ∧ Rd W 1 At n ct (T.map Ms.val) ∧ (∀ m ∈ T, MsOk W m) ∧ Rd W 1 A n c (X.map Ms.val) ∧ (∀ m ∈ X, MsOk W m) ∧ Below w.heap.size w W) (fun u17 _ => n - (intOf u17).toNat)
                case atStart => exact ⟨0, Nat.zero_le _, rfl, hrt, hTm, hXx, HXm.out, hbr⟩
                case round =>
                  clear hrt hTm hXx hbr HXm HL2
                  obtain ⟨j, hj, rfl, hrt, hTm, hXx, hXm, hbW⟩ := hrel
                  have HTm := Lib.hid hTm
                  have HXm := Lib.hid hXm
                  clear hTm hXm
                  by_cases hlt4 : j < n
                  · have hlt4' : (j : Int) < (n : Int) := by omega
                    obtain ⟨m, hm⟩ : ∃ m, X[j]? = some m := ⟨_, List.getElem?_eq_getElem (by have := HXN.out; omega)⟩
                    obtain ⟨t, ht⟩ : ∃ t, T[j]? = some t := ⟨_, List.getElem?_eq_getElem (by have := HTn.out; omega)⟩
                    have hml : t.l = m.l := by
                      have h1 := congrArg (fun q => q[j]?) HTl2.out
                      simp only [List.getElem?_map, hm, ht, Option.map_some, Option.some.injEq] at h1
                      exact h1
                    have hmo := HXm.out m (List.mem_of_getElem? hm)
                    have hto := HTm.out t (List.mem_of_getElem? ht)
                    unfold MsOk at hmo hto
                    obtain ⟨ad, rfl⟩ : ∃ a, A = some a := by
                      cases A with
                      | none => have := (hXx.nil_ rfl).1; omega
                      | some a => exact ⟨a, rfl⟩
                    obtain ⟨at_, rfl⟩ : ∃ a, At = some a := by
                      cases At with
                      | none => have := (hrt.nil_ rfl).1; omega
                      | some a => exact ⟨a, rfl⟩
                    have hc1 := hXx.cells ad rfl j m.val (by simp [hm])
                    have hc2 := hrt.cells at_ rfl j t.val (by simp [ht])
                    obtain ⟨ma, mn, mc, ml⟩ := m
                    obtain ⟨ta, tn, tc, tl⟩ := t
                    simp only [Ms.val] at hc1 hc2 hmo hto hml
                    subst hml
                    obtain ⟨sl, hsl⟩ : ∃ sl, str tl = sl := ⟨_, rfl⟩
                    have k1 := fun q => run_conv_str (P := Try.prog) (wr.drewN q) (dst := 9) Try.underlying26 Try.underlying5 Try.underlying9 (hmo.drewN q)
                    have k2 := fun q => run_conv_str (P := Try.prog) (wr.drewN q) (dst := 9) Try.underlying26 Try.underlying5 Try.underlying9 (hto.drewN q)
                    rw [hsl] at k1 k2
                    clear hm ht hmo hto hsl
                    go_wp2
                    go_quiet (fail)
                    go_wp2
                    go_roundw
                    case rel => exact ⟨j + 1, by omega, by go_num, hrt.drewN _, fun m hm => Rd.drewN (HTm.out m hm) _, hXx.drewN _, fun m hm => Rd.drewN (HXm.out m hm) _, below_drewN hbW _⟩
                    case measure => simp [intOf]; omega
                  · have hlt4' : ¬ (j : Int) < (n : Int) := by omega
                    go_wp2_with (go_at_call 8; refine (wakes _).mono ?_; rintro e w7 ⟨rfl, hb7⟩)
                    go_ret
                    exact ⟨rfl, below_trans hbW hb7⟩
      · have hbig' : (131072 : Int) < (S : Int) := by omega
        go_wp2_with (go_at_call 8; refine (wakes _).mono ?_; rintro e w7 ⟨rfl, hb7⟩)
        go_ret
        exact ⟨rfl, hb7⟩
end Go.Proofs.Ytmifnmnpihikgaa
