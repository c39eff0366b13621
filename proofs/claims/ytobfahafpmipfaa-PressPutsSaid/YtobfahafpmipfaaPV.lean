/- PressBack: the walk. -/
import Derived.Test.YtobfahafpmipfaaPU
namespace Go.Proofs.Ytobfahafpmipfaa
open Go.RowKit Go.HL
set_option linter.unusedVariables false
set_option linter.unusedSimpArgs false
theorem info_nm : (Try.prog.info? 23).map (fun i => (i.zero, i.size, i.bytes)) = some (some (.string ByteArray.empty), 1, 16) := by kernel_rfl
theorem rd_own {w : World} {base n m size c : Nat} {e : TypeId} {A : Option Addr} {cs : List Value} (h : w.ownsRow base e size (.slice A n c) m cs) : Rd w size A n c cs := by
  obtain ⟨A1, c1, e1, h1⟩ := own_rd h
  cases e1
  exact h1
theorem kept6 {w W W' : World} {v2 va vn : Value} {b' : List UInt8} {n2 np nn : Nat} {cp cn : List Value} {tab : Tb}
    (h : W.ownsRow (w.heap.size + 2) 5 1 v2 n2 (bs b') ∧ Made W (w.heap.size + 1) w.heap.size tab ∧ W.ownsRow (w.heap.size + 2) 3 1 va np cp ∧ W.ownsRow (w.heap.size + 2) 23 1 vn nn cn ∧ Below w.heap.size w W ∧ w.heap.size + 2 ≤ W.heap.size) (hb : Below W.heap.size W W') :
    W'.ownsRow (w.heap.size + 2) 5 1 v2 n2 (bs b') ∧ Made W' (w.heap.size + 1) w.heap.size tab ∧ W'.ownsRow (w.heap.size + 2) 3 1 va np cp ∧ W'.ownsRow (w.heap.size + 2) 23 1 vn nn cn ∧ Below w.heap.size w W' ∧ w.heap.size + 2 ≤ W'.heap.size :=
  ⟨own_below h.1 hb, h.2.1.kept (below_none hb) (by simp) (by simp), own_below h.2.2.1 hb, own_below h.2.2.2.1 hb, h.2.2.2.2.1.trans (hb.mono h.2.2.2.2.1.size), Nat.le_trans h.2.2.2.2.2 hb.size⟩
set_option maxRecDepth 8000 in
set_option maxHeartbeats 4000000 in
theorem pressBack_core (w : World) (A : Option Addr) (n c : Nat) (X : List It) (A' : Option Addr) (n' c' : Nat) (l : List UInt8) (hX : Rd w 3 A n c (its X)) (hok : ∀ a ∈ X, a.ok) (hn : n ≤ 60) (hr : Rd w 1 A' n' c' (bs l)) (hc : c' * 1 ≤ 140737488351232) :
    Calls Try.prog 8 #[.slice A n c, .slice A' n' c'] w fun e w' => e = .returned (.bool true) ∧ Below w.heap.size w w' := by
  have hn' : ¬ (60 : Int) < (n : Int) := by omega
  have hXl : X.length = n := by have := hX.len; rw [its_len] at this; omega
  have hr' := hr.le
  have HXR := Lib.hid hX
  have HXL := Lib.hid hXl
  have HRL := Lib.hid hr
  clear hX hXl hr
  go_enter Try.func8, Try.ntmps8
  go_wp2_with (go_at_call 13; refine (new_ _).mono ?_; rintro e w2 ⟨rfl, hw2⟩; have HB2 : Hid (BkW w w2 (.slice none 0 0) (.slice none 0 0) (.slice none 0 0) [] [] [] []) := Lib.hid (hw2.symm.subst (motive := fun W => BkW w W (.slice none 0 0) (.slice none 0 0) (.slice none 0 0) [] [] [] []) (BkW.new w)); clear hw2)
  go_loopw [6, 7, 8, 9] (fun vb vat vnm i wr => InvB w n vb vat vnm i wr) (fun _ _ _ i _ => n - (intOf i).toNat)
  case atStart => exact ⟨0, [], [], [], [], rfl, Nat.zero_le _, Nat.le_refl _, HB2.out⟩
  case round =>
    obtain ⟨k, N, P, b, tab, rfl, hk, hNk, hB⟩ := hrel
    obtain ⟨Ab, cb, rfl, hrb⟩ := own_rd hB.rb
    obtain ⟨Aa, ca, rfl, hra⟩ := own_rd hB.rat
    obtain ⟨Am, cm, rfl, hrm⟩ := own_rd hB.rnm
    have HB := Lib.hid hB
    have HRB := Lib.hid hrb
    clear hB hrb hra hrm
    by_cases hlt : k < n
    · have hi1 : (k : Int) < (n : Int) := by omega
      have hi0 : (0 : Int) ≤ (k : Int) := by omega
      obtain ⟨⟨sk, nm, pl⟩, hx⟩ : ∃ x, X[k]? = some x := ⟨_, List.getElem?_eq_getElem (by rw [HXL.out]; exact hlt)⟩
      have hnsz := (hok _ (List.mem_of_getElem? hx)).nm
      simp only at hnsz
      cases A with
      | none => have := (HXR.out.nil_ rfl).1; omega
      | some ad =>
      have HC1 := Lib.hid (fun W (hbw : Below w.heap.size w W) => (Rd.it' (HXR.out.below hbw) k _ hx 0 (by omega) (.string nm) rfl : W.cell? { block := (ad.add (k * 3)).block, off := (ad.add (k * 3)).off + 1, spot := none } = some (.string nm)))
      have HC2 := Lib.hid (fun W (hbw : Below w.heap.size w W) => (Rd.it' (HXR.out.below hbw) k _ hx 1 (by omega) (.bool pl) rfl : W.cell? { block := (ad.add (k * 3)).block, off := (ad.add (k * 3)).off + 2, spot := none } = some (.bool pl)))
      have c1 := HC1.out wr HB.out.bel
      clear hx
      have hck := check_ wr nm (by omega)
      cases hnm : isNm nm with
      | false =>
        rw [hnm] at hck
        go_wp2_with (go_at_call 12; refine hck.mono ?_; clear hck; rintro e w1 ⟨rfl, hb1⟩)
        go_roundw
        case rel => exact ⟨k + 1, N, P, b, tab, by go_num, by omega, by omega, HB.out.below hb1⟩
        case measure => simp [intOf]; omega
      | true =>
        rw [hnm] at hck
        have hsz1 := fun W => size_ W nm (by omega)
        rw [hnm] at hsz1
        simp only [if_true] at hsz1
        obtain ⟨ls, hls, hok1, h255, _⟩ := isNm_true hnm
        have hzz : nm.size = (gl ls).length := by rw [hls, str_size]
        have HLS := Lib.hid hls
        have hlb := HB.out.lb
        have hlt2 := HB.out.lt
        have hlp := HB.out.bk.len
        have HLP := Lib.hid hlp
        have hes := fun p => en_size p ls tab b.length
        have hel := fun p => en_len p ls tab b.length
        have hgc := gl_count ls
        clear hnm hlp
        cases pl with
        | false =>
          have HPUT := Lib.hid (fun W (hM : Made W (w.heap.size + 1) w.heap.size tab) A2 c2 (ho2 : W.ownsRow (w.heap.size + 2) 5 1 (.slice A2 b.length c2) b.length (bs b)) => by
            obtain ⟨A3, c3, e3, hr3⟩ := own_rd ho2
            cases e3
            have := put_ok W _ _ hM.cell hM.ne tab hM.tbl A2 b.length c2 b hr3 (by omega) ls hok1 h255 (by omega)
            rw [← hls] at this
            exact this)
          obtain ⟨m3, hm3⟩ : ∃ m3, (b ++ (en false tab ls b.length).1).length = m3 := ⟨_, rfl⟩
          have hm4 : m3 = b.length + (en false tab ls b.length).1.length := by rw [← hm3, List.length_append]
          have hes1 := hes false
          have hel1 := hel false
          have HLB := Lib.hid (show (b ++ (en false tab ls b.length).1).length ≤ 255 * (N.length + 1) by omega)
          have HLT := Lib.hid (show (en false tab ls b.length).2.length ≤ 255 * (N.length + 1) by omega)
          have hA1 : ¬ (nm.size : Int) < (m3 : Int) - (b.length : Int) := by omega
          have hA2 : ¬ (m3 : Int) ≤ (b.length : Int) := by omega
          have hm5 : m3 ≤ 100000 := by omega
          have hm6 : b.length ≤ 100000 := by omega
          have HM3 := Lib.hid hm3
          clear hm3 hm4 hes1 hel1 hes hel hlb hlt2 hzz hls hgc
          go_wp2_with (first | (go_at_call 12; refine hck.mono ?_; clear hck; rintro e w1 ⟨rfl, hb1⟩; have HB1 := Lib.hid (HB.out.below hb1); have c1a := HC1.out w1 HB1.out.bel; have c2a := HC2.out w1 HB1.out.bel; clear hb1) | (go_at_call 16; refine (HPUT.out _ HB1.out.made _ _ (HB1.out.rb)).mono ?_; clear HPUT; rintro e w2 ⟨a2, b2, rfl, hs2⟩; obtain ⟨rfl, r2, m2, ra2, rn2, hbel2, top2⟩ := HB1.out.put false ls hok1 h255 hs2; clear hs2; obtain ⟨A2, c2, rfl, hr2⟩ := own_rd r2; rw [HM3.out]; have HQ2 := Lib.hid (And.intro r2 (And.intro m2 (And.intro ra2 (And.intro rn2 (And.intro hbel2 top2))))); clear r2 m2 ra2 rn2 top2 hr2; have c1b := HC1.out w2 hbel2; have c2b := HC2.out w2 hbel2; clear hbel2) | (go_at_call 19; refine (hsz1 w2).mono ?_; clear hsz1; rintro e w3 ⟨rfl, hb3⟩; have HQ3 := Lib.hid (kept6 HQ2.out hb3); have c1c := HC1.out w3 HQ3.out.2.2.2.2.1; have c2c := HC2.out w3 HQ3.out.2.2.2.2.1; clear hb3) | (at_builtin; refine wpList_app1 (w0 := w3) (w.heap.size + 2) rfl _ _ 35 3 (.int .i64 0) 8 rfl Try.underlying35 info_int rfl (by omega) (.slice Aa P.length ca) P.length (ints P) (.int .i64 (b.length : Int)) rfl (.own HQ3.out.2.2.1) rfl rfl (Below.refl _ _) HQ3.out.2.2.2.2.2 (by have := HLP.out; omega) ?_; intro v5 w5 ho5 hb5 hg5; have HG5 := Lib.hid hg5; have hbel5 : Below w.heap.size w w5 := HQ3.out.2.2.2.2.1.grown hg5 HQ3.out.2.2.2.2.1.size (fun k hk => by have := own_base HQ3.out.2.2.1 k hk; omega); have c1e := HC1.out w5 hbel5; have hrn5 := own_kept_other HQ3.out.2.2.2.1 HQ3.out.2.2.1 (by decide) hg5; have htop5 := Nat.le_trans HQ3.out.2.2.2.2.2 hg5.size; have HO5 := Lib.hid ho5; have HR5 := Lib.hid hrn5; clear hg5 hb5 ho5 hrn5) | (at_builtin; refine wpList_app1 (w0 := w5) (w.heap.size + 2) rfl _ _ 34 23 (.string ByteArray.empty) 16 rfl Try.underlying34 info_nm rfl (by omega) (.slice Am N.length cm) N.length (nms N) (.string nm) rfl (.own HR5.out) rfl rfl (Below.refl _ _) htop5 (by omega) ?_; intro v6 w6 ho6 hb6 hg6; have HO6 := Lib.hid ho6; have HG6 := Lib.hid hg6; clear ho6 hb6 hg6))
          go_roundw
          case rel => exact ⟨k + 1, N ++ [ls], P ++ [b.length], _, _, by go_num, by omega, by rw [List.length_append]; simp; omega, BkW.step HQ3.out.2.1 (HM3.out.symm ▸ HQ3.out.1) HQ3.out.2.2.1 HQ3.out.2.2.2.1 HQ3.out.2.2.2.2.1 HQ3.out.2.2.2.2.2 HO5.out HG5.out (HLS.out ▸ HO6.out) HG6.out (HB.out.bk.next false ls hok1 h255) HLB.out HLT.out⟩
          case measure => simp [intOf]; omega
        | true =>
          have hsz2 := hsz1
          have HPUT := Lib.hid (fun W (hM : Made W (w.heap.size + 1) w.heap.size tab) A2 c2 (ho2 : W.ownsRow (w.heap.size + 2) 5 1 (.slice A2 b.length c2) b.length (bs b)) => by
            obtain ⟨A3, c3, e3, hr3⟩ := own_rd ho2
            cases e3
            have := plain_two W _ _ _ _ (two_some (row_ok W _ _ hM.cell hM.ne tab hM.tbl A2 b.length c2 b hr3 (by omega) ls hok1 h255 (by omega) true))
            rw [← hls] at this
            exact this)
          obtain ⟨m3, hm3⟩ : ∃ m3, (b ++ (en true tab ls b.length).1).length = m3 := ⟨_, rfl⟩
          have hm4 : m3 = b.length + (en true tab ls b.length).1.length := by rw [← hm3, List.length_append]
          have hes1 := hes true
          have hel1 := hel true
          have hes2 := congrArg List.length (hes1.2.2 rfl)
          have HLB := Lib.hid (show (b ++ (en true tab ls b.length).1).length ≤ 255 * (N.length + 1) by omega)
          have HLT := Lib.hid (show (en true tab ls b.length).2.length ≤ 255 * (N.length + 1) by omega)
          have hA1 : ¬ (nm.size : Int) < (m3 : Int) - (b.length : Int) := by omega
          have hA2 : ¬ (m3 : Int) ≤ (b.length : Int) := by omega
          have hA3 : ((m3 : Int) - (b.length : Int) != (nm.size : Int)) = false := by simp; omega
          have hm5 : m3 ≤ 100000 := by omega
          have hm6 : b.length ≤ 100000 := by omega
          have HM3 := Lib.hid hm3
          clear hm3 hm4 hes1 hes2 hel1 hes hel hlb hlt2 hzz hls hgc
          go_wp2_with (first | (go_at_call 12; refine hck.mono ?_; clear hck; rintro e w1 ⟨rfl, hb1⟩; have HB1 := Lib.hid (HB.out.below hb1); have c1a := HC1.out w1 HB1.out.bel; have c2a := HC2.out w1 HB1.out.bel; clear hb1) | (go_at_call 14; refine (HPUT.out _ HB1.out.made _ _ (HB1.out.rb)).mono ?_; clear HPUT; rintro e w2 ⟨a2, b2, rfl, hs2⟩; obtain ⟨rfl, r2, m2, ra2, rn2, hbel2, top2⟩ := HB1.out.put true ls hok1 h255 hs2; clear hs2; obtain ⟨A2, c2, rfl, hr2⟩ := own_rd r2; rw [HM3.out]; have HQ2 := Lib.hid (And.intro r2 (And.intro m2 (And.intro ra2 (And.intro rn2 (And.intro hbel2 top2))))); clear r2 m2 ra2 rn2 top2 hr2; have c1b := HC1.out w2 hbel2; have c2b := HC2.out w2 hbel2; clear hbel2) | (go_at_call 19; refine (hsz1 w2).mono ?_; clear hsz1; rintro e w3 ⟨rfl, hb3⟩; have HQ3 := Lib.hid (kept6 HQ2.out hb3); have c1c := HC1.out w3 HQ3.out.2.2.2.2.1; have c2c := HC2.out w3 HQ3.out.2.2.2.2.1; clear hb3) | (go_at_call 19; refine (hsz2 w3).mono ?_; clear hsz2; rintro e w4 ⟨rfl, hb4⟩; have HQ4 := Lib.hid (kept6 HQ3.out hb4); have c1d := HC1.out w4 HQ4.out.2.2.2.2.1; have c2d := HC2.out w4 HQ4.out.2.2.2.2.1; clear hb4) | (at_builtin; refine wpList_app1 (w0 := w4) (w.heap.size + 2) rfl _ _ 35 3 (.int .i64 0) 8 rfl Try.underlying35 info_int rfl (by omega) (.slice Aa P.length ca) P.length (ints P) (.int .i64 (b.length : Int)) rfl (.own HQ4.out.2.2.1) rfl rfl (Below.refl _ _) HQ4.out.2.2.2.2.2 (by have := HLP.out; omega) ?_; intro v5 w5 ho5 hb5 hg5; have HG5 := Lib.hid hg5; have hbel5 : Below w.heap.size w w5 := HQ4.out.2.2.2.2.1.grown hg5 HQ4.out.2.2.2.2.1.size (fun k hk => by have := own_base HQ4.out.2.2.1 k hk; omega); have c1e := HC1.out w5 hbel5; have hrn5 := own_kept_other HQ4.out.2.2.2.1 HQ4.out.2.2.1 (by decide) hg5; have htop5 := Nat.le_trans HQ4.out.2.2.2.2.2 hg5.size; have HO5 := Lib.hid ho5; have HR5 := Lib.hid hrn5; clear hg5 hb5 ho5 hrn5) | (at_builtin; refine wpList_app1 (w0 := w5) (w.heap.size + 2) rfl _ _ 34 23 (.string ByteArray.empty) 16 rfl Try.underlying34 info_nm rfl (by omega) (.slice Am N.length cm) N.length (nms N) (.string nm) rfl (.own HR5.out) rfl rfl (Below.refl _ _) htop5 (by omega) ?_; intro v6 w6 ho6 hb6 hg6; have HO6 := Lib.hid ho6; have HG6 := Lib.hid hg6; clear ho6 hb6 hg6))
          go_roundw
          case rel => exact ⟨k + 1, N ++ [ls], P ++ [b.length], _, _, by go_num, by omega, by rw [List.length_append]; simp; omega, BkW.step HQ4.out.2.1 (HM3.out.symm ▸ HQ4.out.1) HQ4.out.2.2.1 HQ4.out.2.2.2.1 HQ4.out.2.2.2.2.1 HQ4.out.2.2.2.2.2 HO5.out HG5.out (HLS.out ▸ HO6.out) HG6.out (HB.out.bk.next true ls hok1 h255) HLB.out HLT.out⟩
          case measure => simp [intOf]; omega
    · have hge : decide ((k : Int) < (n : Int)) = false := by simp; omega
      have hlp := HB.out.bk.len
      have HLP := Lib.hid hlp
      have hlb := HB.out.lb
      have hpl : P.length ≤ 60 := by omega
      have hblen : b.length ≤ 100000 := by omega
      clear hlp hlb
      go_wp2_with (first | (at_builtin; refine wpList_app1 (w0 := wr) (w.heap.size + 2) rfl _ _ 35 3 (.int .i64 0) 8 rfl Try.underlying35 info_int rfl (by omega) (.slice Aa P.length ca) P.length (ints P) (.int .i64 (b.length : Int)) rfl (.own HB.out.rat) rfl rfl (Below.refl _ _) HB.out.top (by omega) ?_; intro v5 w5 ho5 hb5 hg5; have hbel5 : Below w.heap.size w w5 := HB.out.bel.grown hg5 HB.out.bel.size (fun k hk => by have := own_base HB.out.rat k hk; omega); have HRB5 := Lib.hid (own_kept_other HB.out.rb HB.out.rat (by decide) hg5); have HRN5 := Lib.hid (own_kept_other HB.out.rnm HB.out.rat (by decide) hg5); have HO5 := Lib.hid ho5; obtain ⟨A5, c5, rfl, hr5⟩ := own_rd ho5; clear hb5 ho5 hg5 hr5) | (at_builtin; refine wpList_app_nil w5 w5 w5.heap.size rfl _ _ 22 22 5 (.int .u8 0) 1 1 rfl Try.underlying22 info_u8 rfl (by omega) (by omega) rfl (.slice Ab b.length cb) b.length (bs b) rfl (.slice (rd_own HRB5.out) (bs_one _)) (Below.refl _ _) (Nat.le_refl _) (by omega) ?_; intro v6 w6 ho6 hb6 hg6; have HO6 := Lib.hid ho6; have hbel6 := hbel5.trans (hb6.mono hbel5.size); clear ho6 hg6) | (at_builtin; refine wpList_app_wide (w0 := w5) w6 w5.heap.size rfl _ _ 22 5 (.int .u8 0) 1 1 rfl Try.underlying22 info_u8 rfl (by omega) (by omega) v6 b.length (bs b) rfl HO6.out A' n' c' (bs l) rfl (HRL.out.below hbel6) (bs_one _) hb6 hb6.size (by omega) (by omega) ?_; intro v7 w7 ho7 hb7 hg7; obtain ⟨A7, c7, rfl, hr7⟩ := own_rd ho7; have hr7b : Rd w7 1 A7 (b.length + n') c7 (bs (b ++ l)) := (bs_app b l).symm ▸ hr7; have HR7 := Lib.hid hr7b; have HO57 := Lib.hid (own_below HO5.out hb7); have HRN7 := Lib.hid (own_below HRN5.out hb7); have hbel7 := hbel5.trans (hb7.mono hbel5.size); clear ho7 hr7 hr7b hg7))
      go_loopw [13] (fun i W => ∃ q : Nat, i = .int .i64 q ∧ q ≤ N.length ∧ Below w7.heap.size w7 W) (fun i _ => N.length - (intOf i).toNat)
      case atStart => exact ⟨0, rfl, Nat.zero_le _, Below.refl _ _⟩
      case round =>
        obtain ⟨q, rfl, hq, hb8⟩ := hrel
        by_cases hqn : q < N.length
        · have hq1 : (q : Int) < (N.length : Int) := by omega
          have hq0 : (0 : Int) ≤ (q : Int) := by omega
          have hqp : q < P.length := by have := HLP.out; omega
          have hqp1 : (q : Int) < (P.length : Int) + 1 := by omega
          have hqp2 : (0 : Int) ≤ (q : Int) + 1 := by omega
          obtain ⟨ls, hN⟩ : ∃ ls, N[q]? = some ls := ⟨_, List.getElem?_eq_getElem hqn⟩
          obtain ⟨p, hP⟩ : ∃ p, P[q]? = some p := ⟨_, List.getElem?_eq_getElem (by have := HLP.out; omega)⟩
          obtain ⟨e, hE⟩ : ∃ e, (P ++ [b.length])[q + 1]? = some e := ⟨_, List.getElem?_eq_getElem (by have := HLP.out; rw [List.length_append]; simp; omega)⟩
          obtain ⟨hsq, hpb⟩ := HB.out.bk.rd q ls p e hN hP hE
          have hls := (HB.out.bk.ok ls (List.mem_of_getElem? hN)).2
          have htk := (hsq.app l).take (by rw [List.length_append]; omega) hls
          have o5 := own_below HO57.out hb8
          have o5' : wr.ownsRow (w.heap.size + 2) 3 1 (.slice A5 (P.length + 1) c5) (P.length + 1) (ints (P ++ [b.length])) := by
            rw [ints, List.map_append]; exact o5
          obtain ⟨A9, c9, e9, r9⟩ := own_rd o5'
          cases e9
          obtain ⟨A10, c10, e10, r10⟩ := own_rd (own_below HRN7.out hb8)
          cases e10
          have x1 : (ints (P ++ [b.length]))[q]? = some (.int .i64 (p : Int)) := by
            rw [ints, List.getElem?_map, List.getElem?_append_left (List.getElem?_eq_some_iff.1 hP).1, hP]; rfl
          have x2 : (ints (P ++ [b.length]))[q + 1]? = some (.int .i64 (e : Int)) := by
            rw [ints, List.getElem?_map, hE]; rfl
          have x3 : (nms N)[q]? = some (.string (str (gl ls))) := by rw [nms, List.getElem?_map, hN]; rfl
          cases A5 with
          | none => have := (r9.nil_ rfl).1; omega
          | some a5 =>
          cases Am with
          | none => have := (r10.nil_ rfl).1; omega
          | some am =>
          have d1 := r9.cells a5 rfl q _ x1
          have d2 := r9.cells a5 rfl (q + 1) _ x2
          have d3 := r10.cells am rfl q _ x3
          have d2' := d2
          rw [Addr.add_succ'] at d2'
          have HTK := Lib.hid (fun W' A' c' hr' => take_ A' (b.length + n') c' (p : Int) (by omega) W' (b ++ l) hr')
          obtain ⟨nm, hnm⟩ : ∃ nm, str (gl ls) = nm := ⟨_, rfl⟩
          rw [hnm] at d3
          have HNM := Lib.hid hnm
          have HTE := Lib.hid htk
          have hr8 := HR7.out.below hb8
          have HR8 := Lib.hid hr8
          have C1 := Lib.hid (fun W' (hb' : Below wr.heap.size wr W') => (r9.below hb').cells a5 rfl q _ x1)
          have C2 := Lib.hid (fun W' (hb' : Below wr.heap.size wr W') => (r9.below hb').cells a5 rfl (q + 1) _ x2)
          have C3 := Lib.hid (fun W' (hb' : Below wr.heap.size wr W') => (hnm ▸ (r10.below hb').cells am rfl q _ x3 : W'.cell? (am.add q) = some (.string nm)))
          clear hN hP hE hsq hls htk o5 o5' r9 r10 x1 x2 x3 d2 d2' d3 hnm hr8
          go_wp2_with (go_at_call 9; refine (HTK.out _ _ _ HR8.out).mono ?_; clear HTK; rw [HTE.out]; rintro e1 w9 ⟨rfl, hb9⟩; simp only [HNM.out]; have k1 := C1.out w9 hb9; have k2 := C2.out w9 hb9; have k3 := C3.out w9 hb9; have k2' := k2; rw [Addr.add_succ'] at k2')
          go_roundw
          case rel => exact ⟨q + 1, by go_num, by omega, hb8.trans (hb9.mono hb8.size)⟩
          case measure => simp [intOf]; omega
        · have hgq : decide ((q : Int) < (N.length : Int)) = false := by simp; omega
          go_wp2_with (go_at_call 11; refine (wakes_ _).mono ?_; rintro e w11 ⟨rfl, hb11⟩)
          go_ret
          exact ⟨rfl, hbel7.trans ((hb8.trans (hb11.mono hb8.size)).mono hbel7.size)⟩
set_option maxRecDepth 8000 in
theorem pressBack_walk (w : World) (A : Option Addr) (n c : Nat) (X : List It) (A' : Option Addr) (n' c' : Nat) (l : List UInt8) (hX : Rd w 3 A n c (its X)) (hok : ∀ a ∈ X, a.ok) (hy : n < 9223372036854775808) (hr : Rd w 1 A' n' c' (bs l)) (hc : c' * 1 ≤ 140737488351232) :
    Calls Try.prog 8 #[.slice A n c, .slice A' n' c'] w fun e w' => e = .returned (.bool true) ∧ Below w.heap.size w w' := by
  by_cases hn : n ≤ 60
  · exact pressBack_core w A n c X A' n' c' l hX hok hn hr hc
  · have hn' : (60 : Int) < (n : Int) := by omega
    go_enter Try.func8, Try.ntmps8
    go_wp2_with (go_at_call 11; refine (wakes_ _).mono ?_; rintro e w7 ⟨rfl, hb7⟩)
    go_ret
    exact ⟨rfl, hb7⟩
end Go.Proofs.Ytobfahafpmipfaa
