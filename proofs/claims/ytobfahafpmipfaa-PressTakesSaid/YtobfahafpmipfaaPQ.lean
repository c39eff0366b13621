/- hearsayref03.Take: contract, by a walk: the same as the code's; PressTakes. -/
import Derived.Test.YtobfahafpmipfaaPP
namespace Go.Proofs.Ytobfahafpmipfaa
open Go.RowKit Go.HL
set_option linter.unusedVariables false
set_option linter.unusedSimpArgs false
def InvQ (w : World) (n : Nat) (l : List UInt8) (R : List UInt8 × Int × Int) (a v s b r : Value) (wr : World) : Prop :=
  ∃ (p nx rr f : Nat) (pre : List (List UInt8)), a = .int .i64 p ∧ s = .int .i64 (1 + ((flat pre).length : Int)) ∧ b = .int .i64 (if nx = 0 then -1 else (nx : Int)) ∧ r = .int .i64 rr ∧ p ≤ n ∧ rr ≤ n ∧ nx ≤ n ∧ okL pre ∧ (flat pre).length ≤ 254 ∧ wr.ownsRow w.heap.size 9 1 v pre.length (strs pre) ∧ Hid (rr * (n + 1) + (n - p) < f ∧ tk l f p nx rr (flat pre) = R) ∧ Below w.heap.size w wr
theorem flat_count (ls : List (List UInt8)) : ls.length ≤ (flat ls).length := by
  induction ls with
  | nil => simp
  | cons x r ih => simp only [flat, List.flatMap_cons, List.length_append, List.length_cons] at ih ⊢; omega
set_option maxHeartbeats 4000000 in
set_option maxRecDepth 4000 in
theorem rtake_ (A : Option Addr) (n c : Nat) (i : Int) (hc : n ≤ 140737488355328) (w : World) (l : List UInt8) (hr : Rd w 1 A n c (bs l)) :
    Calls Try.prog 10 #[.slice A n c, .int .i64 i] w fun e w' => e = .returned (.tuple #[.string (str (tkR l i).1), .int .i64 (tkR l i).2.1, .int .i64 (tkR l i).2.2]) ∧ Below w.heap.size w w' := by
  have hl := hr.blen
  have hn := hr.le
  unfold tkR
  by_cases h0 : i < 0
  · rw [if_pos (.inl h0)]
    go_enter Try.func10, Try.ntmps10
    go_wp2
    go_ret3
    exact ⟨rfl, Below.refl _ _⟩
  by_cases h1 : (n : Int) < i
  · rw [if_pos (.inr (by rw [hl]; exact h1))]
    go_enter Try.func10, Try.ntmps10
    go_wp2
    go_ret3
    exact ⟨rfl, Below.refl _ _⟩
  rw [if_neg (by rw [hl]; omega)]
  obtain ⟨j, rfl⟩ := Int.eq_ofNat_of_zero_le (show 0 ≤ i by omega)
  rw [Int.toNat_natCast]
  obtain ⟨R, hR⟩ : ∃ R, tk l (j * (l.length + 1) + (l.length - j) + 1) j 0 j [] = R := ⟨_, rfl⟩
  rw [hR]
  rw [hl] at hR
  have hj : j ≤ n := by omega
  have h1' : ¬ (n : Int) < (j : Int) := h1
  have HR := Lib.hid hR
  have HRD := Lib.hid hr
  have HLL := Lib.hid hl
  clear h0 h1 hR hr hl
  go_enter Try.func10, Try.ntmps10
  go_wp2
  go_loopw [1, 7, 8, 9, 10] (fun a v s b r wr => InvQ w n l R a v s b r wr) (fun a _ _ _ r _ => mesT n a r)
  case atStart => exact ⟨j, 0, j, _, [], rfl, rfl, rfl, rfl, hj, hj, Nat.zero_le _, (fun x hx => by cases hx), by simp [flat], World.ownsRow_nil _ _ _ _, Lib.hid ⟨Nat.lt_succ_self _, HR.out⟩, Below.refl _ _⟩
  case round =>
    obtain ⟨p, nx, rr, f, pre, rfl, rfl, rfl, rfl, hp, hrr, hnx, hok, hlo, ho, HF, hb⟩ := hrel
    obtain ⟨f, rfl⟩ : ∃ g, f = g + 1 := ⟨f - 1, by have := HF.out.1; omega⟩
    have HRW := Lib.hid (HRD.out.below hb)
    have hcnt := flat_count pre
    obtain ⟨A1, c1, rfl, hr1⟩ := own_rd ho
    have HR1 := Lib.hid hr1
    clear hr1
    obtain ⟨fl, hfl⟩ : ∃ x, (flat pre).length = x := ⟨_, rfl⟩
    rw [hfl] at hlo hcnt ⊢
    have HFLN := Lib.hid hfl
    clear hfl
    obtain ⟨bh, hbh⟩ : ∃ bh : Int, (if nx = 0 then -1 else (nx : Int)) = bh := ⟨_, rfl⟩
    rw [hbh]
    have HBH := Lib.hid hbh
    clear hbh
    have h2 := HF.out.2
    simp only [tk] at h2
    by_cases hs : n < p + 1
    · have hs' : (n : Int) ≤ (p : Int) := by omega
      rw [if_pos (by rw [HLL.out]; exact hs)] at h2
      go_wp2
      go_ret3
      rw [← h2]
      exact ⟨rfl, hb⟩
    have hs' : ¬ (n : Int) ≤ (p : Int) := by omega
    cases A with
    | none => have := (HRD.out.nil_ rfl).1; omega
    | some ad =>
    obtain ⟨y, hy⟩ : ∃ y, (l.getD p 0).toNat = y := ⟨_, rfl⟩
    have hy2 : y < 256 := by rw [← hy]; exact (l.getD p 0).toNat_lt
    have c0 := HRW.out.at p (by omega)
    have HY := Lib.hid hy
    rw [hy] at c0
    clear hy
    rw [if_neg (by rw [HLL.out]; exact hs), HY.out] at h2
    by_cases hk : 192 ≤ y
    · have hk' : (192 : Int) ≤ (y : Int) := by omega
      have hk0 : ((y : Int) == 0) = false := by simp; omega
      rw [if_pos hk] at h2
      by_cases hs2 : n < p + 2
      · have hs2' : (n : Int) ≤ (p : Int) + 1 := by omega
        rw [if_pos (by rw [HLL.out]; exact hs2)] at h2
        go_wp2
        go_ret3
        rw [← h2]
        exact ⟨rfl, hb⟩
      · have hs2' : ¬ (n : Int) ≤ (p : Int) + 1 := by omega
        rw [if_neg (by rw [HLL.out]; exact hs2)] at h2
        obtain ⟨z, hz⟩ : ∃ z, (l.getD (p + 1) 0).toNat = z := ⟨_, rfl⟩
        have hz2 : z < 256 := by rw [← hz]; exact (l.getD (p + 1) 0).toNat_lt
        have c1 := HRW.out.at (p + 1) (by omega)
        rw [hz] at c1 h2
        have c1' := c1
        rw [Addr.add_succ'] at c1'
        clear hz
        obtain ⟨q, hq⟩ : ∃ q, (y * 256 + z) % 16384 = q := ⟨_, rfl⟩
        have hqi : ((y : Int) - 192) * 256 + (z : Int) = (q : Int) := by omega
        have hq3 : q < 16384 := by omega
        rw [hq] at h2
        clear hq
        by_cases hge : rr ≤ q
        · rw [if_pos hge] at h2
          have hge' : (rr : Int) ≤ ((y : Int) - 192) * 256 + (z : Int) := by omega
          by_cases hnx0 : nx = 0
          · have hbh := HBH.out
            rw [if_pos hnx0] at hbh
            subst hbh
            go_wp2
            go_ret3
            rw [← h2]
            exact ⟨rfl, hb⟩
          · have hbh := HBH.out
            rw [if_neg hnx0] at hbh
            subst hbh
            have hnx1 : ¬ (nx : Int) < 0 := by omega
            go_wp2
            go_ret3
            rw [← h2]
            exact ⟨rfl, hb⟩
        · rw [if_neg hge] at h2
          have hge' : ¬ (rr : Int) ≤ ((y : Int) - 192) * 256 + (z : Int) := by omega
          have hmm := mul_fall (n := n) (show q + 1 ≤ rr by omega) p
          have HMM := Lib.hid hmm
          clear hmm
          have H2 := Lib.hid h2
          clear h2
          have HQI := Lib.hid hqi
          clear hqi
          by_cases hnx0 : nx = 0
          · have hbh := HBH.out
            rw [if_pos hnx0] at hbh
            subst hbh
            go_wp2
            go_roundw
            case rel => exact ⟨q, p + 2, q, f, pre, by rw [← HQI.out], by rw [HFLN.out], by rw [if_neg (by omega)]; go_num, by rw [← HQI.out], by omega, by omega, by omega, hok, by rw [HFLN.out]; exact hlo, ho, Lib.hid ⟨by have := HF.out.1; have := HMM.out; omega, by have := H2.out; rwa [if_pos hnx0] at this⟩, hb⟩
            case measure => refine Nat.lt_of_le_of_lt (Nat.le_of_eq (congr (congrArg (mesT n) (a₂ := .int .i64 (q : Int)) ?_) (a₂ := .int .i64 (q : Int)) ?_)) (mesT_lt (n := n) (q := q) (r := rr) (p := p) (a := q) (by omega)) <;> (rw [← HQI.out]; try go_num)
          · have hbh := HBH.out
            rw [if_neg hnx0] at hbh
            subst hbh
            have hnx1 : ¬ (nx : Int) < 0 := by omega
            go_wp2
            go_roundw
            case rel => exact ⟨q, nx, q, f, pre, by rw [← HQI.out], by rw [HFLN.out], by rw [if_neg hnx0], by rw [← HQI.out], by omega, by omega, by omega, hok, by rw [HFLN.out]; exact hlo, ho, Lib.hid ⟨by have := HF.out.1; have := HMM.out; omega, by have := H2.out; rwa [if_neg hnx0] at this⟩, hb⟩
            case measure => refine Nat.lt_of_le_of_lt (Nat.le_of_eq (congr (congrArg (mesT n) (a₂ := .int .i64 (q : Int)) ?_) (a₂ := .int .i64 (q : Int)) ?_)) (mesT_lt (n := n) (q := q) (r := rr) (p := p) (a := q) (by omega)) <;> (rw [← HQI.out]; try go_num)
    have hk' : ¬ (192 : Int) ≤ (y : Int) := by omega
    rw [if_neg hk] at h2
    by_cases h63 : 63 < y
    · have h63' : (64 : Int) ≤ (y : Int) := by omega
      have hk0 : ((y : Int) == 0) = false := by simp; omega
      rw [if_pos h63] at h2
      go_wp2
      go_ret3
      rw [← h2]
      exact ⟨rfl, hb⟩
    have h63' : ¬ (64 : Int) ≤ (y : Int) := by omega
    rw [if_neg h63] at h2
    by_cases hsh : n < p + 1 + y
    · have hsh' : (n : Int) - (p : Int) - 1 < (y : Int) := by omega
      have hk0 : ((y : Int) == 0) = false := by simp; omega
      rw [if_pos (by rw [HLL.out]; exact hsh)] at h2
      go_wp2
      go_ret3
      rw [← h2]
      exact ⟨rfl, hb⟩
    have hsh' : ¬ ((n : Int) - (p : Int) - 1) < (y : Int) := by omega
    rw [if_neg (by rw [HLL.out]; exact hsh), HFLN.out] at h2
    by_cases hlg : 0 < y ∧ 255 ≤ fl + y + 1
    · have hlg2 : (255 : Int) < 1 + (fl : Int) + 1 + (y : Int) := by omega
      have hk0 : ((y : Int) == 0) = false := by simp; omega
      rw [if_pos hlg] at h2
      go_wp2
      go_ret3
      rw [← h2]
      exact ⟨rfl, hb⟩
    rw [if_neg hlg] at h2
    by_cases hy0 : y = 0
    · subst hy0
      rw [if_pos rfl] at h2
      have c0' : wr.cell? (ad.add p) = some (.int .u8 0) := c0
      clear c0 hk hk' h63 h63' hsh hsh' hlg hy2
      have h255 : (gl pre).length ≤ 255 := by rw [gl_flat, List.length_append, HFLN.out]; simp; omega
      by_cases hnx0 : nx = 0
      · rw [if_pos hnx0] at h2
        have hbh := HBH.out
        rw [if_pos hnx0] at hbh
        subst hbh
        go_wp2_with (go_at_call 23; refine (glue_ _ _ _ _ _ HR1.out hok h255).mono ?_; rintro e w3 ⟨rfl, hb3⟩)
        go_ret3
        rw [← h2]
        exact ⟨rfl, hb.trans (hb3.mono hb.size)⟩
      · rw [if_neg hnx0] at h2
        have hbh := HBH.out
        rw [if_neg hnx0] at hbh
        subst hbh
        have hnx1 : ¬ (nx : Int) < 0 := by omega
        go_wp2_with (go_at_call 23; refine (glue_ _ _ _ _ _ HR1.out hok h255).mono ?_; rintro e w3 ⟨rfl, hb3⟩)
        go_ret3
        rw [← h2]
        exact ⟨rfl, hb.trans (hb3.mono hb.size)⟩
    rw [if_neg hy0] at h2
    have hk0 : ((y : Int) == 0) = false := by simp; omega
    have hlg2 : ¬ (255 : Int) < 1 + (fl : Int) + 1 + (y : Int) := by omega
    have hpc := piece l p y HY.out (by rw [HLL.out]; omega)
    have hxl : ((l.drop (p + 1)).take y).length = y := by have := HLL.out; rw [List.length_take, List.length_drop]; omega
    rw [hpc, ← flat_snoc] at h2
    have hcut := HRW.out.bcutO (p + 1) y c (by omega) (by omega) (Nat.le_refl _)
    have hcv := run_conv_str (P := Try.prog) (dst := 9) wr Try.underlying22 Try.underlying5 Try.underlying9 hcut
    obtain ⟨x, hx⟩ : ∃ x, (l.drop (p + 1)).take y = x := ⟨_, rfl⟩
    rw [hx] at h2 hxl hcv
    have H2 := Lib.hid h2
    have HXL := Lib.hid hxl
    have HCV := Lib.hid hcv
    clear h2 hcut hpc hx hxl hcv
    have happ : App wr w.heap.size 9 1 (.slice A1 pre.length c1) pre.length (strs pre) := .own ho
    have hcv := HCV.out
    go_wp2_with (first | (refine wpList_cut rfl 22 5 (.tmp 82) (.tmp 84) (.tmp 88) rfl Try.underlying22 (size := 1) (by kernel_rfl) (some ad) n c rfl rfl rfl (p + 1) y (by omega) (by omega) (by omega) ?_) | (at_builtin; refine wpList_app1 (w0 := w) w.heap.size rfl _ _ 52 9 (.string ByteArray.empty) 16 rfl Try.underlying52 info_str rfl (by omega) (.slice A1 pre.length c1) pre.length (strs pre) (.string (str x)) rfl happ rfl rfl hb hb.size (by omega) ?_; intro v1 w1 ho1 hb1 hg1))
    go_roundw
    case rel => exact ⟨p + 1 + y, nx, rr, f, pre ++ [x], by go_num, by rw [flat_snoc, List.length_append, List.length_cons, HXL.out, HFLN.out]; go_num, by rw [HBH.out], rfl, by omega, hrr, hnx, okL_snoc hok (by rw [HXL.out]; omega) (by rw [HXL.out]; omega), by rw [flat_snoc, List.length_append, List.length_cons, HXL.out, HFLN.out]; omega, by rw [strs_snoc, List.length_append]; exact ho1, Lib.hid ⟨by have := HF.out.1; omega, H2.out⟩, hb1⟩
    case measure => refine Nat.lt_of_le_of_lt (Nat.le_of_eq (congr (congrArg (mesT n) (a₂ := .int .i64 ((p + 1 + y : Nat) : Int)) ?_) rfl)) (mesT_lt2 (n := n) (r := rr) (p := p) (a := p + 1 + y) (by omega) (by omega)); go_num
set_option maxHeartbeats 1000000 in
theorem pressTakes_walk (w : World) (A : Option Addr) (n c : Nat) (l : List UInt8) (i : Int) (hr : Rd w 1 A n c (bs l)) (hc : c * 1 ≤ 140737488351232) (hi0 : -9223372036854775808 ≤ i) (hi1 : i ≤ 9223372036854775807) :
    Calls Try.prog 3 #[.slice A n c, .int .i64 i] w fun e w' => e = .returned (.bool true) ∧ Below w.heap.size w w' := by
  have hl := hr.blen
  have hn := hr.le
  have htk := fun W A' c' hr' => take_ A' n c' i (by omega) W l hr'
  have hrt := fun W hr' => rtake_ A n c i (by omega) W l hr'
  obtain ⟨R, hR⟩ : ∃ R, tkR l i = R := ⟨_, rfl⟩
  rw [hR] at htk hrt
  obtain ⟨m, nx, er⟩ := R
  simp only at htk hrt
  have HTK := Lib.hid htk
  have HRT := Lib.hid hrt
  clear hR htk hrt
  go_enter Try.func3, Try.ntmps3
  go_wp2_with (first | (at_builtin; refine wpList_app_nil w w w.heap.size rfl _ _ 22 22 5 (.int .u8 0) 1 1 rfl Try.underlying22 info_u8 rfl (by omega) (by omega) rfl _ n (bs l) rfl (.slice hr (bs_one _)) (Below.refl _ _) (Nat.le_refl _) (by omega) ?_; intro v1 w1 ho1 hb1 hg1; obtain ⟨A1, c1, rfl, hr1⟩ := own_rd ho1) | (go_at_call 9; refine (HTK.out _ _ _ hr1).mono ?_; clear HTK; rintro e w2 ⟨rfl, hb2⟩) | (go_at_call 10; refine (HRT.out _ ((hr.below hb1).below hb2)).mono ?_; clear HRT; rintro e w3 ⟨rfl, hb3⟩) | (go_at_call 11; refine (wakes_ _).mono ?_; rintro e w5 ⟨rfl, hb5⟩))
  go_ret
  have z1 := hb1.size
  have z2 := hb2.size
  have z3 := hb3.size
  exact ⟨rfl, hb1.trans ((hb2.mono (by omega)).trans ((hb3.mono (by omega)).trans (hb5.mono (by omega))))⟩
end Go.Proofs.Ytobfahafpmipfaa
