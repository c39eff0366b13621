/- press.Take: contract, by a walk. -/
import Derived.Test.YtobfahafpmipfaaPB
import Derived.Test.YtobfahafpmipfaaHC
import Derived.Test.YtobfahafpmipfaaOW
namespace Go.Proofs.Ytobfahafpmipfaa
open Go.RowKit Go.HL
set_option linter.unusedVariables false
set_option linter.unusedSimpArgs false
/-- What reading a name tells, in at most so many steps: the name, the place behind it, the error. -/
def tk (l : List UInt8) : Nat → Nat → Nat → Nat → List UInt8 → List UInt8 × Int × Int
  | 0, _, _, _, _ => ([], 0, 0)
  | f + 1, p, nx, rr, out =>
    if l.length < p + 1 then ([], 0, 6)
    else if 192 ≤ (l.getD p 0).toNat then
      if l.length < p + 2 then ([], 0, 6)
      else if rr ≤ ((l.getD p 0).toNat * 256 + (l.getD (p + 1) 0).toNat) % 16384 then ([], 0, 30)
      else tk l f (((l.getD p 0).toNat * 256 + (l.getD (p + 1) 0).toNat) % 16384) (if nx = 0 then p + 2 else nx) (((l.getD p 0).toNat * 256 + (l.getD (p + 1) 0).toNat) % 16384) out
    else if 63 < (l.getD p 0).toNat then ([], 0, 31)
    else if l.length < p + 1 + (l.getD p 0).toNat then ([], 0, 6)
    else if 0 < (l.getD p 0).toNat ∧ 255 ≤ out.length + (l.getD p 0).toNat + 1 then ([], 0, 2)
    else if (l.getD p 0).toNat = 0 then (out ++ [0], ((if nx = 0 then p + 1 else nx : Nat) : Int), 0)
    else tk l f (p + 1 + (l.getD p 0).toNat) nx rr (out ++ (l.drop p).take (1 + (l.getD p 0).toNat))
def tkR (l : List UInt8) (i : Int) : List UInt8 × Int × Int :=
  if i < 0 ∨ (l.length : Int) < i then ([], 0, 1) else tk l (i.toNat * (l.length + 1) + (l.length - i.toNat) + 1) i.toNat 0 i.toNat []
theorem far_and (v : Int) (h0 : 0 ≤ v) (h1 : v < 65536) : bits .and .u16 v 16383 = v % 16384 :=
  bits_mask .u16 16 (by decide) (fun n a b => by
    have e : (2 : Int) ^ 16 = 65536 := by decide
    rw [e] at b; simp only [IntKind.wrap, IntKind.bits, IntKind.signed]; simp; omega) 14 (by decide) v h0 (by omega)
theorem bs_app (a b : List UInt8) : bs (a ++ b) = bs a ++ bs b := by simp [bs]
theorem mul_fall {q r n : Nat} (h : q + 1 ≤ r) (p : Nat) : q * (n + 1) + (n - q) < r * (n + 1) + (n - p) := by
  have h1 := Nat.mul_le_mul_right (n + 1) h
  rw [Nat.add_mul] at h1
  generalize q * (n + 1) = x at h1 ⊢
  generalize r * (n + 1) = y at h1 ⊢
  omega
/-- What holds of Take's loop. -/
def InvT (w : World) (n : Nat) (l : List UInt8) (R : List UInt8 × Int × Int) (a v b r : Value) (wr : World) : Prop :=
  ∃ (p nx rr f : Nat) (out : List UInt8), a = .int .i64 p ∧ b = .int .i64 nx ∧ r = .int .i64 rr ∧ p ≤ n ∧ rr ≤ n ∧ nx ≤ n ∧ out.length ≤ 254 ∧ wr.ownsRow w.heap.size 5 1 v out.length (bs out) ∧ Hid (rr * (n + 1) + (n - p) < f ∧ tk l f p nx rr out = R) ∧ Below w.heap.size w wr
def mesT (n : Nat) (a r : Value) : Nat := (intOf r).toNat * (n + 1) + (n - (intOf a).toNat)
theorem mesT_lt {n q r p a : Nat} (h : q + 1 ≤ r) : mesT n (.int .i64 a) (.int .i64 q) < mesT n (.int .i64 p) (.int .i64 r) := by
  have h1 := Nat.mul_le_mul_right (n + 1) h
  rw [Nat.add_mul] at h1
  unfold mesT intOf
  simp only [Int.toNat_natCast]
  generalize q * (n + 1) = x at h1 ⊢
  generalize r * (n + 1) = y at h1 ⊢
  omega
theorem mesT_lt2 {n r p a : Nat} (h : p < a) (h2 : a ≤ n) : mesT n (.int .i64 a) (.int .i64 r) < mesT n (.int .i64 p) (.int .i64 r) := by
  unfold mesT intOf
  simp only [Int.toNat_natCast]
  omega
set_option maxHeartbeats 4000000 in
set_option maxRecDepth 4000 in
theorem take_ (A : Option Addr) (n c : Nat) (i : Int) (hc : n ≤ 281474976710656) (w : World) (l : List UInt8) (hr : Rd w 1 A n c (bs l)) :
    Calls Try.prog 9 #[.slice A n c, .int .i64 i] w fun e w' => e = .returned (.tuple #[.string (str (tkR l i).1), .int .i64 (tkR l i).2.1, .int .i64 (tkR l i).2.2]) ∧ Below w.heap.size w w' := by
  have hl := hr.blen
  have hn := hr.le
  unfold tkR
  by_cases h : i < 0 ∨ (l.length : Int) < i
  · rw [if_pos h]
    go_enter Try.func9, Try.ntmps9
    go_wp2
    refine wp_loop_rounds 1 ?_
    rw [rounds_succ]
    go_wp2_with (go_at_call 21; refine (take8w_arg _ _ _ _ hn (by omega) (by omega) _).mono ?_; rintro e w' ⟨rfl, rfl⟩)
    go_ret3
    exact ⟨rfl, Below.refl _ _⟩
  rw [if_neg h]
  obtain ⟨j, rfl⟩ := Int.eq_ofNat_of_zero_le (show 0 ≤ i by omega)
  rw [Int.toNat_natCast]
  obtain ⟨R, hR⟩ : ∃ R, tk l (j * (l.length + 1) + (l.length - j) + 1) j 0 j [] = R := ⟨_, rfl⟩
  rw [hR]
  rw [hl] at hR
  have hj : j ≤ n := by omega
  have HR := Lib.hid hR
  have HRD := Lib.hid hr
  have HLL := Lib.hid hl
  clear h hR hr hl
  go_enter Try.func9, Try.ntmps9
  go_wp2
  go_loopw [1, 7, 8, 9] (fun a v b r wr => InvT w n l R a v b r wr) (fun a _ _ r _ => mesT n a r)
  case atStart => exact ⟨j, 0, j, _, [], rfl, rfl, rfl, hj, hj, Nat.zero_le _, by simp, World.ownsRow_nil _ _ _ _, Lib.hid ⟨Nat.lt_succ_self _, HR.out⟩, Below.refl _ _⟩
  case round =>
    obtain ⟨p, nx, rr, f, out, rfl, rfl, rfl, hp, hrr, hnx, hlo, ho, HF, hb⟩ := hrel
    obtain ⟨f, rfl⟩ : ∃ g, f = g + 1 := ⟨f - 1, by have := HF.out.1; omega⟩
    have HRW := Lib.hid (HRD.out.below hb)
    by_cases hs : n < p + 1
    · go_wp2_with (go_at_call 21; refine (take8w_short _ _ _ _ hn (by omega) (by omega) (by omega) (by omega) _).mono ?_; rintro e w' ⟨rfl, rfl⟩)
      go_ret3
      have h2 := HF.out.2
      simp only [tk] at h2
      rw [if_pos (by rw [HLL.out]; exact hs)] at h2
      rw [← h2]
      exact ⟨rfl, hb⟩
    obtain ⟨y, hy⟩ : ∃ y, (l.getD p 0).toNat = y := ⟨_, rfl⟩
    have hy2 : y < 256 := by rw [← hy]; exact (l.getD p 0).toNat_lt
    have hv1 := val_take1 l p (by rw [HLL.out]; omega)
    have HY := Lib.hid hy
    rw [hy] at hv1
    clear hy
    have HV1 := Lib.hid hv1
    clear hv1
    obtain ⟨A1, c1, rfl, hr1⟩ := own_rd ho
    have HR1 := Lib.hid hr1
    have hoc := hr1.le
    clear hr1
    have h2 := HF.out.2
    simp only [tk] at h2
    rw [if_neg (by rw [HLL.out]; exact hs), HY.out] at h2
    by_cases hk : 192 ≤ y
    · have hk' : (192 : Int) ≤ (y : Int) := by omega
      rw [if_pos hk] at h2
      by_cases hs2 : n < p + 2
      · rw [if_pos (by rw [HLL.out]; exact hs2)] at h2
        go_wp2_with (first | (go_at_call 21; refine (take8w_ok _ _ _ _ (by omega) (by omega) (by omega) _ l HRW.out).mono ?_; rintro e w' ⟨rfl, rfl⟩; simp only [Int.toNat_natCast]; rw [HV1.out]) | (go_at_call 22; refine (take16w_short _ _ _ _ hn (by omega) (by omega) (by omega) (by omega) _).mono ?_; rintro e w' ⟨rfl, rfl⟩))
        go_ret3
        rw [← h2]
        exact ⟨rfl, hb⟩
      · rw [if_neg (by rw [HLL.out]; exact hs2)] at h2
        obtain ⟨z, hz⟩ : ∃ z, (l.getD (p + 1) 0).toNat = z := ⟨_, rfl⟩
        have hz2 : z < 256 := by rw [← hz]; exact (l.getD (p + 1) 0).toNat_lt
        have hv2 := val_take2 l p (by rw [HLL.out]; omega)
        rw [HY.out, hz] at hv2
        rw [hz] at h2
        clear hz
        have HV2 := Lib.hid hv2
        have HFA := Lib.hid (far_and ((y : Int) * 256 + (z : Int)) (by omega) (by omega))
        obtain ⟨q, hq⟩ : ∃ q, (y * 256 + z) % 16384 = q := ⟨_, rfl⟩
        have hqi : ((y : Int) * 256 + (z : Int)) % 16384 = (q : Int) := by omega
        have hq3 : q < 16384 := by omega
        rw [hq] at h2
        rw [hqi] at HFA
        have HQ := Lib.hid hqi
        clear hq hqi hv2
        have hand := HFA.out
        by_cases hge : rr ≤ q
        · rw [if_pos hge] at h2
          have hge' : (rr : Int) ≤ (q : Int) := by omega
          go_wp2_with (first | (go_at_call 21; refine (take8w_ok _ _ _ _ (by omega) (by omega) (by omega) _ l HRW.out).mono ?_; rintro e w' ⟨rfl, rfl⟩; simp only [Int.toNat_natCast]; rw [HV1.out]) | (go_at_call 22; refine (take16w_ok _ _ _ _ (by omega) (by omega) (by omega) _ l HRW.out).mono ?_; rintro e w' ⟨rfl, rfl⟩; simp only [Int.toNat_natCast]; rw [HV2.out]))
          go_ret3
          rw [← h2]
          exact ⟨rfl, hb⟩
        · rw [if_neg hge] at h2
          have hge' : ¬ (rr : Int) ≤ (q : Int) := by omega
          by_cases hnx0 : nx = 0
          · subst hnx0
            rw [if_pos rfl] at h2
            have H2 := Lib.hid h2
            clear h2
            go_wp2_with (first | (go_at_call 21; refine (take8w_ok _ _ _ _ (by omega) (by omega) (by omega) _ l HRW.out).mono ?_; rintro e w' ⟨rfl, rfl⟩; simp only [Int.toNat_natCast]; rw [HV1.out]) | (go_at_call 22; refine (take16w_ok _ _ _ _ (by omega) (by omega) (by omega) _ l HRW.out).mono ?_; rintro e w' ⟨rfl, rfl⟩; simp only [Int.toNat_natCast]; rw [HV2.out]))
            go_roundw
            case rel => exact ⟨q, p + 2, q, f, out, by go_num, by go_num, by go_num, by omega, by omega, by omega, hlo, ho, Lib.hid ⟨by have := HF.out.1; have := mul_fall (n := n) (show q + 1 ≤ rr by omega) p; omega, H2.out⟩, hb⟩
            case measure => exact mesT_lt (by omega)
          · rw [if_neg hnx0] at h2
            have hnx1 : ((nx : Int) == 0) = false := by simp; omega
            have H2 := Lib.hid h2
            clear h2
            go_wp2_with (first | (go_at_call 21; refine (take8w_ok _ _ _ _ (by omega) (by omega) (by omega) _ l HRW.out).mono ?_; rintro e w' ⟨rfl, rfl⟩; simp only [Int.toNat_natCast]; rw [HV1.out]) | (go_at_call 22; refine (take16w_ok _ _ _ _ (by omega) (by omega) (by omega) _ l HRW.out).mono ?_; rintro e w' ⟨rfl, rfl⟩; simp only [Int.toNat_natCast]; rw [HV2.out]))
            go_roundw
            case rel => exact ⟨q, nx, q, f, out, by go_num, by go_num, by go_num, by omega, by omega, by omega, hlo, ho, Lib.hid ⟨by have := HF.out.1; have := mul_fall (n := n) (show q + 1 ≤ rr by omega) p; omega, H2.out⟩, hb⟩
            case measure => exact mesT_lt (by omega)
    have hk' : ¬ (192 : Int) ≤ (y : Int) := by omega
    rw [if_neg hk] at h2
    by_cases h63 : 63 < y
    · have h63' : (63 : Int) < (y : Int) := by omega
      rw [if_pos h63] at h2
      go_wp2_with (go_at_call 21; refine (take8w_ok _ _ _ _ (by omega) (by omega) (by omega) _ l HRW.out).mono ?_; rintro e w' ⟨rfl, rfl⟩; simp only [Int.toNat_natCast]; rw [HV1.out])
      go_ret3
      rw [← h2]
      exact ⟨rfl, hb⟩
    have h63' : ¬ (63 : Int) < (y : Int) := by omega
    rw [if_neg h63] at h2
    by_cases hsh : n < p + 1 + y
    · have hsh' : ((n : Int) - ((p : Int) + 1)) < (y : Int) := by omega
      rw [if_pos (by rw [HLL.out]; exact hsh)] at h2
      go_wp2_with (go_at_call 21; refine (take8w_ok _ _ _ _ (by omega) (by omega) (by omega) _ l HRW.out).mono ?_; rintro e w' ⟨rfl, rfl⟩; simp only [Int.toNat_natCast]; rw [HV1.out])
      go_ret3
      rw [← h2]
      exact ⟨rfl, hb⟩
    have hsh' : ¬ ((n : Int) - ((p : Int) + 1)) < (y : Int) := by omega
    rw [if_neg (by rw [HLL.out]; exact hsh)] at h2
    by_cases hlg : 0 < y ∧ 255 ≤ out.length + y + 1
    · have hlg1 : (0 : Int) < (y : Int) := by omega
      have hlg2 : (255 : Int) ≤ (out.length : Int) + (y : Int) + 1 := by omega
      rw [if_pos hlg] at h2
      go_wp2_with (go_at_call 21; refine (take8w_ok _ _ _ _ (by omega) (by omega) (by omega) _ l HRW.out).mono ?_; rintro e w' ⟨rfl, rfl⟩; simp only [Int.toNat_natCast]; rw [HV1.out])
      go_ret3
      rw [← h2]
      exact ⟨rfl, hb⟩
    rw [if_neg hlg] at h2
    have HCUT := Lib.hid (HRW.out.bcutO p (1 + y) c (by omega) (by omega) (Nat.le_refl _))
    by_cases hy0 : y = 0
    · subst hy0
      rw [if_pos rfl] at h2
      have hl1 : (l.drop p).take (1 + 0) = [0] := by
        have h0 : l.getD p 0 = 0 := UInt8.toNat_inj.1 (by simpa using HY.out)
        have := take_one l p 0 (by rw [HLL.out]; omega)
        rw [show l.getD (p + 0) 0 = 0 from h0] at this
        simpa using this
      rw [hl1] at HCUT
      clear hl1
      have HV0 := Lib.hid (show val (List.take 1 (List.drop p l)) = 0 from HV1.out)
      clear HV1
      have HV1 := HV0
      clear HV0 hk hk' h63 h63' hsh hsh' hlg hy2
      by_cases hnx0 : nx = 0
      · subst hnx0
        rw [if_pos rfl] at h2
        go_wp2_with (first | (go_at_call 21; refine (take8w_ok _ _ _ _ (by omega) (by omega) (by omega) _ l HRW.out).mono ?_; rintro e w' ⟨rfl, rfl⟩; simp only [Int.toNat_natCast]; rw [HV1.out]) | (refine wpList_cut rfl 22 5 (.tmp 28) (.tmp 29) (.tmp 33) rfl Try.underlying22 (size := 1) (by kernel_rfl) A n c rfl rfl rfl p (1 + 0) (by omega) (by omega) (by omega) ?_) | (at_builtin; refine wpList_app (w0 := w) wr w.heap.size rfl _ _ 22 22 5 (.int .u8 0) 1 1 rfl Try.underlying22 info_u8 rfl (by omega) (by omega) (.slice A1 out.length c1) out.length (bs out) rfl (.own ho) (.slice (cutS A p c 1) (1 + 0) (c - p)) (1 + 0) (bs [0]) rfl (.slice HCUT.out (bs_one _)) hb hb.size (by omega) ?_; intro v3 w3 _ ho3' hb3 hg3; have ho3 := ho3' (.inr ho); obtain ⟨A3, c3, rfl, hr3⟩ := own_rd ho3; have hr4 : Rd w3 1 A3 (out.length + (1 + 0)) c3 (bs (out ++ [0])) := (bs_app out [0]).symm ▸ hr3; have hcv := run_conv_str (P := Try.prog) w3 Try.underlying22 Try.underlying5 Try.underlying23 hr4))
        go_ret3
        rw [← h2]
        exact ⟨rfl, hb3⟩
      · rw [if_neg hnx0] at h2
        have hnx1 : ((nx : Int) == 0) = false := by simp; omega
        go_wp2_with (first | (go_at_call 21; refine (take8w_ok _ _ _ _ (by omega) (by omega) (by omega) _ l HRW.out).mono ?_; rintro e w' ⟨rfl, rfl⟩; simp only [Int.toNat_natCast]; rw [HV1.out]) | (refine wpList_cut rfl 22 5 (.tmp 28) (.tmp 29) (.tmp 33) rfl Try.underlying22 (size := 1) (by kernel_rfl) A n c rfl rfl rfl p (1 + 0) (by omega) (by omega) (by omega) ?_) | (at_builtin; refine wpList_app (w0 := w) wr w.heap.size rfl _ _ 22 22 5 (.int .u8 0) 1 1 rfl Try.underlying22 info_u8 rfl (by omega) (by omega) (.slice A1 out.length c1) out.length (bs out) rfl (.own ho) (.slice (cutS A p c 1) (1 + 0) (c - p)) (1 + 0) (bs [0]) rfl (.slice HCUT.out (bs_one _)) hb hb.size (by omega) ?_; intro v3 w3 _ ho3' hb3 hg3; have ho3 := ho3' (.inr ho); obtain ⟨A3, c3, rfl, hr3⟩ := own_rd ho3; have hr4 : Rd w3 1 A3 (out.length + (1 + 0)) c3 (bs (out ++ [0])) := (bs_app out [0]).symm ▸ hr3; have hcv := run_conv_str (P := Try.prog) w3 Try.underlying22 Try.underlying5 Try.underlying23 hr4))
        go_ret3
        rw [← h2]
        exact ⟨rfl, hb3⟩
    rw [if_neg hy0] at h2
    have hy1 : ((y : Int) == 0) = false := by simp; omega
    have hlg1 : (0 : Int) < (y : Int) := by omega
    have hlg2 : ¬ (255 : Int) ≤ (out.length : Int) + (y : Int) + 1 := by omega
    have H2 := Lib.hid h2
    clear h2
    go_wp2_with (first | (go_at_call 21; refine (take8w_ok _ _ _ _ (by omega) (by omega) (by omega) _ l HRW.out).mono ?_; rintro e w' ⟨rfl, rfl⟩; simp only [Int.toNat_natCast]; rw [HV1.out]) | (refine wpList_cut rfl 22 5 (.tmp 28) (.tmp 29) (.tmp 33) rfl Try.underlying22 (size := 1) (by kernel_rfl) A n c rfl rfl rfl p (1 + y) (by omega) (by omega) (by omega) ?_) | (at_builtin; refine wpList_app (w0 := w) wr w.heap.size rfl _ _ 22 22 5 (.int .u8 0) 1 1 rfl Try.underlying22 info_u8 rfl (by omega) (by omega) (.slice A1 out.length c1) out.length (bs out) rfl (.own ho) (.slice (cutS A p c 1) (1 + y) (c - p)) (1 + y) (bs ((l.drop p).take (1 + y))) rfl (.slice HCUT.out (bs_one _)) hb hb.size (by omega) ?_; intro v3 w3 _ ho3' hb3 hg3; have ho3 := ho3' (.inr ho)))
    have hlen2 : (out ++ (l.drop p).take (1 + y)).length = out.length + (1 + y) := by
      have := HLL.out
      rw [List.length_append, List.length_take, List.length_drop]; omega
    go_roundw
    case rel => exact ⟨p + 1 + y, nx, rr, f, out ++ (l.drop p).take (1 + y), by go_num, rfl, rfl, by omega, hrr, hnx, by omega, by rw [hlen2]; simpa [bs] using ho3, Lib.hid ⟨by have := HF.out.1; omega, H2.out⟩, hb3⟩
    case measure => refine Nat.lt_of_le_of_lt (Nat.le_of_eq (congr (congrArg (mesT n) (a₂ := .int .i64 ((p + 1 + y : Nat) : Int)) ?_) rfl)) (mesT_lt2 (n := n) (r := rr) (p := p) (a := p + 1 + y) (by omega) (by omega)); go_num
end Go.Proofs.Ytobfahafpmipfaa
