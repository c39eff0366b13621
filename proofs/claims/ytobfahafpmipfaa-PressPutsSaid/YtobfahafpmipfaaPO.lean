/- What is read by Take is a name: the plain law; PressSound, by a walk. -/
import Derived.Test.YtobfahafpmipfaaPM
import Derived.Test.YtobfahafpmipfaaPL
import Derived.Test.YtobfahafpmipfaaHR
namespace Go.Proofs.Ytobfahafpmipfaa
open Go.RowKit Go.HL
set_option linter.unusedVariables false
set_option linter.unusedSimpArgs false
/-- Labels as bytes, without the end. -/
def flat (ls : List (List UInt8)) : List UInt8 := ls.flatMap fun x => UInt8.ofNat x.length :: x
theorem gl_flat (ls : List (List UInt8)) : gl ls = flat ls ++ [0] := rfl
theorem flat_snoc (ls : List (List UInt8)) (x : List UInt8) : flat (ls ++ [x]) = flat ls ++ UInt8.ofNat x.length :: x := by simp [flat]
theorem okL_snoc {ls : List (List UInt8)} {x : List UInt8} (h : okL ls) (h1 : 1 ≤ x.length) (h2 : x.length ≤ 63) : okL (ls ++ [x]) := fun y hy => by
  rcases List.mem_append.1 hy with h3 | h3
  · exact h y h3
  · rw [List.mem_singleton.1 h3]; exact ⟨h1, h2⟩
theorem piece (l : List UInt8) (p k : Nat) (hk : (l.getD p 0).toNat = k) (h : p + 1 + k ≤ l.length) : (l.drop p).take (1 + k) = UInt8.ofNat ((l.drop (p + 1)).take k).length :: (l.drop (p + 1)).take k := by
  have h1 : p < l.length := by omega
  have e : ((l.drop (p + 1)).take k).length = k := by rw [List.length_take, List.length_drop]; omega
  rw [e, List.drop_eq_getElem_cons h1, Nat.add_comm 1 k, List.take_succ_cons]
  congr 1
  rw [← hk, List.getD_eq_getElem?_getD, List.getElem?_eq_getElem h1]
  simp
/-- What Take's walk tells. -/
def Told (l : List UInt8) (i : Nat) (r : List UInt8 × Int × Int) : Prop :=
  (r.2.2 ≠ 0 ∧ r.1 = [] ∧ r.2.1 = 0) ∨ (r.2.2 = 0 ∧ ∃ ls, r.1 = gl ls ∧ okL ls ∧ (gl ls).length ≤ 255 ∧ (i : Int) < r.2.1 ∧ r.2.1 ≤ l.length)
theorem tk_told (l : List UInt8) (i : Nat) : ∀ (f p nx rr : Nat) (pre : List (List UInt8)), rr * (l.length + 1) + (l.length - p) < f → okL pre → (flat pre).length ≤ 254 → (nx = 0 → i ≤ p) → (nx ≠ 0 → i < nx ∧ nx ≤ l.length) → p ≤ l.length → Told l i (tk l f p nx rr (flat pre)) := by
  intro f
  induction f with
  | zero => intro p nx rr pre h; omega
  | succ f ih =>
    intro p nx rr pre hf hok hlen hn0 hn1 hp
    rw [tk]
    by_cases h1 : l.length < p + 1
    · rw [if_pos h1]; exact .inl ⟨by decide, rfl, rfl⟩
    rw [if_neg h1]
    by_cases h2 : 192 ≤ (l.getD p 0).toNat
    · rw [if_pos h2]
      by_cases h3 : l.length < p + 2
      · rw [if_pos h3]; exact .inl ⟨by decide, rfl, rfl⟩
      rw [if_neg h3]
      by_cases h4 : rr ≤ ((l.getD p 0).toNat * 256 + (l.getD (p + 1) 0).toNat) % 16384
      · rw [if_pos h4]; exact .inl ⟨by decide, rfl, rfl⟩
      rw [if_neg h4]
      generalize ((l.getD p 0).toNat * 256 + (l.getD (p + 1) 0).toNat) % 16384 = q at h4 ⊢
      have hm := mul_fall (n := l.length) (show q + 1 ≤ rr by omega) p
      by_cases h5 : nx = 0
      · rw [if_pos h5]
        by_cases h6 : q ≤ l.length
        · exact ih q (p + 2) q pre (by omega) hok hlen (by omega) (by have := hn0 h5; omega) h6
        · cases f with
          | zero => omega
          | succ f => rw [tk, if_pos (by omega)]; exact .inl ⟨by decide, rfl, rfl⟩
      · rw [if_neg h5]
        by_cases h6 : q ≤ l.length
        · exact ih q nx q pre (by omega) hok hlen (by omega) (by have := hn1 h5; omega) h6
        · cases f with
          | zero => omega
          | succ f => rw [tk, if_pos (by omega)]; exact .inl ⟨by decide, rfl, rfl⟩
    rw [if_neg h2]
    by_cases h3 : 63 < (l.getD p 0).toNat
    · rw [if_pos h3]; exact .inl ⟨by decide, rfl, rfl⟩
    rw [if_neg h3]
    by_cases h4 : l.length < p + 1 + (l.getD p 0).toNat
    · rw [if_pos h4]; exact .inl ⟨by decide, rfl, rfl⟩
    rw [if_neg h4]
    by_cases h5 : 0 < (l.getD p 0).toNat ∧ 255 ≤ (flat pre).length + (l.getD p 0).toNat + 1
    · rw [if_pos h5]; exact .inl ⟨by decide, rfl, rfl⟩
    rw [if_neg h5]
    by_cases h6 : (l.getD p 0).toNat = 0
    · rw [if_pos h6]
      refine .inr ⟨rfl, pre, rfl, hok, by rw [gl_flat, List.length_append]; simp; omega, ?_, ?_⟩
      · by_cases h7 : nx = 0
        · rw [if_pos h7]; have := hn0 h7; simp only; omega
        · rw [if_neg h7]; have := hn1 h7; simp only; omega
      · by_cases h7 : nx = 0
        · rw [if_pos h7]; have := hn0 h7; simp only; omega
        · rw [if_neg h7]; have := hn1 h7; simp only; omega
    rw [if_neg h6, piece l p _ rfl (by omega), ← flat_snoc]
    have e : ((l.drop (p + 1)).take (l.getD p 0).toNat).length = (l.getD p 0).toNat := by rw [List.length_take, List.length_drop]; omega
    exact ih _ nx rr _ (by omega) (okL_snoc hok (by omega) (by omega)) (by rw [flat_snoc, List.length_append, List.length_cons, e]; omega) (by intro h; have := hn0 h; omega) hn1 (by omega)
theorem tkR_told (l : List UInt8) (i : Int) : ((tkR l i).2.2 ≠ 0 ∧ (tkR l i).1 = [] ∧ (tkR l i).2.1 = 0) ∨ ((tkR l i).2.2 = 0 ∧ isNm (str (tkR l i).1) = true ∧ i < (tkR l i).2.1 ∧ (tkR l i).2.1 ≤ l.length) := by
  unfold tkR
  by_cases h : i < 0 ∨ (l.length : Int) < i
  · rw [if_pos h]; exact .inl ⟨by decide, rfl, rfl⟩
  rw [if_neg h]
  obtain ⟨j, rfl⟩ := Int.eq_ofNat_of_zero_le (show 0 ≤ i by omega)
  rw [Int.toNat_natCast]
  have := tk_told l j (j * (l.length + 1) + (l.length - j) + 1) j 0 j [] (by omega) (fun x hx => by cases hx) (by simp [flat]) (fun _ => Nat.le_refl _) (by omega) (by omega)
  rcases this with h1 | ⟨h1, ls, h2, h3, h4, h5, h6⟩
  · exact .inl h1
  · refine .inr ⟨h1, ?_, h5, h6⟩
    show isNm (str (tk l _ j 0 j []).1) = true
    rw [show (tk l (j * (l.length + 1) + (l.length - j) + 1) j 0 j []).1 = gl ls from h2, isNm_gl h3]
    exact decide_eq_true h4
set_option maxHeartbeats 1000000 in
theorem pressSound_walk (w : World) (A : Option Addr) (n c : Nat) (l : List UInt8) (i : Int) (hr : Rd w 1 A n c (bs l)) (hc : c * 1 ≤ 140737488351232) (hi0 : -9223372036854775808 ≤ i) (hi1 : i ≤ 9223372036854775807) :
    Calls Try.prog 4 #[.slice A n c, .int .i64 i] w fun e w' => e = .returned (.bool true) ∧ Below w.heap.size w w' := by
  have hl := hr.blen
  have hn := hr.le
  have htk := fun W A' c' hr' => take_ A' n c' i (by omega) W l hr'
  have ht := tkR_told l i
  obtain ⟨R, hR⟩ : ∃ R, tkR l i = R := ⟨_, rfl⟩
  rw [hR] at htk ht
  obtain ⟨m, nx, er⟩ := R
  simp only at htk ht
  have HTK := Lib.hid htk
  clear hR htk
  rcases ht with ⟨h1, rfl, rfl⟩ | ⟨rfl, h2, h3, h4⟩
  · have h1' : (er != 0) = true := by simpa using h1
    go_enter Try.func4, Try.ntmps4
    go_wp2_with (first | (at_builtin; refine wpList_app_nil w w w.heap.size rfl _ _ 22 22 5 (.int .u8 0) 1 1 rfl Try.underlying22 info_u8 rfl (by omega) (by omega) rfl _ n (bs l) rfl (.slice hr (bs_one _)) (Below.refl _ _) (Nat.le_refl _) (by omega) ?_; intro v1 w1 ho1 hb1 hg1; obtain ⟨A1, c1, rfl, hr1⟩ := own_rd ho1) | (go_at_call 9; refine (HTK.out _ _ _ hr1).mono ?_; clear HTK; rintro e w2 ⟨rfl, hb2⟩) | (go_at_call 11; refine (wakes_ _).mono ?_; rintro e w5 ⟨rfl, hb5⟩))
    go_ret
    have z1 := hb1.size
    have z2 := hb2.size
    exact ⟨rfl, hb1.trans ((hb2.mono (by omega)).trans (hb5.mono (by omega)))⟩
  · have hck := fun W => check_ W (str m) (by unfold isNm at h2; simp at h2; omega)
    rw [h2] at hck
    have h4' : nx ≤ (n : Int) := by omega
    clear h2
    go_enter Try.func4, Try.ntmps4
    go_wp2_with (first | (at_builtin; refine wpList_app_nil w w w.heap.size rfl _ _ 22 22 5 (.int .u8 0) 1 1 rfl Try.underlying22 info_u8 rfl (by omega) (by omega) rfl _ n (bs l) rfl (.slice hr (bs_one _)) (Below.refl _ _) (Nat.le_refl _) (by omega) ?_; intro v1 w1 ho1 hb1 hg1; obtain ⟨A1, c1, rfl, hr1⟩ := own_rd ho1) | (go_at_call 9; refine (HTK.out _ _ _ hr1).mono ?_; clear HTK; rintro e w2 ⟨rfl, hb2⟩) | (go_at_call 12; refine (hck _).mono ?_; clear hck; rintro e w3 ⟨rfl, hb3⟩) | (go_at_call 11; refine (wakes_ _).mono ?_; rintro e w5 ⟨rfl, hb5⟩))
    go_ret
    have z1 := hb1.size
    have z2 := hb2.size
    have z3 := hb3.size
    exact ⟨rfl, hb1.trans ((hb2.mono (by omega)).trans ((hb3.mono (by omega)).trans (hb5.mono (by omega))))⟩
end Go.Proofs.Ytobfahafpmipfaa
