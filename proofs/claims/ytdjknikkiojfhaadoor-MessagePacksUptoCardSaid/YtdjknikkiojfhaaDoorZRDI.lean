import Derived.Test.YtdjknikkiojfhaaDoorZPS
/- The document's Check of data. -/
namespace Go.Proofs.YtdjknikkiojfhaaDoor
open Go.RowKit Go.HL Go.Maps
set_option linter.unusedVariables false
set_option linter.unusedSimpArgs false
structure Dk (W : World) (b : Nat) (d : Dt) (wr : World) : Prop where
  D : Blk wr b 44 d.cells
  B : Below b W wr
theorem Dk.below {W wr w' : World} {b : Nat} {d : Dt} (h : Dk W b d wr) (k : Below wr.heap.size wr w') : Dk W b d w' := ⟨h.D.below k, h.B.trans (k.mono (by have := h.D.lt; omega))⟩
theorem okN_iff (t : Int) (d : Dt) : okN t d = true ↔ ∀ j, j < 5 → nOk t d j = true := by
  constructor
  · intro h j hj
    simp only [okN, Bool.and_eq_true] at h
    rcases j with _ | _ | _ | _ | _ | j
    · exact h.1.1.1.1
    · exact h.1.1.1.2
    · exact h.1.1.2
    · exact h.1.2
    · exact h.2
    · omega
  · intro h
    simp only [okN, Bool.and_eq_true]
    exact ⟨⟨⟨⟨h 0 (by omega), h 1 (by omega)⟩, h 2 (by omega)⟩, h 3 (by omega)⟩, h 4 (by omega)⟩
theorem okN_false {t : Int} {d : Dt} {j : Nat} (hj : j < 5) (h : nOk t d j = false) : okN t d = false := by
  cases e : okN t d with
  | false => rfl
  | true => have := (okN_iff t d).1 e j hj; rw [h] at this; cases this
set_option maxRecDepth 100000 in
set_option maxHeartbeats 16000000 in
theorem rcheck_ (W : World) (t : Int) (d : Dt) (hz1 : d.host.size ≤ 140737488355328) (hz2 : d.mail.size ≤ 140737488355328) (hz3 : d.raw.size ≤ 100000000) :
    Calls Tryd.prog 45 #[.int .u16 t, d.val] W fun e W' => e = .returned (.int .i64 (if okR t d then 0 else 40)) ∧ Below W.heap.size W W' := by
  have hD1 : Dk W W.heap.size d (W.alloc (.cells d.cells.toArray 44)) := ⟨Blk.new W _ _, below_new W _⟩
  obtain ⟨W1, hW1⟩ : ∃ x, W.alloc (.cells d.cells.toArray 44) = x := ⟨_, rfl⟩
  rw [hW1] at hD1
  unfold Dt.cells at hW1
  obtain ⟨b, hb⟩ : ∃ x, W.heap.size = x := ⟨_, rfl⟩
  rw [hb] at hD1 ⊢
  have d0 := hD1.D.cell 0 _ rfl
  have hnm := fun W => names_ W t
  have hnu := fun W => numbers_ W t
  have hrw := fun W => raw_ W t d.raw hz3
  have hi1 := fun W => is_ W d.host hz1
  have hi2 := fun W => is_ W d.mail hz2
  have hok : okR t d = (rawT t d.raw && (hostT t == isNm d.host) && (hostT t || d.host.toList.isEmpty) && ((t == 6) == isNm d.mail) && ((t == 6) || d.mail.toList.isEmpty) && okN t d) := rfl
  obtain ⟨n, bits, hnb⟩ : ∃ n bits, numT t = (n, bits) := ⟨_, _, rfl⟩
  have hnk : ∀ k, nOk t d k = !((decide (n ≤ (k : Int)) && !(d.getN k == 0)) || (decide ((k : Int) < n) && (bits == 16) && decide (65535 < d.getN k))) := fun k => by unfold nOk; rw [hnb]
  rw [hnb] at hnu
  obtain ⟨R, hR⟩ : ∃ x, rawT t d.raw = x := ⟨_, rfl⟩
  obtain ⟨H, hH⟩ : ∃ x, hostT t = x := ⟨_, rfl⟩
  obtain ⟨M, hM⟩ : ∃ x, (t == 6) = x := ⟨_, rfl⟩
  obtain ⟨nh, hnh⟩ : ∃ x, isNm d.host = x := ⟨_, rfl⟩
  obtain ⟨nm, hnmm⟩ : ∃ x, isNm d.mail = x := ⟨_, rfl⟩
  obtain ⟨eh, heh⟩ : ∃ x, d.host.toList.isEmpty = x := ⟨_, rfl⟩
  obtain ⟨em, hem⟩ : ∃ x, d.mail.toList.isEmpty = x := ⟨_, rfl⟩
  rw [hR, hH, hM, hnh, hnmm, heh, hem] at hok
  rw [hH, hM] at hnm
  rw [hR] at hrw
  rw [hnh] at hi1
  rw [hnmm] at hi2
  obtain ⟨Z, hZ⟩ : ∃ x, (if okR t d = true then (0 : Int) else 40) = x := ⟨_, rfl⟩
  rw [hZ]
  have HZ := Lib.hid hZ
  have HOK := Lib.hid hok
  have HNK := Lib.hid hnk
  clear hZ hok hnk hR hH hM hnh hnmm hnb
  unfold Dt.val
  cases R
  · go_enter Tryd.func45, Tryd.ntmps45
    go_wp2_with (first | (rw [hW1, hb]; fail) | (go_at_call 68; refine (hnm _).mono ?_; clear hnm; rintro e X1 ⟨rfl, ex⟩; rw [ex]; clear ex X1) | (go_at_call 69; refine (hnu _).mono ?_; clear hnu; rintro e X2 ⟨rfl, ex⟩; rw [ex]; clear ex X2) | (go_at_call 70; refine (hrw _).mono ?_; clear hrw; rintro e W2 ⟨rfl, hb2⟩; have hD2 := hD1.below hb2; clear hb2 d0; have d1 := hD2.D.cell 1 _ rfl; have d2 := hD2.D.cell 2 _ rfl) | (go_at_call 44; refine (hi1 _).mono ?_; clear hi1; rintro e W3 ⟨rfl, hb3⟩; have hD3 := hD2.below hb3; clear hb3 d1 d2; have d1 := hD3.D.cell 1 _ rfl; have d2 := hD3.D.cell 2 _ rfl) | (go_at_call 44; refine (hi2 _).mono ?_; clear hi2; rintro e W4 ⟨rfl, hb4⟩; have hD4 := hD3.below hb4; clear hb4 d1 d2; have d2 := hD4.D.cell 2 _ rfl))
    go_ret
    first
      | exact ⟨by rw [← HZ.out, HOK.out]; rfl, hD4.B⟩
      | exact ⟨by rw [← HZ.out, HOK.out]; rfl, hD3.B⟩
      | exact ⟨by rw [← HZ.out, HOK.out]; rfl, hD2.B⟩
  · cases H
    · cases nh
      · cases eh
        · go_enter Tryd.func45, Tryd.ntmps45
          go_wp2_with (first | (rw [hW1, hb]; fail) | (go_at_call 68; refine (hnm _).mono ?_; clear hnm; rintro e X1 ⟨rfl, ex⟩; rw [ex]; clear ex X1) | (go_at_call 69; refine (hnu _).mono ?_; clear hnu; rintro e X2 ⟨rfl, ex⟩; rw [ex]; clear ex X2) | (go_at_call 70; refine (hrw _).mono ?_; clear hrw; rintro e W2 ⟨rfl, hb2⟩; have hD2 := hD1.below hb2; clear hb2 d0; have d1 := hD2.D.cell 1 _ rfl; have d2 := hD2.D.cell 2 _ rfl) | (go_at_call 44; refine (hi1 _).mono ?_; clear hi1; rintro e W3 ⟨rfl, hb3⟩; have hD3 := hD2.below hb3; clear hb3 d1 d2; have d1 := hD3.D.cell 1 _ rfl; have d2 := hD3.D.cell 2 _ rfl) | (go_at_call 44; refine (hi2 _).mono ?_; clear hi2; rintro e W4 ⟨rfl, hb4⟩; have hD4 := hD3.below hb4; clear hb4 d1 d2; have d2 := hD4.D.cell 2 _ rfl))
          go_ret
          first
            | exact ⟨by rw [← HZ.out, HOK.out]; rfl, hD4.B⟩
            | exact ⟨by rw [← HZ.out, HOK.out]; rfl, hD3.B⟩
            | exact ⟨by rw [← HZ.out, HOK.out]; rfl, hD2.B⟩
        · cases M
          · cases nm
            · cases em
              · go_enter Tryd.func45, Tryd.ntmps45
                go_wp2_with (first | (rw [hW1, hb]; fail) | (go_at_call 68; refine (hnm _).mono ?_; clear hnm; rintro e X1 ⟨rfl, ex⟩; rw [ex]; clear ex X1) | (go_at_call 69; refine (hnu _).mono ?_; clear hnu; rintro e X2 ⟨rfl, ex⟩; rw [ex]; clear ex X2) | (go_at_call 70; refine (hrw _).mono ?_; clear hrw; rintro e W2 ⟨rfl, hb2⟩; have hD2 := hD1.below hb2; clear hb2 d0; have d1 := hD2.D.cell 1 _ rfl; have d2 := hD2.D.cell 2 _ rfl) | (go_at_call 44; refine (hi1 _).mono ?_; clear hi1; rintro e W3 ⟨rfl, hb3⟩; have hD3 := hD2.below hb3; clear hb3 d1 d2; have d1 := hD3.D.cell 1 _ rfl; have d2 := hD3.D.cell 2 _ rfl) | (go_at_call 44; refine (hi2 _).mono ?_; clear hi2; rintro e W4 ⟨rfl, hb4⟩; have hD4 := hD3.below hb4; clear hb4 d1 d2; have d2 := hD4.D.cell 2 _ rfl))
                go_ret
                first
                  | exact ⟨by rw [← HZ.out, HOK.out]; rfl, hD4.B⟩
                  | exact ⟨by rw [← HZ.out, HOK.out]; rfl, hD3.B⟩
                  | exact ⟨by rw [← HZ.out, HOK.out]; rfl, hD2.B⟩
              · go_enter Tryd.func45, Tryd.ntmps45
                go_wp2_with (first | (rw [hW1, hb]; fail) | (go_at_call 68; refine (hnm _).mono ?_; clear hnm; rintro e X1 ⟨rfl, ex⟩; rw [ex]; clear ex X1) | (go_at_call 69; refine (hnu _).mono ?_; clear hnu; rintro e X2 ⟨rfl, ex⟩; rw [ex]; clear ex X2) | (go_at_call 70; refine (hrw _).mono ?_; clear hrw; rintro e W2 ⟨rfl, hb2⟩; have hD2 := hD1.below hb2; clear hb2 d0; have d1 := hD2.D.cell 1 _ rfl; have d2 := hD2.D.cell 2 _ rfl) | (go_at_call 44; refine (hi1 _).mono ?_; clear hi1; rintro e W3 ⟨rfl, hb3⟩; have hD3 := hD2.below hb3; clear hb3 d1 d2; have d1 := hD3.D.cell 1 _ rfl; have d2 := hD3.D.cell 2 _ rfl) | (go_at_call 44; refine (hi2 _).mono ?_; clear hi2; rintro e W4 ⟨rfl, hb4⟩; have hD4 := hD3.below hb4; clear hb4 d1 d2; have d2 := hD4.D.cell 2 _ rfl))
                go_loopw [9] (fun kv wr => ∃ k : Nat, k ≤ 5 ∧ kv = .int .i64 (k : Int) ∧ wr = W4 ∧ ∀ j, j < k → nOk t d j = true) (fun kv _ => 5 - (intOf kv).toNat)
                case atStart => exact ⟨0, by omega, rfl, rfl, fun j hj => by omega⟩
                case round =>
                  clear hD1 hD2 hD3
                  obtain ⟨k, hk, rfl, rfl, hall⟩ := hrel
                  have HALL := Lib.hid hall
                  clear hall
                  by_cases hlt : k < 5
                  · have hki : (k : Int) < 5 := by omega
                    have d1 := hD4.D.cell (3 + k) _ (d.cellN hlt)
                    have hkk := HNK.out k
                    obtain ⟨v, hv⟩ : ∃ v, d.getN k = v := ⟨_, rfl⟩
                    rw [hv] at d1 hkk
                    clear hv
                    by_cases hn : n ≤ (k : Int)
                    · have hn2 : ¬ (k : Int) < n := by omega
                      by_cases hv0 : v = 0
                      · have HG := Lib.hid (show nOk t d k = true by rw [hkk]; simp [hn, hn2, hv0])
                        clear hkk
                        subst hv0
                        go_wp2
                        go_roundw
                        case rel => exact ⟨k + 1, by omega, by go_num, by trivial, fun j hj => by
                          by_cases e : j = k
                          · subst e; exact HG.out
                          · exact HALL.out j (by omega)⟩
                        case measure => simp [intOf]; omega
                      · have HBAD := Lib.hid (okN_false hlt (show nOk t d k = false by rw [hkk]; simp [hn, hn2, hv0]))
                        clear hkk
                        have hv1 : (v == 0) = false := by simpa using hv0
                        have hv2 : (v != 0) = true := by simpa using hv0
                        go_wp2
                        go_ret
                        exact ⟨by rw [← HZ.out, HOK.out, HBAD.out]; rfl, hD4.B⟩
                    · have hn2 : (k : Int) < n := by omega
                      cases hb16 : (bits == 16)
                      · have HG := Lib.hid (show nOk t d k = true by rw [hkk]; simp [hn, hn2, hb16])
                        clear hkk
                        go_wp2
                        go_roundw
                        case rel => exact ⟨k + 1, by omega, by go_num, by trivial, fun j hj => by
                          by_cases e : j = k
                          · subst e; exact HG.out
                          · exact HALL.out j (by omega)⟩
                        case measure => simp [intOf]; omega
                      · by_cases h6 : 65535 < v
                        · have HBAD := Lib.hid (okN_false hlt (show nOk t d k = false by rw [hkk]; simp [hn, hn2, hb16, h6]))
                          clear hkk
                          go_wp2
                          go_ret
                          exact ⟨by rw [← HZ.out, HOK.out, HBAD.out]; rfl, hD4.B⟩
                        · have HG := Lib.hid (show nOk t d k = true by rw [hkk]; simp [hn, hn2, hb16, h6])
                          clear hkk
                          go_wp2
                          go_roundw
                          case rel => exact ⟨k + 1, by omega, by go_num, by trivial, fun j hj => by
                            by_cases e : j = k
                            · subst e; exact HG.out
                            · exact HALL.out j (by omega)⟩
                          case measure => simp [intOf]; omega
                  · obtain rfl : k = 5 := by omega
                    go_wp2
                    go_ret
                    exact ⟨by rw [← HZ.out, HOK.out, (okN_iff t d).2 HALL.out]; rfl, hD4.B⟩
            · go_enter Tryd.func45, Tryd.ntmps45
              go_wp2_with (first | (rw [hW1, hb]; fail) | (go_at_call 68; refine (hnm _).mono ?_; clear hnm; rintro e X1 ⟨rfl, ex⟩; rw [ex]; clear ex X1) | (go_at_call 69; refine (hnu _).mono ?_; clear hnu; rintro e X2 ⟨rfl, ex⟩; rw [ex]; clear ex X2) | (go_at_call 70; refine (hrw _).mono ?_; clear hrw; rintro e W2 ⟨rfl, hb2⟩; have hD2 := hD1.below hb2; clear hb2 d0; have d1 := hD2.D.cell 1 _ rfl; have d2 := hD2.D.cell 2 _ rfl) | (go_at_call 44; refine (hi1 _).mono ?_; clear hi1; rintro e W3 ⟨rfl, hb3⟩; have hD3 := hD2.below hb3; clear hb3 d1 d2; have d1 := hD3.D.cell 1 _ rfl; have d2 := hD3.D.cell 2 _ rfl) | (go_at_call 44; refine (hi2 _).mono ?_; clear hi2; rintro e W4 ⟨rfl, hb4⟩; have hD4 := hD3.below hb4; clear hb4 d1 d2; have d2 := hD4.D.cell 2 _ rfl))
              go_ret
              first
                | exact ⟨by rw [← HZ.out, HOK.out]; rfl, hD4.B⟩
                | exact ⟨by rw [← HZ.out, HOK.out]; rfl, hD3.B⟩
                | exact ⟨by rw [← HZ.out, HOK.out]; rfl, hD2.B⟩
          · cases nm
            · go_enter Tryd.func45, Tryd.ntmps45
              go_wp2_with (first | (rw [hW1, hb]; fail) | (go_at_call 68; refine (hnm _).mono ?_; clear hnm; rintro e X1 ⟨rfl, ex⟩; rw [ex]; clear ex X1) | (go_at_call 69; refine (hnu _).mono ?_; clear hnu; rintro e X2 ⟨rfl, ex⟩; rw [ex]; clear ex X2) | (go_at_call 70; refine (hrw _).mono ?_; clear hrw; rintro e W2 ⟨rfl, hb2⟩; have hD2 := hD1.below hb2; clear hb2 d0; have d1 := hD2.D.cell 1 _ rfl; have d2 := hD2.D.cell 2 _ rfl) | (go_at_call 44; refine (hi1 _).mono ?_; clear hi1; rintro e W3 ⟨rfl, hb3⟩; have hD3 := hD2.below hb3; clear hb3 d1 d2; have d1 := hD3.D.cell 1 _ rfl; have d2 := hD3.D.cell 2 _ rfl) | (go_at_call 44; refine (hi2 _).mono ?_; clear hi2; rintro e W4 ⟨rfl, hb4⟩; have hD4 := hD3.below hb4; clear hb4 d1 d2; have d2 := hD4.D.cell 2 _ rfl))
              go_ret
              first
                | exact ⟨by rw [← HZ.out, HOK.out]; rfl, hD4.B⟩
                | exact ⟨by rw [← HZ.out, HOK.out]; rfl, hD3.B⟩
                | exact ⟨by rw [← HZ.out, HOK.out]; rfl, hD2.B⟩
            · go_enter Tryd.func45, Tryd.ntmps45
              go_wp2_with (first | (rw [hW1, hb]; fail) | (go_at_call 68; refine (hnm _).mono ?_; clear hnm; rintro e X1 ⟨rfl, ex⟩; rw [ex]; clear ex X1) | (go_at_call 69; refine (hnu _).mono ?_; clear hnu; rintro e X2 ⟨rfl, ex⟩; rw [ex]; clear ex X2) | (go_at_call 70; refine (hrw _).mono ?_; clear hrw; rintro e W2 ⟨rfl, hb2⟩; have hD2 := hD1.below hb2; clear hb2 d0; have d1 := hD2.D.cell 1 _ rfl; have d2 := hD2.D.cell 2 _ rfl) | (go_at_call 44; refine (hi1 _).mono ?_; clear hi1; rintro e W3 ⟨rfl, hb3⟩; have hD3 := hD2.below hb3; clear hb3 d1 d2; have d1 := hD3.D.cell 1 _ rfl; have d2 := hD3.D.cell 2 _ rfl) | (go_at_call 44; refine (hi2 _).mono ?_; clear hi2; rintro e W4 ⟨rfl, hb4⟩; have hD4 := hD3.below hb4; clear hb4 d1 d2; have d2 := hD4.D.cell 2 _ rfl))
              go_loopw [9] (fun kv wr => ∃ k : Nat, k ≤ 5 ∧ kv = .int .i64 (k : Int) ∧ wr = W4 ∧ ∀ j, j < k → nOk t d j = true) (fun kv _ => 5 - (intOf kv).toNat)
              case atStart => exact ⟨0, by omega, rfl, rfl, fun j hj => by omega⟩
              case round =>
                clear hD1 hD2 hD3
                obtain ⟨k, hk, rfl, rfl, hall⟩ := hrel
                have HALL := Lib.hid hall
                clear hall
                by_cases hlt : k < 5
                · have hki : (k : Int) < 5 := by omega
                  have d1 := hD4.D.cell (3 + k) _ (d.cellN hlt)
                  have hkk := HNK.out k
                  obtain ⟨v, hv⟩ : ∃ v, d.getN k = v := ⟨_, rfl⟩
                  rw [hv] at d1 hkk
                  clear hv
                  by_cases hn : n ≤ (k : Int)
                  · have hn2 : ¬ (k : Int) < n := by omega
                    by_cases hv0 : v = 0
                    · have HG := Lib.hid (show nOk t d k = true by rw [hkk]; simp [hn, hn2, hv0])
                      clear hkk
                      subst hv0
                      go_wp2
                      go_roundw
                      case rel => exact ⟨k + 1, by omega, by go_num, by trivial, fun j hj => by
                        by_cases e : j = k
                        · subst e; exact HG.out
                        · exact HALL.out j (by omega)⟩
                      case measure => simp [intOf]; omega
                    · have HBAD := Lib.hid (okN_false hlt (show nOk t d k = false by rw [hkk]; simp [hn, hn2, hv0]))
                      clear hkk
                      have hv1 : (v == 0) = false := by simpa using hv0
                      have hv2 : (v != 0) = true := by simpa using hv0
                      go_wp2
                      go_ret
                      exact ⟨by rw [← HZ.out, HOK.out, HBAD.out]; rfl, hD4.B⟩
                  · have hn2 : (k : Int) < n := by omega
                    cases hb16 : (bits == 16)
                    · have HG := Lib.hid (show nOk t d k = true by rw [hkk]; simp [hn, hn2, hb16])
                      clear hkk
                      go_wp2
                      go_roundw
                      case rel => exact ⟨k + 1, by omega, by go_num, by trivial, fun j hj => by
                        by_cases e : j = k
                        · subst e; exact HG.out
                        · exact HALL.out j (by omega)⟩
                      case measure => simp [intOf]; omega
                    · by_cases h6 : 65535 < v
                      · have HBAD := Lib.hid (okN_false hlt (show nOk t d k = false by rw [hkk]; simp [hn, hn2, hb16, h6]))
                        clear hkk
                        go_wp2
                        go_ret
                        exact ⟨by rw [← HZ.out, HOK.out, HBAD.out]; rfl, hD4.B⟩
                      · have HG := Lib.hid (show nOk t d k = true by rw [hkk]; simp [hn, hn2, hb16, h6])
                        clear hkk
                        go_wp2
                        go_roundw
                        case rel => exact ⟨k + 1, by omega, by go_num, by trivial, fun j hj => by
                          by_cases e : j = k
                          · subst e; exact HG.out
                          · exact HALL.out j (by omega)⟩
                        case measure => simp [intOf]; omega
                · obtain rfl : k = 5 := by omega
                  go_wp2
                  go_ret
                  exact ⟨by rw [← HZ.out, HOK.out, (okN_iff t d).2 HALL.out]; rfl, hD4.B⟩
      · go_enter Tryd.func45, Tryd.ntmps45
        go_wp2_with (first | (rw [hW1, hb]; fail) | (go_at_call 68; refine (hnm _).mono ?_; clear hnm; rintro e X1 ⟨rfl, ex⟩; rw [ex]; clear ex X1) | (go_at_call 69; refine (hnu _).mono ?_; clear hnu; rintro e X2 ⟨rfl, ex⟩; rw [ex]; clear ex X2) | (go_at_call 70; refine (hrw _).mono ?_; clear hrw; rintro e W2 ⟨rfl, hb2⟩; have hD2 := hD1.below hb2; clear hb2 d0; have d1 := hD2.D.cell 1 _ rfl; have d2 := hD2.D.cell 2 _ rfl) | (go_at_call 44; refine (hi1 _).mono ?_; clear hi1; rintro e W3 ⟨rfl, hb3⟩; have hD3 := hD2.below hb3; clear hb3 d1 d2; have d1 := hD3.D.cell 1 _ rfl; have d2 := hD3.D.cell 2 _ rfl) | (go_at_call 44; refine (hi2 _).mono ?_; clear hi2; rintro e W4 ⟨rfl, hb4⟩; have hD4 := hD3.below hb4; clear hb4 d1 d2; have d2 := hD4.D.cell 2 _ rfl))
        go_ret
        first
          | exact ⟨by rw [← HZ.out, HOK.out]; rfl, hD4.B⟩
          | exact ⟨by rw [← HZ.out, HOK.out]; rfl, hD3.B⟩
          | exact ⟨by rw [← HZ.out, HOK.out]; rfl, hD2.B⟩
    · cases nh
      · go_enter Tryd.func45, Tryd.ntmps45
        go_wp2_with (first | (rw [hW1, hb]; fail) | (go_at_call 68; refine (hnm _).mono ?_; clear hnm; rintro e X1 ⟨rfl, ex⟩; rw [ex]; clear ex X1) | (go_at_call 69; refine (hnu _).mono ?_; clear hnu; rintro e X2 ⟨rfl, ex⟩; rw [ex]; clear ex X2) | (go_at_call 70; refine (hrw _).mono ?_; clear hrw; rintro e W2 ⟨rfl, hb2⟩; have hD2 := hD1.below hb2; clear hb2 d0; have d1 := hD2.D.cell 1 _ rfl; have d2 := hD2.D.cell 2 _ rfl) | (go_at_call 44; refine (hi1 _).mono ?_; clear hi1; rintro e W3 ⟨rfl, hb3⟩; have hD3 := hD2.below hb3; clear hb3 d1 d2; have d1 := hD3.D.cell 1 _ rfl; have d2 := hD3.D.cell 2 _ rfl) | (go_at_call 44; refine (hi2 _).mono ?_; clear hi2; rintro e W4 ⟨rfl, hb4⟩; have hD4 := hD3.below hb4; clear hb4 d1 d2; have d2 := hD4.D.cell 2 _ rfl))
        go_ret
        first
          | exact ⟨by rw [← HZ.out, HOK.out]; rfl, hD4.B⟩
          | exact ⟨by rw [← HZ.out, HOK.out]; rfl, hD3.B⟩
          | exact ⟨by rw [← HZ.out, HOK.out]; rfl, hD2.B⟩
      · cases M
        · cases nm
          · cases em
            · go_enter Tryd.func45, Tryd.ntmps45
              go_wp2_with (first | (rw [hW1, hb]; fail) | (go_at_call 68; refine (hnm _).mono ?_; clear hnm; rintro e X1 ⟨rfl, ex⟩; rw [ex]; clear ex X1) | (go_at_call 69; refine (hnu _).mono ?_; clear hnu; rintro e X2 ⟨rfl, ex⟩; rw [ex]; clear ex X2) | (go_at_call 70; refine (hrw _).mono ?_; clear hrw; rintro e W2 ⟨rfl, hb2⟩; have hD2 := hD1.below hb2; clear hb2 d0; have d1 := hD2.D.cell 1 _ rfl; have d2 := hD2.D.cell 2 _ rfl) | (go_at_call 44; refine (hi1 _).mono ?_; clear hi1; rintro e W3 ⟨rfl, hb3⟩; have hD3 := hD2.below hb3; clear hb3 d1 d2; have d1 := hD3.D.cell 1 _ rfl; have d2 := hD3.D.cell 2 _ rfl) | (go_at_call 44; refine (hi2 _).mono ?_; clear hi2; rintro e W4 ⟨rfl, hb4⟩; have hD4 := hD3.below hb4; clear hb4 d1 d2; have d2 := hD4.D.cell 2 _ rfl))
              go_ret
              first
                | exact ⟨by rw [← HZ.out, HOK.out]; rfl, hD4.B⟩
                | exact ⟨by rw [← HZ.out, HOK.out]; rfl, hD3.B⟩
                | exact ⟨by rw [← HZ.out, HOK.out]; rfl, hD2.B⟩
            · go_enter Tryd.func45, Tryd.ntmps45
              go_wp2_with (first | (rw [hW1, hb]; fail) | (go_at_call 68; refine (hnm _).mono ?_; clear hnm; rintro e X1 ⟨rfl, ex⟩; rw [ex]; clear ex X1) | (go_at_call 69; refine (hnu _).mono ?_; clear hnu; rintro e X2 ⟨rfl, ex⟩; rw [ex]; clear ex X2) | (go_at_call 70; refine (hrw _).mono ?_; clear hrw; rintro e W2 ⟨rfl, hb2⟩; have hD2 := hD1.below hb2; clear hb2 d0; have d1 := hD2.D.cell 1 _ rfl; have d2 := hD2.D.cell 2 _ rfl) | (go_at_call 44; refine (hi1 _).mono ?_; clear hi1; rintro e W3 ⟨rfl, hb3⟩; have hD3 := hD2.below hb3; clear hb3 d1 d2; have d1 := hD3.D.cell 1 _ rfl; have d2 := hD3.D.cell 2 _ rfl) | (go_at_call 44; refine (hi2 _).mono ?_; clear hi2; rintro e W4 ⟨rfl, hb4⟩; have hD4 := hD3.below hb4; clear hb4 d1 d2; have d2 := hD4.D.cell 2 _ rfl))
              go_loopw [9] (fun kv wr => ∃ k : Nat, k ≤ 5 ∧ kv = .int .i64 (k : Int) ∧ wr = W4 ∧ ∀ j, j < k → nOk t d j = true) (fun kv _ => 5 - (intOf kv).toNat)
              case atStart => exact ⟨0, by omega, rfl, rfl, fun j hj => by omega⟩
              case round =>
                clear hD1 hD2 hD3
                obtain ⟨k, hk, rfl, rfl, hall⟩ := hrel
                have HALL := Lib.hid hall
                clear hall
                by_cases hlt : k < 5
                · have hki : (k : Int) < 5 := by omega
                  have d1 := hD4.D.cell (3 + k) _ (d.cellN hlt)
                  have hkk := HNK.out k
                  obtain ⟨v, hv⟩ : ∃ v, d.getN k = v := ⟨_, rfl⟩
                  rw [hv] at d1 hkk
                  clear hv
                  by_cases hn : n ≤ (k : Int)
                  · have hn2 : ¬ (k : Int) < n := by omega
                    by_cases hv0 : v = 0
                    · have HG := Lib.hid (show nOk t d k = true by rw [hkk]; simp [hn, hn2, hv0])
                      clear hkk
                      subst hv0
                      go_wp2
                      go_roundw
                      case rel => exact ⟨k + 1, by omega, by go_num, by trivial, fun j hj => by
                        by_cases e : j = k
                        · subst e; exact HG.out
                        · exact HALL.out j (by omega)⟩
                      case measure => simp [intOf]; omega
                    · have HBAD := Lib.hid (okN_false hlt (show nOk t d k = false by rw [hkk]; simp [hn, hn2, hv0]))
                      clear hkk
                      have hv1 : (v == 0) = false := by simpa using hv0
                      have hv2 : (v != 0) = true := by simpa using hv0
                      go_wp2
                      go_ret
                      exact ⟨by rw [← HZ.out, HOK.out, HBAD.out]; rfl, hD4.B⟩
                  · have hn2 : (k : Int) < n := by omega
                    cases hb16 : (bits == 16)
                    · have HG := Lib.hid (show nOk t d k = true by rw [hkk]; simp [hn, hn2, hb16])
                      clear hkk
                      go_wp2
                      go_roundw
                      case rel => exact ⟨k + 1, by omega, by go_num, by trivial, fun j hj => by
                        by_cases e : j = k
                        · subst e; exact HG.out
                        · exact HALL.out j (by omega)⟩
                      case measure => simp [intOf]; omega
                    · by_cases h6 : 65535 < v
                      · have HBAD := Lib.hid (okN_false hlt (show nOk t d k = false by rw [hkk]; simp [hn, hn2, hb16, h6]))
                        clear hkk
                        go_wp2
                        go_ret
                        exact ⟨by rw [← HZ.out, HOK.out, HBAD.out]; rfl, hD4.B⟩
                      · have HG := Lib.hid (show nOk t d k = true by rw [hkk]; simp [hn, hn2, hb16, h6])
                        clear hkk
                        go_wp2
                        go_roundw
                        case rel => exact ⟨k + 1, by omega, by go_num, by trivial, fun j hj => by
                          by_cases e : j = k
                          · subst e; exact HG.out
                          · exact HALL.out j (by omega)⟩
                        case measure => simp [intOf]; omega
                · obtain rfl : k = 5 := by omega
                  go_wp2
                  go_ret
                  exact ⟨by rw [← HZ.out, HOK.out, (okN_iff t d).2 HALL.out]; rfl, hD4.B⟩
          · go_enter Tryd.func45, Tryd.ntmps45
            go_wp2_with (first | (rw [hW1, hb]; fail) | (go_at_call 68; refine (hnm _).mono ?_; clear hnm; rintro e X1 ⟨rfl, ex⟩; rw [ex]; clear ex X1) | (go_at_call 69; refine (hnu _).mono ?_; clear hnu; rintro e X2 ⟨rfl, ex⟩; rw [ex]; clear ex X2) | (go_at_call 70; refine (hrw _).mono ?_; clear hrw; rintro e W2 ⟨rfl, hb2⟩; have hD2 := hD1.below hb2; clear hb2 d0; have d1 := hD2.D.cell 1 _ rfl; have d2 := hD2.D.cell 2 _ rfl) | (go_at_call 44; refine (hi1 _).mono ?_; clear hi1; rintro e W3 ⟨rfl, hb3⟩; have hD3 := hD2.below hb3; clear hb3 d1 d2; have d1 := hD3.D.cell 1 _ rfl; have d2 := hD3.D.cell 2 _ rfl) | (go_at_call 44; refine (hi2 _).mono ?_; clear hi2; rintro e W4 ⟨rfl, hb4⟩; have hD4 := hD3.below hb4; clear hb4 d1 d2; have d2 := hD4.D.cell 2 _ rfl))
            go_ret
            first
              | exact ⟨by rw [← HZ.out, HOK.out]; rfl, hD4.B⟩
              | exact ⟨by rw [← HZ.out, HOK.out]; rfl, hD3.B⟩
              | exact ⟨by rw [← HZ.out, HOK.out]; rfl, hD2.B⟩
        · cases nm
          · go_enter Tryd.func45, Tryd.ntmps45
            go_wp2_with (first | (rw [hW1, hb]; fail) | (go_at_call 68; refine (hnm _).mono ?_; clear hnm; rintro e X1 ⟨rfl, ex⟩; rw [ex]; clear ex X1) | (go_at_call 69; refine (hnu _).mono ?_; clear hnu; rintro e X2 ⟨rfl, ex⟩; rw [ex]; clear ex X2) | (go_at_call 70; refine (hrw _).mono ?_; clear hrw; rintro e W2 ⟨rfl, hb2⟩; have hD2 := hD1.below hb2; clear hb2 d0; have d1 := hD2.D.cell 1 _ rfl; have d2 := hD2.D.cell 2 _ rfl) | (go_at_call 44; refine (hi1 _).mono ?_; clear hi1; rintro e W3 ⟨rfl, hb3⟩; have hD3 := hD2.below hb3; clear hb3 d1 d2; have d1 := hD3.D.cell 1 _ rfl; have d2 := hD3.D.cell 2 _ rfl) | (go_at_call 44; refine (hi2 _).mono ?_; clear hi2; rintro e W4 ⟨rfl, hb4⟩; have hD4 := hD3.below hb4; clear hb4 d1 d2; have d2 := hD4.D.cell 2 _ rfl))
            go_ret
            first
              | exact ⟨by rw [← HZ.out, HOK.out]; rfl, hD4.B⟩
              | exact ⟨by rw [← HZ.out, HOK.out]; rfl, hD3.B⟩
              | exact ⟨by rw [← HZ.out, HOK.out]; rfl, hD2.B⟩
          · go_enter Tryd.func45, Tryd.ntmps45
            go_wp2_with (first | (rw [hW1, hb]; fail) | (go_at_call 68; refine (hnm _).mono ?_; clear hnm; rintro e X1 ⟨rfl, ex⟩; rw [ex]; clear ex X1) | (go_at_call 69; refine (hnu _).mono ?_; clear hnu; rintro e X2 ⟨rfl, ex⟩; rw [ex]; clear ex X2) | (go_at_call 70; refine (hrw _).mono ?_; clear hrw; rintro e W2 ⟨rfl, hb2⟩; have hD2 := hD1.below hb2; clear hb2 d0; have d1 := hD2.D.cell 1 _ rfl; have d2 := hD2.D.cell 2 _ rfl) | (go_at_call 44; refine (hi1 _).mono ?_; clear hi1; rintro e W3 ⟨rfl, hb3⟩; have hD3 := hD2.below hb3; clear hb3 d1 d2; have d1 := hD3.D.cell 1 _ rfl; have d2 := hD3.D.cell 2 _ rfl) | (go_at_call 44; refine (hi2 _).mono ?_; clear hi2; rintro e W4 ⟨rfl, hb4⟩; have hD4 := hD3.below hb4; clear hb4 d1 d2; have d2 := hD4.D.cell 2 _ rfl))
            go_loopw [9] (fun kv wr => ∃ k : Nat, k ≤ 5 ∧ kv = .int .i64 (k : Int) ∧ wr = W4 ∧ ∀ j, j < k → nOk t d j = true) (fun kv _ => 5 - (intOf kv).toNat)
            case atStart => exact ⟨0, by omega, rfl, rfl, fun j hj => by omega⟩
            case round =>
              clear hD1 hD2 hD3
              obtain ⟨k, hk, rfl, rfl, hall⟩ := hrel
              have HALL := Lib.hid hall
              clear hall
              by_cases hlt : k < 5
              · have hki : (k : Int) < 5 := by omega
                have d1 := hD4.D.cell (3 + k) _ (d.cellN hlt)
                have hkk := HNK.out k
                obtain ⟨v, hv⟩ : ∃ v, d.getN k = v := ⟨_, rfl⟩
                rw [hv] at d1 hkk
                clear hv
                by_cases hn : n ≤ (k : Int)
                · have hn2 : ¬ (k : Int) < n := by omega
                  by_cases hv0 : v = 0
                  · have HG := Lib.hid (show nOk t d k = true by rw [hkk]; simp [hn, hn2, hv0])
                    clear hkk
                    subst hv0
                    go_wp2
                    go_roundw
                    case rel => exact ⟨k + 1, by omega, by go_num, by trivial, fun j hj => by
                      by_cases e : j = k
                      · subst e; exact HG.out
                      · exact HALL.out j (by omega)⟩
                    case measure => simp [intOf]; omega
                  · have HBAD := Lib.hid (okN_false hlt (show nOk t d k = false by rw [hkk]; simp [hn, hn2, hv0]))
                    clear hkk
                    have hv1 : (v == 0) = false := by simpa using hv0
                    have hv2 : (v != 0) = true := by simpa using hv0
                    go_wp2
                    go_ret
                    exact ⟨by rw [← HZ.out, HOK.out, HBAD.out]; rfl, hD4.B⟩
                · have hn2 : (k : Int) < n := by omega
                  cases hb16 : (bits == 16)
                  · have HG := Lib.hid (show nOk t d k = true by rw [hkk]; simp [hn, hn2, hb16])
                    clear hkk
                    go_wp2
                    go_roundw
                    case rel => exact ⟨k + 1, by omega, by go_num, by trivial, fun j hj => by
                      by_cases e : j = k
                      · subst e; exact HG.out
                      · exact HALL.out j (by omega)⟩
                    case measure => simp [intOf]; omega
                  · by_cases h6 : 65535 < v
                    · have HBAD := Lib.hid (okN_false hlt (show nOk t d k = false by rw [hkk]; simp [hn, hn2, hb16, h6]))
                      clear hkk
                      go_wp2
                      go_ret
                      exact ⟨by rw [← HZ.out, HOK.out, HBAD.out]; rfl, hD4.B⟩
                    · have HG := Lib.hid (show nOk t d k = true by rw [hkk]; simp [hn, hn2, hb16, h6])
                      clear hkk
                      go_wp2
                      go_roundw
                      case rel => exact ⟨k + 1, by omega, by go_num, by trivial, fun j hj => by
                        by_cases e : j = k
                        · subst e; exact HG.out
                        · exact HALL.out j (by omega)⟩
                      case measure => simp [intOf]; omega
              · obtain rfl : k = 5 := by omega
                go_wp2
                go_ret
                exact ⟨by rw [← HZ.out, HOK.out, (okN_iff t d).2 HALL.out]; rfl, hD4.B⟩
end Go.Proofs.YtdjknikkiojfhaaDoor
