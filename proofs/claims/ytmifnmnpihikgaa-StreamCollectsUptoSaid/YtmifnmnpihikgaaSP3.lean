/- Lists of records held against each other; the law StreamCollects. -/
import Derived.Test.YtmifnmnpihikgaaSP2
namespace Go.Proofs.Ytmifnmnpihikgaa
open Go.RowKit Go.HL
set_option linter.unusedVariables false
set_option linter.unusedSimpArgs false
theorem eqRs_ne {l m : List Rc} (k : Nat) (h : (l[k]?) ≠ (m[k]?)) : eqRs l m = false := by
  cases hh : eqRs l m with
  | false => rfl
  | true => rw [eqRs_iff] at hh; rw [hh] at h; exact absurd rfl h
set_option maxHeartbeats 2000000 in
theorem equal_ (w : World) (A : Option Addr) (n c : Nat) (l : List Rc) (hr : Rd w 12 A n c (rcs l)) (hn : n ≤ 140737488355328) (B : Option Addr) (m d : Nat) (k : List Rc) (hs : Rd w 12 B m d (rcs k)) :
    Calls Try.prog 18 #[.slice A n c, .slice B m d] w (Tells w (.bool (eqRs l k))) := by
  have hll := Rd.recs hr
  have hkl := Rd.recs hs
  go_enter Try.func18, Try.ntmps18
  by_cases hnm : n = m
  · subst hnm
    go_wp2
    go_loopw [5] (fun i wr => ∃ q j : Nat, q ≤ n ∧ i = .int .i64 q ∧ (∀ j, j < q → l[j]? = k[j]?) ∧ wr = w.drewN j) (fun i _ => n - (intOf i).toNat)
    case atStart => exact ⟨0, 0, Nat.zero_le _, rfl, fun j h => absurd h (by omega), rfl⟩
    case round =>
      obtain ⟨q, j, hq, rfl, hsame, rfl⟩ := hrel
      by_cases hlt : q < n
      · obtain ⟨r0, h0⟩ : ∃ r, l[q]? = some r := ⟨l[q], List.getElem?_eq_getElem (by omega)⟩
        obtain ⟨r1, h1⟩ : ∃ r, k[q]? = some r := ⟨k[q], List.getElem?_eq_getElem (by omega)⟩
        cases A with
        | none => have := (hr.nil_ rfl).1; omega
        | some a0 =>
        cases B with
        | none => have := (hs.nil_ rfl).1; omega
        | some a1 =>
        have c0 := Rd.rec (hr.drewN j) q r0 h0
        have c1 := Rd.rec (hs.drewN j) q r1 h1
        cases hE : r0.eqB r1 with
        | false =>
          have hno : eqRs l k = false := eqRs_ne q (by rw [h0, h1]; intro he; cases he; rw [Rc.eqB_self] at hE; cases hE)
          go_wp2_with (fail)
          refine wp_region_quiet_lit (by kernel_rfl) (by kernel_rfl) ?_
          repeat go_big_quiet_step (fail)
          go_big_quiet_want
          refine quiet_getAt 64 (.tmp 19) rfl (a0.add (q * 12)) rfl r0.cells _ c0 Try.underlying64 rfl sizeRec ?_
          go_simp
          go_big_quiet_on
          repeat go_big_quiet_step (fail)
          go_big_quiet_want
          refine quiet_getAt 64 (.tmp 23) rfl (a1.add (q * 12)) rfl r1.cells _ c1 Try.underlying64 rfl sizeRec ?_
          go_simp
          go_big_quiet_on
          go_big_quiet_want
          refine quiet_bin .neq 64 64 (.tmp 20) (.tmp 24) rfl r0.val r1.val (.bool true) rfl rfl (fun W => by unfold Rc.val; exact run_eqGuard_agg W .neq 64 (.tmp 20) (.tmp 24) _ _ Try.eqGuardType64) (fun W => by rw [neqRec, hE]; rfl) ?_
          go_simp
          go_big_quiet_on
          refine wpQuiet_nil ?_
          rintro _ ⟨nq, rfl⟩
          go_wp2
          go_ret
          exact ⟨by rw [hno]; rfl, below_drewN (below_drewN (Below.refl _ _) _) _⟩
        | true =>
          go_wp2_with (fail)
          refine wp_region_quiet_lit (by kernel_rfl) (by kernel_rfl) ?_
          repeat go_big_quiet_step (fail)
          go_big_quiet_want
          refine quiet_getAt 64 (.tmp 19) rfl (a0.add (q * 12)) rfl r0.cells _ c0 Try.underlying64 rfl sizeRec ?_
          go_simp
          go_big_quiet_on
          repeat go_big_quiet_step (fail)
          go_big_quiet_want
          refine quiet_getAt 64 (.tmp 23) rfl (a1.add (q * 12)) rfl r1.cells _ c1 Try.underlying64 rfl sizeRec ?_
          go_simp
          go_big_quiet_on
          go_big_quiet_want
          refine quiet_bin .neq 64 64 (.tmp 20) (.tmp 24) rfl r0.val r1.val (.bool false) rfl rfl (fun W => by unfold Rc.val; exact run_eqGuard_agg W .neq 64 (.tmp 20) (.tmp 24) _ _ Try.eqGuardType64) (fun W => by rw [neqRec, hE]; rfl) ?_
          go_simp
          go_big_quiet_on
          refine wpQuiet_nil ?_
          rintro _ ⟨nq, rfl⟩
          go_wp2
          go_roundw
          case rel =>
            refine ⟨q + 1, j + nq, by omega, by go_num, fun i hi => ?_, rfl⟩
            by_cases hiq : i < q
            · exact hsame i hiq
            · obtain rfl : i = q := by omega
              rw [h0, h1, (Rc.eqB_iff r0 r1).1 hE]
          case measure => simp [intOf]; omega
      · obtain rfl : q = n := by omega
        have he : l = k := by
          apply List.ext_getElem?
          intro i
          by_cases hi : i < q
          · exact hsame i hi
          · rw [List.getElem?_eq_none (by omega), List.getElem?_eq_none (by omega)]
        have hyes : eqRs l k = true := (eqRs_iff l k).2 he
        go_wp2
        go_ret
        exact ⟨by rw [hyes]; rfl, below_drewN (Below.refl _ _) _⟩
  · have hd : ((n : Int) != (m : Int)) = true := by simp; omega
    have hno : eqRs l k = false := by
      cases hh : eqRs l k with
      | false => rfl
      | true => rw [eqRs_iff] at hh; rw [hh] at hll; omega
    go_wp2
    go_ret
    exact ⟨by rw [hno]; rfl, Below.refl _ _⟩
set_option maxHeartbeats 2000000 in
theorem streamCollects_walk (w : World) (A : Option Addr) (n c : Nat) (Ls : List Mg) (hM : Mgs w A n c Ls) (hb : ∀ m ∈ Ls, m.an.n ≤ 1048576) : Calls Try.prog 7 #[.slice A n c] w (Tells w (.bool true)) := by
  go_enter Try.func7, Try.ntmps7
  by_cases hbig : 60 < n
  · have hd : (60 : Int) < (n : Int) := by omega
    go_wp2_with (go_at_call 8; refine (wakes _).mono ?_; rintro e w5 ⟨rfl, hb5⟩)
    go_ret
    exact ⟨rfl, hb5⟩
  · have hd : ¬ (60 : Int) < (n : Int) := by omega
    have h1 := collect_ w A n c Ls hM (by omega) hb
    have h2 := fun W hM => refCollect_ W A n c Ls hM (by omega) hb
    have hal := ansL_len (Ls := Ls) (fun q hq => by rw [(hM.ok q hq).an.len]; exact hb q hq)
    have hll := hM.len
    obtain ⟨L, hL⟩ : ∃ L, ansL Ls = L := ⟨_, rfl⟩
    rw [hL] at h1 h2 hal
    have hcl : (collR L).length ≤ 140737488355328 := by
      unfold collR
      split
      · rw [List.length_take]; omega
      · simp
    unfold CollP at h1 h2
    have heq := fun W A1 c1 A2 c2 hr hs => equal_ W A1 (collR L).length c1 (collR L) hr hcl A2 (collR L).length c2 (collR L) hs
    rw [(eqRs_iff _ _).2 rfl] at heq
    go_wp2_with (first | (go_at_call 16; refine h1.mono ?_; clear h1; rintro e w1 ⟨A1, c1, rfl, hr1, hb1⟩) | (go_at_call 17; refine (h2 _ (hM.below hb1)).mono ?_; clear h2; rintro e w2 ⟨A2, c2, rfl, hr2, hb2⟩) | (go_at_call 18; refine (heq _ _ _ _ _ (hr1.below hb2) hr2).mono ?_; clear heq; rintro e w3 ⟨rfl, hb3⟩) | (go_at_call 8; refine (wakes _).mono ?_; rintro e w5 ⟨rfl, hb5⟩))
    go_ret
    exact ⟨rfl, below_trans (below_trans (below_trans hb1 hb2) hb3) hb5⟩
end Go.Proofs.Ytmifnmnpihikgaa
