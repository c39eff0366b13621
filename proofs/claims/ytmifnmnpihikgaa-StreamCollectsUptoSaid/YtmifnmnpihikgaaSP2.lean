/- the document's Collect: the walk. -/
import Derived.Test.YtmifnmnpihikgaaSP1
namespace Go.Proofs.Ytmifnmnpihikgaa
open Go.RowKit Go.HL
set_option linter.unusedVariables false
set_option linter.unusedSimpArgs false
set_option maxHeartbeats 2000000 in
theorem refCollect_ (w : World) (A : Option Addr) (n c : Nat) (Ls : List Mg) (hM : Mgs w A n c Ls) (hn : n ≤ 60) (hb : ∀ m ∈ Ls, m.an.n ≤ 1048576) : Calls Try.prog 17 #[.slice A n c] w (CollP w (ansL Ls)) := by
  have hll := hM.len
  go_enter Try.func17, Try.ntmps17
  go_wp2
  go_loopw [4, 5] (fun v i wr => ∃ k : Nat, k ≤ n ∧ i = .int .i64 k ∧ wr.ownsRow w.heap.size 64 12 v (ansL (Ls.take k)).length (rcs (ansL (Ls.take k))) ∧ Below w.heap.size w wr) (fun _ i _ => n - (intOf i).toNat)
  case atStart => exact ⟨0, Nat.zero_le _, rfl, World.ownsRow_nil _ _ _ _, Below.refl _ _⟩
  case round =>
    obtain ⟨k, hk, rfl, ho, hbw⟩ := hrel
    by_cases hlt : k < n
    · obtain ⟨m, hmk⟩ : ∃ m, Ls[k]? = some m := ⟨Ls[k], List.getElem?_eq_getElem (by omega)⟩
      have hmm := List.mem_of_getElem? hmk
      have hmo := hM.ok m hmm
      have hma := hb m hmm
      cases A with
      | none => have := (hM.r.nil_ rfl).1; omega
      | some ad =>
      have hcs := (hM.below hbw).at k m hmk
      have hi1 : (k : Int) < (n : Int) := by omega
      have hml := hmo.an.len
      have hal := ansL_len (Ls := Ls.take k) (fun q hq => by rw [(hM.ok q (List.mem_of_mem_take hq)).an.len]; exact hb q (List.mem_of_mem_take hq))
      have hak : (Ls.take k).length ≤ 60 := by rw [List.length_take]; omega
      have hra := hmo.an.r.below hbw
      have hbs := hbw.size
      have hx := cells_at hcs 9 _ rfl
      go_wp2_with (first | (at_builtin; refine wpList_app (w0 := w) _ w.heap.size rfl (.tmp 14) (.tmp 19) 42 42 64 Rc.zero.val 12 96 rfl Try.underlying42 infoRec rfl (by omega) (by omega) u4 _ _ rfl (.own ho) _ m.an.n _ rfl (.slice hra (rcs_one _)) hbw hbs (by omega) ?_; intro v1 w1 _ ho1 hb1 hg1; replace ho1 := ho1 (.inr ho)))
      go_roundw
      case rel =>
        refine ⟨k + 1, by omega, by go_num, ?_, hb1⟩
        rw [ansL_take hmk, rcs_append, List.length_append, hml]
        exact ho1
      case measure => simp [intOf]; omega
    · obtain rfl : k = n := by omega
      rw [List.take_of_length_le (by omega)] at ho
      have hal := ansL_len (Ls := Ls) (fun q hq => by rw [(hM.ok q hq).an.len]; exact hb q hq)
      obtain ⟨L, hL⟩ : ∃ L, ansL Ls = L := ⟨_, rfl⟩
      rw [hL] at ho hal ⊢
      have hal : L.length ≤ 62914560 := by omega
      obtain ⟨N, hN⟩ : ∃ N, L.length = N := ⟨_, rfl⟩
      rw [hN] at ho hal
      have HL := Lib.hid hL
      clear hM hL hb hll
      by_cases h2 : N < 2
      · have hg : decide ((N : Int) < 2) = true := by simp; omega
        have hck : collOk L = false := by unfold collOk; rw [hN, decide_eq_false (by omega)]; rfl
        have hcr : collR L = [] := by unfold collR; rw [hck]; rfl
        obtain ⟨A1, c1, rfl, hr⟩ := own_rd ho
        clear ho
        go_wp2_with (fail)
        go_quiet (fail)
        go_wp2
        go_ret2
        refine ⟨none, 0, ?_, ?_, below_drewN hbw _⟩
        · rw [HL.out, hcr, hck]; rfl
        · rw [HL.out, hcr]; exact Rd.nil _ _
      · obtain ⟨g, c1, rfl, hr⟩ := own_some ho (by omega)
        clear ho
        have hg : decide ((N : Int) < 2) = false := by simp; omega
        have hN0 : 0 < N := by omega
        have hN1 : N - 1 < N := by omega
        have hN2 : (N : Int) - 1 = ((N - 1 : Nat) : Int) := by omega
        obtain ⟨r0, h0⟩ : ∃ r, L[0]? = some r := ⟨L[0], List.getElem?_eq_getElem (by omega)⟩
        obtain ⟨r1, h1⟩ : ∃ r, L[N - 1]? = some r := ⟨L[N - 1], List.getElem?_eq_getElem (by omega)⟩
        have c0 := Rd.rec hr 0 r0 h0
        have c9 := Rd.rec hr (N - 1) r1 h1
        rw [add_plain, Nat.zero_mul] at c0
        rw [add_plain] at c9
        have hty : wr.cell? ⟨g, 1, none⟩ = some (.int .u16 r0.ty) := by have := c0 1 _ rfl; rwa [add_plain] at this
        by_cases hs : isSoa r0 = true
        · have hq : (r0.ty != 6) = false := by simpa [isSoa] using hs
          cases hE : r0.eqB r1 with
          | false =>
            go_wp2_with (fail)
            refine wp_region_quiet_lit (by kernel_rfl) (by kernel_rfl) ?_
            repeat go_big_quiet_step (fail)
            go_big_quiet_want
            refine quiet_getAt 64 (.tmp 34) rfl ⟨g, 0, none⟩ rfl r0.cells _ c0 Try.underlying64 rfl sizeRec ?_
            go_simp
            go_big_quiet_on
            repeat go_big_quiet_step (fail)
            go_big_quiet_want
            refine quiet_getAt 64 (.tmp 39) rfl ⟨g, (N - 1) * 12, none⟩ rfl r1.cells _ c9 Try.underlying64 rfl sizeRec ?_
            go_simp
            go_big_quiet_on
            go_big_quiet_want
            refine quiet_bin .neq 64 64 (.tmp 35) (.tmp 40) rfl r0.val r1.val (.bool true) rfl rfl (fun W => by unfold Rc.val; exact run_eqGuard_agg W .neq 64 (.tmp 35) (.tmp 40) _ _ Try.eqGuardType64) (fun W => by rw [neqRec, hE]; rfl) ?_
            go_simp
            go_big_quiet_on
            repeat go_big_quiet_step (fail)
            refine wpQuiet_nil ?_
            rintro _ ⟨nq, rfl⟩
            have hck : collOk L = false := by unfold collOk; rw [List.getD_eq_getElem?_getD, h0, List.getD_eq_getElem?_getD, hN, h1]; simp [hE]
            have hcr : collR L = [] := by unfold collR; rw [hck]; rfl
            go_wp2
            go_ret2
            refine ⟨none, 0, ?_, ?_, below_drewN hbw _⟩
            · rw [HL.out, hcr, hck]; rfl
            · rw [HL.out, hcr]; exact Rd.nil _ _
          | true =>
            go_wp2_with (fail)
            refine wp_region_quiet_lit (by kernel_rfl) (by kernel_rfl) ?_
            repeat go_big_quiet_step (fail)
            go_big_quiet_want
            refine quiet_getAt 64 (.tmp 34) rfl ⟨g, 0, none⟩ rfl r0.cells _ c0 Try.underlying64 rfl sizeRec ?_
            go_simp
            go_big_quiet_on
            repeat go_big_quiet_step (fail)
            go_big_quiet_want
            refine quiet_getAt 64 (.tmp 39) rfl ⟨g, (N - 1) * 12, none⟩ rfl r1.cells _ c9 Try.underlying64 rfl sizeRec ?_
            go_simp
            go_big_quiet_on
            go_big_quiet_want
            refine quiet_bin .neq 64 64 (.tmp 35) (.tmp 40) rfl r0.val r1.val (.bool false) rfl rfl (fun W => by unfold Rc.val; exact run_eqGuard_agg W .neq 64 (.tmp 35) (.tmp 40) _ _ Try.eqGuardType64) (fun W => by rw [neqRec, hE]; rfl) ?_
            go_simp
            go_big_quiet_on
            repeat go_big_quiet_step (fail)
            refine wpQuiet_nil ?_
            rintro _ ⟨nq, rfl⟩
            have hfull := (Rd.front hr (N - 1) c1 (by omega) (by have := hr.le; omega)).drewN nq
            rw [rcs_take] at hfull
            have hbq := below_drewN hbw nq
            have hrq := hr.drewN nq
            obtain ⟨wq, hwq⟩ : ∃ x, wr.drewN nq = x := ⟨_, rfl⟩
            rw [hwq] at hfull hbq hrq ⊢
            go_wp2
            go_loopw [7] (fun i w5 => ∃ k : Nat, 1 ≤ k ∧ k ≤ N - 1 ∧ i = .int .i64 k ∧ (∀ j r, 1 ≤ j → j < k → L[j]? = some r → isSoa r = false) ∧ w5 = wq) (fun i _ => N - (intOf i).toNat)
            case atStart => exact ⟨1, Nat.le_refl _, by omega, rfl, fun j r h h' => absurd h (by omega), rfl⟩
            case round =>
              obtain ⟨q, hq1, hq2, rfl, hno, rfl⟩ := hrel
              by_cases hlt2 : q < N - 1
              · obtain ⟨r, hrk⟩ : ∃ r, L[q]? = some r := ⟨L[q], List.getElem?_eq_getElem (by omega)⟩
                have cq := Rd.rec hrq q r hrk
                rw [add_plain] at cq
                have cty := cells_at cq 0 _ rfl
                have hq0 : q < N := by omega
                cases hS : isSoa r with
                | true =>
                  have hq : (r.ty == 6) = true := by simpa [isSoa] using hS
                  have hany : ((L.drop 1).take (N - 2)).any isSoa = true := by
                    refine List.any_eq_true.2 ⟨r, List.mem_of_getElem? (i := q - 1) ?_, hS⟩
                    rw [List.getElem?_take, if_pos (by omega), List.getElem?_drop, show 1 + (q - 1) = q by omega]
                    exact hrk
                  have hck : collOk L = false := by unfold collOk; rw [hN, hany]; simp
                  have hcr : collR L = [] := by unfold collR; rw [hck]; rfl
                  go_wp2
                  go_ret2
                  refine ⟨none, 0, ?_, ?_, hbq⟩
                  · rw [HL.out, hcr, hck]; rfl
                  · rw [HL.out, hcr]; exact Rd.nil _ _
                | false =>
                  have hq : (r.ty == 6) = false := by simpa [isSoa] using hS
                  go_wp2
                  go_roundw
                  case rel =>
                    refine ⟨q + 1, by omega, by omega, by go_num, fun j x h1 h2 hx => ?_, trivial⟩
                    by_cases hjk : j < q
                    · exact hno j x h1 hjk hx
                    · obtain rfl : j = q := by omega
                      rw [hrk] at hx
                      cases hx
                      exact hS
                  case measure => simp [intOf]; omega
              · obtain rfl : q = N - 1 := by omega
                have hany : ((L.drop 1).take (N - 2)).any isSoa = false := by
                  rw [List.any_eq_false]
                  intro x hx
                  obtain ⟨j, hj⟩ := List.getElem?_of_mem hx
                  rw [List.getElem?_take] at hj
                  split at hj
                  · rw [List.getElem?_drop] at hj
                    simpa using hno (1 + j) x (by omega) (by omega) hj
                  · cases hj
                have hck : collOk L = true := by
                  unfold collOk
                  rw [hN, hany, decide_eq_true (by omega), List.getD_eq_getElem?_getD, h0, List.getD_eq_getElem?_getD, h1]
                  simp [hs, hE]
                have hcr : collR L = L.take (N - 1) := by unfold collR; rw [hck, hN]; rfl
                have hln : (collR L).length = N - 1 := by rw [hcr, List.length_take]; omega
                have hlec := hr.le
                go_wp2
                go_ret2
                refine ⟨some ⟨g, 0, none⟩, c1, ?_, ?_, hbq⟩
                · rw [HL.out, hck, hln]; rfl
                · rw [HL.out, hln, hcr]; exact hfull
        · have hq : (r0.ty != 6) = true := by simpa [isSoa] using hs
          have hck : collOk L = false := by unfold collOk; rw [List.getD_eq_getElem?_getD, h0]; simp [hs]
          have hcr : collR L = [] := by unfold collR; rw [hck]; rfl
          go_wp2_with (fail)
          go_quiet (fail)
          go_wp2
          go_ret2
          refine ⟨none, 0, ?_, ?_, below_drewN hbw _⟩
          · rw [HL.out, hcr, hck]; rfl
          · rw [HL.out, hcr]; exact Rd.nil _ _
end Go.Proofs.Ytmifnmnpihikgaa
