/- stream.Collect: the walk. -/
import Derived.Test.YtmifnmnpihikgaaSO
import Derived.Test.YtmifnmnpihikgaaHQ
namespace Go.Proofs.Ytmifnmnpihikgaa
open Go.RowKit Go.HL
set_option linter.unusedVariables false
set_option linter.unusedSimpArgs false
def ansL (Ls : List Mg) : List Rc := Ls.flatMap fun m => m.an.l
theorem ansL_take {Ls : List Mg} {k : Nat} {m : Mg} (hm : Ls[k]? = some m) : ansL (Ls.take (k + 1)) = ansL (Ls.take k) ++ m.an.l := by
  have h := (List.getElem?_eq_some_iff.1 hm)
  obtain ⟨h1, h2⟩ := h
  rw [List.take_succ_eq_append_getElem h1, h2]
  simp [ansL]
theorem ansL_len {Ls : List Mg} (h : ∀ m ∈ Ls, m.an.l.length ≤ 1048576) : (ansL Ls).length ≤ Ls.length * 1048576 := by
  induction Ls with
  | nil => simp [ansL]
  | cons x l ih =>
    have h1 := ih (fun m hm => h m (List.mem_cons_of_mem _ hm))
    have h2 := h x (by simp)
    simp only [ansL, List.flatMap_cons, List.length_append, List.length_cons] at *
    omega
theorem Rd.front {w : World} {size n c : Nat} {ad : Addr} {cs : List Value} (h : Rd w size (some ad) n c cs) (k m : Nat) (hk : k ≤ n) (hm : k ≤ m) : Rd w size (some ad) k m (cs.take (k * size)) :=
  ⟨by rw [List.length_take, h.len]; exact Nat.min_eq_left (Nat.mul_le_mul_right _ hk), fun ha => by (cases ha), hm, fun a ha => by cases ha; exact (h.cells ad rfl).take _⟩
set_option maxHeartbeats 2000000 in
theorem collect_ (w : World) (A : Option Addr) (n c : Nat) (Ls : List Mg) (hM : Mgs w A n c Ls) (hn : n ≤ 60) (hb : ∀ m ∈ Ls, m.an.n ≤ 1048576) : Calls Try.prog 16 #[.slice A n c] w (CollP w (ansL Ls)) := by
  have hll := hM.len
  go_enter Try.func16, Try.ntmps16
  go_wp2
  go_loopw [4, 10] (fun v i wr => ∃ k : Nat, k ≤ n ∧ i = .int .i64 k ∧ wr.ownsRow w.heap.size 64 12 v (ansL (Ls.take k)).length (rcs (ansL (Ls.take k))) ∧ Below w.heap.size w wr) (fun _ i _ => n - (intOf i).toNat)
  case atStart => exact ⟨0, Nat.zero_le _, rfl, World.ownsRow_nil _ _ _ _, Below.refl _ _⟩
  case round =>
    obtain ⟨k, hk, rfl, ho, hbw⟩ := hrel
    by_cases hlt : k < n
    · obtain ⟨m, hmk⟩ : ∃ m, Ls[k]? = some m := ⟨Ls[k], List.getElem?_eq_getElem (by omega)⟩
      have hmm := List.mem_of_getElem? hmk
      have hmo := hM.ok m hmm
      have hma := hb m hmm
      cases A with
      | none => have := (hM.r.nil_ rfl).1; omega
      | some ad =>
      have hcs := (hM.below hbw).at k m hmk
      have hi1 : (k : Int) < (n : Int) := by omega
      have hml := hmo.an.len
      have hal := ansL_len (Ls := Ls.take k) (fun q hq => by rw [(hM.ok q (List.mem_of_mem_take hq)).an.len]; exact hb q (List.mem_of_mem_take hq))
      have hak : (Ls.take k).length ≤ 60 := by rw [List.length_take]; omega
      have hra := hmo.an.r.below (below_alloc hbw (.cells #[.int .u16 m.id, .bool m.reply, .int .u8 m.op, .bool m.aa, .bool m.tc, .bool m.rd, .bool m.ra, .int .u8 m.z, .int .u8 m.rc, .slice m.q.a m.q.n m.q.c, .slice m.an.a m.an.n m.an.c, .slice m.au.a m.au.n m.au.c, .slice m.ex.a m.ex.n m.ex.c] 57))
      have hbs := hbw.size
      go_wp2_with (first | (refine wpList_getAt rfl 57 (.tmp 12) rfl (ad.add (k * 13)) rfl [.int .u16 m.id, .bool m.reply, .int .u8 m.op, .bool m.aa, .bool m.tc, .bool m.rd, .bool m.ra, .int .u8 m.z, .int .u8 m.rc, .slice m.q.a m.q.n m.q.c, .slice m.an.a m.an.n m.an.c, .slice m.au.a m.au.n m.au.c, .slice m.ex.a m.ex.n m.ex.c] _ hcs Try.underlying57 rfl sizeMsg ?_) | (at_builtin; refine wpList_app (w0 := w) _ w.heap.size rfl (.tmp 14) (.tmp 16) 42 42 64 Rc.zero.val 12 96 rfl Try.underlying42 infoRec rfl (by omega) (by omega) u4 _ _ rfl (.own (own_below ho (below_new _ _))) _ m.an.n _ rfl (.slice hra (rcs_one _)) (below_alloc hbw _) (by rw [World.size_alloc]; omega) (by omega) ?_; intro v1 w1 _ ho1 hb1 hg1; replace ho1 := ho1 (.inr (own_below ho (below_new _ _)))))
      go_roundw
      case rel =>
        refine ⟨k + 1, by omega, by go_num, ?_, hb1⟩
        rw [ansL_take hmk, rcs_append, List.length_append, hml]
        exact ho1
      case measure => simp [intOf]; omega
    · obtain rfl : k = n := by omega
      rw [List.take_of_length_le (by omega)] at ho
      have hal := ansL_len (Ls := Ls) (fun q hq => by rw [(hM.ok q hq).an.len]; exact hb q hq)
      obtain ⟨L, hL⟩ : ∃ L, ansL Ls = L := ⟨_, rfl⟩
      rw [hL] at ho hal ⊢
      have hal : L.length ≤ 62914560 := by omega
      obtain ⟨N, hN⟩ : ∃ N, L.length = N := ⟨_, rfl⟩
      rw [hN] at ho hal
      have HL := Lib.hid hL
      clear hM hL hb hll
      by_cases h2 : N < 2
      · have hg : decide ((N : Int) < 2) = true := by simp; omega
        have hck : collOk L = false := by unfold collOk; rw [hN, decide_eq_false (by omega)]; rfl
        have hcr : collR L = [] := by unfold collR; rw [hck]; rfl
        obtain ⟨A1, c1, rfl, hr⟩ := own_rd ho
        clear ho
        go_wp2_with (fail)
        go_quiet (fail)
        go_wp2
        go_ret2
        refine ⟨none, 0, ?_, ?_, below_drewN hbw _⟩
        · rw [HL.out, hcr, hck]; rfl
        · rw [HL.out, hcr]; exact Rd.nil _ _
      · obtain ⟨g, c1, rfl, hr⟩ := own_some ho (by omega)
        clear ho
        have hg : decide ((N : Int) < 2) = false := by simp; omega
        have hN0 : 0 < N := by omega
        have hN1 : N - 1 < N := by omega
        have hN2 : (N : Int) - 1 = ((N - 1 : Nat) : Int) := by omega
        obtain ⟨r0, h0⟩ : ∃ r, L[0]? = some r := ⟨L[0], List.getElem?_eq_getElem (by omega)⟩
        obtain ⟨r1, h1⟩ : ∃ r, L[N - 1]? = some r := ⟨L[N - 1], List.getElem?_eq_getElem (by omega)⟩
        have c0 := Rd.rec hr 0 r0 h0
        have c9 := Rd.rec hr (N - 1) r1 h1
        rw [add_plain, Nat.zero_mul] at c0
        rw [add_plain] at c9
        have hty : wr.cell? ⟨g, 1, none⟩ = some (.int .u16 r0.ty) := by have := c0 1 _ rfl; rwa [add_plain] at this
        by_cases hs : isSoa r0 = true
        · have hq : (r0.ty != 6) = false := by simpa [isSoa] using hs
          cases hE : r0.eqB r1 with
          | false =>
            go_wp2_with (fail)
            refine wp_region_quiet_lit (by kernel_rfl) (by kernel_rfl) ?_
            repeat go_big_quiet_step (fail)
            go_big_quiet_want
            refine quiet_getAt 64 (.tmp 32) rfl ⟨g, 0, none⟩ rfl r0.cells _ c0 Try.underlying64 rfl sizeRec ?_
            go_simp
            go_big_quiet_on
            repeat go_big_quiet_step (fail)
            go_big_quiet_want
            refine quiet_getAt 64 (.tmp 37) rfl ⟨g, (N - 1) * 12, none⟩ rfl r1.cells _ c9 Try.underlying64 rfl sizeRec ?_
            go_simp
            go_big_quiet_on
            go_big_quiet_want
            refine quiet_bin .neq 64 64 (.tmp 33) (.tmp 38) rfl r0.val r1.val (.bool true) rfl rfl (fun W => by unfold Rc.val; exact run_eqGuard_agg W .neq 64 (.tmp 33) (.tmp 38) _ _ Try.eqGuardType64) (fun W => by rw [neqRec, hE]; rfl) ?_
            go_simp
            go_big_quiet_on
            repeat go_big_quiet_step (fail)
            refine wpQuiet_nil ?_
            rintro _ ⟨nq, rfl⟩
            have hck : collOk L = false := by unfold collOk; rw [List.getD_eq_getElem?_getD, h0, List.getD_eq_getElem?_getD, hN, h1]; simp [hE]
            have hcr : collR L = [] := by unfold collR; rw [hck]; rfl
            go_wp2
            go_ret2
            refine ⟨none, 0, ?_, ?_, below_drewN hbw _⟩
            · rw [HL.out, hcr, hck]; rfl
            · rw [HL.out, hcr]; exact Rd.nil _ _
          | true =>
            go_wp2_with (fail)
            refine wp_region_quiet_lit (by kernel_rfl) (by kernel_rfl) ?_
            repeat go_big_quiet_step (fail)
            go_big_quiet_want
            refine quiet_getAt 64 (.tmp 32) rfl ⟨g, 0, none⟩ rfl r0.cells _ c0 Try.underlying64 rfl sizeRec ?_
            go_simp
            go_big_quiet_on
            repeat go_big_quiet_step (fail)
            go_big_quiet_want
            refine quiet_getAt 64 (.tmp 37) rfl ⟨g, (N - 1) * 12, none⟩ rfl r1.cells _ c9 Try.underlying64 rfl sizeRec ?_
            go_simp
            go_big_quiet_on
            go_big_quiet_want
            refine quiet_bin .neq 64 64 (.tmp 33) (.tmp 38) rfl r0.val r1.val (.bool false) rfl rfl (fun W => by unfold Rc.val; exact run_eqGuard_agg W .neq 64 (.tmp 33) (.tmp 38) _ _ Try.eqGuardType64) (fun W => by rw [neqRec, hE]; rfl) ?_
            go_simp
            go_big_quiet_on
            repeat go_big_quiet_step (fail)
            refine wpQuiet_nil ?_
            rintro _ ⟨nq, rfl⟩
            have hcl := hr.le
            have hcut := (hr.cutS 1 (N - 2) c1 (by omega) (by omega) (Nat.le_refl _)).drewN nq
            rw [rcs_drop, rcs_take] at hcut
            have hfull := (Rd.front hr (N - 1) (N - 1) (by omega) (Nat.le_refl _)).drewN nq
            rw [rcs_take] at hfull
            have hclp := fun W h => clip_ W _ _ _ _ (h : Rd W 12 (some ⟨g, 0, none⟩) (N - 1) (N - 1) (rcs (L.take (N - 1)))) (by omega)
            have hsh := fun W h => soaHas_ W _ _ _ _ (h : Rd W 12 (cutS (some ⟨g, 0, none⟩) 1 c1 12) (N - 2) (c1 - 1) (rcs ((L.drop 1).take (N - 2)))) (by omega)
            have hbq := below_drewN hbw nq
            cases hS : ((L.drop 1).take (N - 2)).any isSoa with
            | true =>
              have hck : collOk L = false := by unfold collOk; rw [hN, hS]; simp
              have hcr : collR L = [] := by unfold collR; rw [hck]; rfl
              rw [hS] at hsh
              go_wp2_with (first | (refine wpList_cut rfl 42 64 (.tmp 41) _ _ rfl Try.underlying42 sizeRec (some ⟨g, 0, none⟩) N c1 rfl rfl rfl 1 (N - 2) (by omega) (by omega) (by omega) ?_) | (go_at_call 23; refine (hsh _ hcut).mono ?_; rintro e w3 ⟨rfl, hb3⟩))
              go_ret2
              refine ⟨none, 0, ?_, ?_, below_trans hbq hb3⟩
              · rw [HL.out, hcr, hck]; rfl
              · rw [HL.out, hcr]; exact Rd.nil _ _
            | false =>
              have hck : collOk L = true := by
                unfold collOk
                rw [hN, hS, decide_eq_true (by omega), List.getD_eq_getElem?_getD, h0, List.getD_eq_getElem?_getD, h1]
                simp [hs, hE]
              have hcr : collR L = L.take (N - 1) := by unfold collR; rw [hck, hN]; rfl
              rw [hS] at hsh
              go_wp2_with (first | (refine wpList_cut rfl 42 64 (.tmp 41) _ _ rfl Try.underlying42 sizeRec (some ⟨g, 0, none⟩) N c1 rfl rfl rfl 1 (N - 2) (by omega) (by omega) (by omega) ?_) | (go_at_call 23; refine (hsh _ hcut).mono ?_; rintro e w3 ⟨rfl, hb3⟩; obtain ⟨A9, c9', hr9, hc9⟩ := hclp _ (hfull.below hb3)) | (go_at_call 25; refine hc9.mono ?_; rintro e w4 ⟨rfl, rfl⟩))
              go_ret2
              have hln : (collR L).length = N - 1 := by rw [hcr, List.length_take]; omega
              refine ⟨A9, c9', ?_, ?_, below_trans hbq hb3⟩
              · rw [HL.out, hck, hln]; rfl
              · rw [HL.out, hln, hcr]; exact hr9
        · have hq : (r0.ty != 6) = true := by simpa [isSoa] using hs
          have hck : collOk L = false := by unfold collOk; rw [List.getD_eq_getElem?_getD, h0]; simp [hs]
          have hcr : collR L = [] := by unfold collR; rw [hck]; rfl
          go_wp2_with (fail)
          go_quiet (fail)
          go_wp2
          go_ret2
          refine ⟨none, 0, ?_, ?_, below_drewN hbw _⟩
          · rw [HL.out, hcr, hck]; rfl
          · rw [HL.out, hcr]; exact Rd.nil _ _
end Go.Proofs.Ytmifnmnpihikgaa
