/- hearsayref14.Life: contract. -/
import Derived.Test.YtioehogncgloiaaCB
namespace Go.Proofs.Ytioehogncgloiaa
open Go.RowKit Go.HL
set_option linter.unusedVariables false
set_option linter.unusedSimpArgs false
theorem soaOf_none {l : List Rc} (h : ∀ (j : Nat) r, l[j]? = some r → (r.ty == 6) = false) : soaOf l = none := by
  unfold soaOf
  rw [List.find?_eq_none]
  intro r hr
  obtain ⟨j, hj⟩ := List.getElem?_of_mem hr
  rw [h j r hj]
  decide
theorem soaOf_some {l : List Rc} {k : Nat} {r : Rc} (hk : l[k]? = some r) (hs : (r.ty == 6) = true) (h : ∀ (j : Nat) r, j < k → l[j]? = some r → (r.ty == 6) = false) : soaOf l = some r := by
  unfold soaOf
  obtain ⟨h1, h2⟩ := List.getElem?_eq_some_iff.1 hk
  rw [List.find?_eq_some_iff_getElem]
  refine ⟨hs, k, h1, h2, fun j hj => ?_⟩
  rw [h j l[j] hj (List.getElem?_eq_getElem (by omega))]
  rfl
set_option maxHeartbeats 2000000 in
theorem refLife_ (w : World) (a : Am) (ha : a.ok w) (hs : a.small) : Calls Try.prog 42 #[a.val] w fun e w' => e = .returned (.int .i64 a.life) ∧ Below w.heap.size w w' := by
  have hallc := fun W h => all_ W a h hs
  have hs1 := hs.an
  have hs2 := hs.au
  have hs3 := hs.ex
  have hl1 := ha.an.len
  have hl2 := ha.au.len
  have hl3 := ha.ex.len
  unfold Am.val at *
  go_enter Try.func42, Try.ntmps42
  have hb0 := below_new w (.cells #[.int .u16 a.rc, .bool a.aa, .slice a.an.a a.an.n a.an.c, .slice a.au.a a.au.n a.au.c, .slice a.ex.a a.ex.n a.ex.c] 28)
  have hB := Blk.new w 28 #[.int .u16 a.rc, .bool a.aa, .slice a.an.a a.an.n a.an.c, .slice a.au.a a.au.n a.au.c, .slice a.ex.a a.ex.n a.ex.c]
  have ha0 := ha.below hb0
  by_cases hdead : a.rc ≠ 0 ∧ a.rc ≠ 3
  · have e : a.life = 0 := by unfold Am.life lifeV; rw [if_pos hdead]
    have q1 : (a.rc != 0) = true := by simpa using hdead.1
    have q2 : (a.rc != 3) = true := by simpa using hdead.2
    rw [e]
    go_wp2
    go_ret
    exact ⟨rfl, hb0⟩
  · have hrun : a.rc = 0 ∨ a.rc = 3 := by omega
    have hall : ∀ r ∈ a.an.l ++ a.au.l ++ a.ex.l, r.ok := by
      intro r hr
      simp only [List.mem_append] at hr
      rcases hr with (h | h) | h
      · exact ha.an.ok r h
      · exact ha.au.ok r h
      · exact ha.ex.ok r h
    rcases hrun with h | h
    · have q1 : (a.rc != 0) = false := by simp [h]
      have q3 : (a.rc == 0) = true := by simp [h]
      by_cases hn : 0 < a.an.n
      · have hne : a.an.l ≠ [] := fun e => by rw [e] at hl1; simp at hl1; omega
        have hn' : (0 : Int) < (a.an.n : Int) := by omega
        have Hh := Lib.hid h
        have Hd := Lib.hid hdead
        clear h hdead
        go_wp2_with (go_at_call 50; refine (hallc _ ha0).mono ?_; clear hallc; rintro e w1 ⟨v, rfl, ho, hb1⟩; have k3 := (hB.below hb1).cell 3 _ rfl; have k2 := (hB.below hb1).cell 2 _ rfl; have k0 := (hB.below hb1).cell 0 _ rfl; have hau := ha0.au.r.below hb1; obtain ⟨Av, cv, rfl, hrv⟩ := own_rd ho; clear ho)
        have hbw := below_trans hb0 hb1
        clear hb0 hB ha0 hb1
        obtain ⟨LL, hLL⟩ : ∃ x, a.an.l ++ a.au.l ++ a.ex.l = x := ⟨_, rfl⟩
        rw [hLL] at hrv hall
        have hln := Rd.recs hrv
        obtain ⟨N, hN⟩ : ∃ x, a.an.n + a.au.n + a.ex.n = x := ⟨_, rfl⟩
        rw [hN] at hrv hln ⊢
        have hN9 : N ≤ 90 := by omega
        clear hN
        go_loopw [3, 5] (fun m i wr => ∃ k : Nat, k ≤ N ∧ m = .int .i64 (mn 2147483647 (LL.take k)) ∧ i = .int .i64 k ∧ wr = w1) (fun _ i _ => N - (intOf i).toNat)
        case atStart => exact ⟨0, Nat.zero_le _, rfl, rfl, rfl⟩
        case round =>
          obtain ⟨k, hk, rfl, rfl, rfl⟩ := hrel
          by_cases hlt : k < N
          · obtain ⟨r, hrk⟩ : ∃ r, LL[k]? = some r := ⟨LL[k], List.getElem?_eq_getElem (by omega)⟩
            have hro := hall r (List.mem_of_getElem? hrk)
            cases Av with
            | none => have := (hrv.nil_ rfl).1; omega
            | some ad =>
            have hcs := Rd.rec hrv k r hrk
            have hct := cells_at hcs 2 _ rfl
            have hcnt := fun W => counts_ W r.ttl hro.ttl.1 hro.ttl.2
            have hsn : mn 2147483647 (LL.take (k + 1)) = mi (mn 2147483647 (LL.take k)) (cnt r.ttl) := by
              obtain ⟨h2, h3⟩ := List.getElem?_eq_some_iff.1 hrk
              rw [List.take_succ_eq_append_getElem h2, h3, mn_snoc]
            have HSN := Lib.hid hsn
            clear hsn hro hcs
            obtain ⟨M, hM⟩ : ∃ M, mn 2147483647 (LL.take k) = M := ⟨_, rfl⟩
            have HM := Lib.hid hM
            rw [hM]
            clear hM
            obtain ⟨C, hC⟩ : ∃ C, cnt r.ttl = C := ⟨_, rfl⟩
            have HC := Lib.hid hC
            rw [hC] at hcnt
            clear hC
            go_wp2_with (go_at_call 51; refine (hcnt _).mono ?_; rintro e w5 ⟨rfl, rfl⟩)
            go_roundw
            case rel => exact ⟨k + 1, by omega, by rw [HSN.out, HM.out, HC.out]; rfl, by go_num, trivial⟩
            case measure => simp [intOf]; omega
          · obtain rfl : k = N := by omega
            rw [List.take_of_length_le (Nat.le_of_eq hln)]
            obtain ⟨M, hM⟩ : ∃ M, mn 2147483647 LL = M := ⟨_, rfl⟩
            rw [hM]
            have HM := Lib.hid hM
            clear hM hln hrv hall
            go_wp2
            go_ret
            have e : a.life = M := by unfold Am.life lifeV; rw [if_neg Hd.out, if_pos ⟨Hh.out, hne⟩, hLL, HM.out]
            exact ⟨by rw [e]; rfl, hbw⟩
      · have hne : ¬ (a.rc = 0 ∧ a.an.l ≠ []) := fun e => e.2 (List.eq_nil_of_length_eq_zero (by omega))
        have hn' : ¬ (0 : Int) < (a.an.n : Int) := by omega
        have Hne := Lib.hid hne
        have Hd := Lib.hid hdead
        clear h hdead hne
        go_wp2_with (go_at_call 50; refine (hallc _ ha0).mono ?_; clear hallc; rintro e w1 ⟨v, rfl, ho, hb1⟩; have k3 := (hB.below hb1).cell 3 _ rfl; have k2 := (hB.below hb1).cell 2 _ rfl; have k0 := (hB.below hb1).cell 0 _ rfl; have hau := ha0.au.r.below hb1; obtain ⟨Av, cv, rfl, hrv⟩ := own_rd ho; clear ho)
        have hbw := below_trans hb0 hb1
        clear hb0 hB ha0 hb1
        obtain ⟨LL, hLL⟩ : ∃ x, a.an.l ++ a.au.l ++ a.ex.l = x := ⟨_, rfl⟩
        rw [hLL] at hrv hall
        have hln := Rd.recs hrv
        obtain ⟨N, hN⟩ : ∃ x, a.an.n + a.au.n + a.ex.n = x := ⟨_, rfl⟩
        rw [hN] at hrv hln ⊢
        have hN9 : N ≤ 90 := by omega
        clear hN
        go_loopw [3, 5] (fun m i wr => ∃ k : Nat, k ≤ N ∧ m = .int .i64 (mn 2147483647 (LL.take k)) ∧ i = .int .i64 k ∧ wr = w1) (fun _ i _ => N - (intOf i).toNat)
        case atStart => exact ⟨0, Nat.zero_le _, rfl, rfl, rfl⟩
        case round =>
          obtain ⟨k, hk, rfl, rfl, rfl⟩ := hrel
          by_cases hlt : k < N
          · obtain ⟨r, hrk⟩ : ∃ r, LL[k]? = some r := ⟨LL[k], List.getElem?_eq_getElem (by omega)⟩
            have hro := hall r (List.mem_of_getElem? hrk)
            cases Av with
            | none => have := (hrv.nil_ rfl).1; omega
            | some ad =>
            have hcs := Rd.rec hrv k r hrk
            have hct := cells_at hcs 2 _ rfl
            have hcnt := fun W => counts_ W r.ttl hro.ttl.1 hro.ttl.2
            have hsn : mn 2147483647 (LL.take (k + 1)) = mi (mn 2147483647 (LL.take k)) (cnt r.ttl) := by
              obtain ⟨h2, h3⟩ := List.getElem?_eq_some_iff.1 hrk
              rw [List.take_succ_eq_append_getElem h2, h3, mn_snoc]
            have HSN := Lib.hid hsn
            clear hsn hro hcs
            obtain ⟨M, hM⟩ : ∃ M, mn 2147483647 (LL.take k) = M := ⟨_, rfl⟩
            have HM := Lib.hid hM
            rw [hM]
            clear hM
            obtain ⟨C, hC⟩ : ∃ C, cnt r.ttl = C := ⟨_, rfl⟩
            have HC := Lib.hid hC
            rw [hC] at hcnt
            clear hC
            go_wp2_with (go_at_call 51; refine (hcnt _).mono ?_; rintro e w5 ⟨rfl, rfl⟩)
            go_roundw
            case rel => exact ⟨k + 1, by omega, by rw [HSN.out, HM.out, HC.out]; rfl, by go_num, trivial⟩
            case measure => simp [intOf]; omega
          · obtain rfl : k = N := by omega
            rw [List.take_of_length_le (Nat.le_of_eq hln)]
            obtain ⟨M, hM⟩ : ∃ M, mn 2147483647 LL = M := ⟨_, rfl⟩
            rw [hM]
            have HM := Lib.hid hM
            clear hM hln hrv hall
            obtain ⟨w5, rfl⟩ : ∃ x, x = wr := ⟨wr, rfl⟩
            go_wp2
            go_loopw [6] (fun i wr => ∃ j : Nat, j ≤ a.au.n ∧ i = .int .i64 j ∧ (∀ (q : Nat) r, q < j → a.au.l[q]? = some r → (r.ty == 6) = false) ∧ wr = w5) (fun i _ => a.au.n - (intOf i).toNat)
            case atStart => exact ⟨0, Nat.zero_le _, rfl, fun q r hq => absurd hq (by omega), rfl⟩
            case round =>
              obtain ⟨j, hj, rfl, hno, rfl⟩ := hrel
              by_cases hlt2 : j < a.au.n
              · obtain ⟨r, hrk⟩ : ∃ r, a.au.l[j]? = some r := ⟨a.au.l[j], List.getElem?_eq_getElem (by omega)⟩
                have hro := ha.au.ok r (List.mem_of_getElem? hrk)
                obtain ⟨ad, had⟩ : ∃ x, a.au.a = some x := by
                  cases hx : a.au.a with
                  | none => have := (hau.nil_ hx).1; omega
                  | some x => exact ⟨x, rfl⟩
                rw [had] at k3 hau
                have hcs := Rd.rec hau j r hrk
                have hct := cells_at hcs 0 _ rfl
                have hc4 := cells_at hcs 10 _ rfl
                have hcnt := fun W => counts_ W r.n4 hro.n4.1 hro.n4.2
                cases hq : (r.ty == 6) with
                | true =>
                  have e : a.life = mi M (cnt r.n4) := by unfold Am.life lifeV; rw [if_neg Hd.out, if_neg Hne.out, hLL, HM.out, soaOf_some hrk hq hno]
                  obtain ⟨C, hC⟩ : ∃ C, cnt r.n4 = C := ⟨_, rfl⟩
                  rw [hC] at hcnt e
                  have HE := Lib.hid e
                  clear e hC
                  by_cases hcm : C < M
                  · go_wp2_with (go_at_call 51; refine (hcnt _).mono ?_; rintro e w6 ⟨rfl, rfl⟩)
                    go_ret
                    exact ⟨by rw [HE.out, show mi M C = C from if_pos hcm]; rfl, hbw⟩
                  · go_wp2_with (go_at_call 51; refine (hcnt _).mono ?_; rintro e w6 ⟨rfl, rfl⟩)
                    go_ret
                    exact ⟨by rw [HE.out, show mi M C = M from if_neg (by omega)]; rfl, hbw⟩
                | false =>
                  go_wp2
                  go_roundw
                  case rel =>
                    refine ⟨j + 1, by omega, by go_num, fun q x h1 h2 => ?_, trivial⟩
                    by_cases hjk : q < j
                    · exact hno q x hjk h2
                    · obtain rfl : q = j := by omega
                      rw [hrk] at h2
                      cases h2
                      exact hq
                  case measure => simp [intOf]; omega
              · have e : a.life = 0 := by unfold Am.life lifeV; rw [if_neg Hd.out, if_neg Hne.out, soaOf_none (fun q r h => hno q r (by have := (List.getElem?_eq_some_iff.1 h).1; omega) h)]
                go_wp2
                go_ret
                exact ⟨by rw [e]; rfl, hbw⟩
    · have q1 : (a.rc != 0) = true := by simp [h]
      have q2 : (a.rc != 3) = false := by simp [h]
      have q3 : (a.rc == 0) = false := by simp [h]
      have hne : ¬ (a.rc = 0 ∧ a.an.l ≠ []) := fun e => by omega
      have Hne := Lib.hid hne
      have Hd := Lib.hid hdead
      clear h hdead hne
      go_wp2_with (go_at_call 50; refine (hallc _ ha0).mono ?_; clear hallc; rintro e w1 ⟨v, rfl, ho, hb1⟩; have k3 := (hB.below hb1).cell 3 _ rfl; have k2 := (hB.below hb1).cell 2 _ rfl; have k0 := (hB.below hb1).cell 0 _ rfl; have hau := ha0.au.r.below hb1; obtain ⟨Av, cv, rfl, hrv⟩ := own_rd ho; clear ho)
      have hbw := below_trans hb0 hb1
      clear hb0 hB ha0 hb1
      obtain ⟨LL, hLL⟩ : ∃ x, a.an.l ++ a.au.l ++ a.ex.l = x := ⟨_, rfl⟩
      rw [hLL] at hrv hall
      have hln := Rd.recs hrv
      obtain ⟨N, hN⟩ : ∃ x, a.an.n + a.au.n + a.ex.n = x := ⟨_, rfl⟩
      rw [hN] at hrv hln ⊢
      have hN9 : N ≤ 90 := by omega
      clear hN
      go_loopw [3, 5] (fun m i wr => ∃ k : Nat, k ≤ N ∧ m = .int .i64 (mn 2147483647 (LL.take k)) ∧ i = .int .i64 k ∧ wr = w1) (fun _ i _ => N - (intOf i).toNat)
      case atStart => exact ⟨0, Nat.zero_le _, rfl, rfl, rfl⟩
      case round =>
        obtain ⟨k, hk, rfl, rfl, rfl⟩ := hrel
        by_cases hlt : k < N
        · obtain ⟨r, hrk⟩ : ∃ r, LL[k]? = some r := ⟨LL[k], List.getElem?_eq_getElem (by omega)⟩
          have hro := hall r (List.mem_of_getElem? hrk)
          cases Av with
          | none => have := (hrv.nil_ rfl).1; omega
          | some ad =>
          have hcs := Rd.rec hrv k r hrk
          have hct := cells_at hcs 2 _ rfl
          have hcnt := fun W => counts_ W r.ttl hro.ttl.1 hro.ttl.2
          have hsn : mn 2147483647 (LL.take (k + 1)) = mi (mn 2147483647 (LL.take k)) (cnt r.ttl) := by
            obtain ⟨h2, h3⟩ := List.getElem?_eq_some_iff.1 hrk
            rw [List.take_succ_eq_append_getElem h2, h3, mn_snoc]
          have HSN := Lib.hid hsn
          clear hsn hro hcs
          obtain ⟨M, hM⟩ : ∃ M, mn 2147483647 (LL.take k) = M := ⟨_, rfl⟩
          have HM := Lib.hid hM
          rw [hM]
          clear hM
          obtain ⟨C, hC⟩ : ∃ C, cnt r.ttl = C := ⟨_, rfl⟩
          have HC := Lib.hid hC
          rw [hC] at hcnt
          clear hC
          go_wp2_with (go_at_call 51; refine (hcnt _).mono ?_; rintro e w5 ⟨rfl, rfl⟩)
          go_roundw
          case rel => exact ⟨k + 1, by omega, by rw [HSN.out, HM.out, HC.out]; rfl, by go_num, trivial⟩
          case measure => simp [intOf]; omega
        · obtain rfl : k = N := by omega
          rw [List.take_of_length_le (Nat.le_of_eq hln)]
          obtain ⟨M, hM⟩ : ∃ M, mn 2147483647 LL = M := ⟨_, rfl⟩
          rw [hM]
          have HM := Lib.hid hM
          clear hM hln hrv hall
          obtain ⟨w5, rfl⟩ : ∃ x, x = wr := ⟨wr, rfl⟩
          go_wp2
          go_loopw [6] (fun i wr => ∃ j : Nat, j ≤ a.au.n ∧ i = .int .i64 j ∧ (∀ (q : Nat) r, q < j → a.au.l[q]? = some r → (r.ty == 6) = false) ∧ wr = w5) (fun i _ => a.au.n - (intOf i).toNat)
          case atStart => exact ⟨0, Nat.zero_le _, rfl, fun q r hq => absurd hq (by omega), rfl⟩
          case round =>
            obtain ⟨j, hj, rfl, hno, rfl⟩ := hrel
            by_cases hlt2 : j < a.au.n
            · obtain ⟨r, hrk⟩ : ∃ r, a.au.l[j]? = some r := ⟨a.au.l[j], List.getElem?_eq_getElem (by omega)⟩
              have hro := ha.au.ok r (List.mem_of_getElem? hrk)
              obtain ⟨ad, had⟩ : ∃ x, a.au.a = some x := by
                cases hx : a.au.a with
                | none => have := (hau.nil_ hx).1; omega
                | some x => exact ⟨x, rfl⟩
              rw [had] at k3 hau
              have hcs := Rd.rec hau j r hrk
              have hct := cells_at hcs 0 _ rfl
              have hc4 := cells_at hcs 10 _ rfl
              have hcnt := fun W => counts_ W r.n4 hro.n4.1 hro.n4.2
              cases hq : (r.ty == 6) with
              | true =>
                have e : a.life = mi M (cnt r.n4) := by unfold Am.life lifeV; rw [if_neg Hd.out, if_neg Hne.out, hLL, HM.out, soaOf_some hrk hq hno]
                obtain ⟨C, hC⟩ : ∃ C, cnt r.n4 = C := ⟨_, rfl⟩
                rw [hC] at hcnt e
                have HE := Lib.hid e
                clear e hC
                by_cases hcm : C < M
                · go_wp2_with (go_at_call 51; refine (hcnt _).mono ?_; rintro e w6 ⟨rfl, rfl⟩)
                  go_ret
                  exact ⟨by rw [HE.out, show mi M C = C from if_pos hcm]; rfl, hbw⟩
                · go_wp2_with (go_at_call 51; refine (hcnt _).mono ?_; rintro e w6 ⟨rfl, rfl⟩)
                  go_ret
                  exact ⟨by rw [HE.out, show mi M C = M from if_neg (by omega)]; rfl, hbw⟩
              | false =>
                go_wp2
                go_roundw
                case rel =>
                  refine ⟨j + 1, by omega, by go_num, fun q x h1 h2 => ?_, trivial⟩
                  by_cases hjk : q < j
                  · exact hno q x hjk h2
                  · obtain rfl : q = j := by omega
                    rw [hrk] at h2
                    cases h2
                    exact hq
                case measure => simp [intOf]; omega
            · have e : a.life = 0 := by unfold Am.life lifeV; rw [if_neg Hd.out, if_neg Hne.out, soaOf_none (fun q r h => hno q r (by have := (List.getElem?_eq_some_iff.1 h).1; omega) h)]
              go_wp2
              go_ret
              exact ⟨by rw [e]; rfl, hbw⟩
end Go.Proofs.Ytioehogncgloiaa
