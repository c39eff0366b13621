import Derived.Test.YtdjknikkiojfhaaDoorZMJ
import Derived.Test.YtdjknikkiojfhaaDoorZRDM
/- hearsayref06: bit, Wrong. -/
namespace Go.Proofs.YtdjknikkiojfhaaDoor
open Go.RowKit Go.HL Go.Maps
set_option linter.unusedVariables false
set_option linter.unusedSimpArgs false
theorem bit_ (w : World) (b : Bool) : Calls Tryd.prog 46 #[.bool b] w fun e w' => e = .returned (.int .u32 (bitV b)) ∧ w' = w := by
  cases b
  · go_enter Tryd.func46, Tryd.ntmps46
    go_wp2
    go_ret
    exact ⟨rfl, rfl⟩
  · go_enter Tryd.func46, Tryd.ntmps46
    go_wp2
    go_ret
    exact ⟨rfl, rfl⟩
/-- The parts of a message as a row of slices. -/
def partsL (m : Mg) : List Value := [.slice m.an.a m.an.n m.an.c, .slice m.au.a m.au.n m.au.c, .slice m.ex.a m.ex.n m.ex.c]
theorem partsL_get (m : Mg) (p : Nat) (hp : p < 3) : (partsL m)[p]? = some (.slice (m.part p).a (m.part p).n (m.part p).c) := by
  rcases p with _ | _ | _ | p
  · rfl
  · rfl
  · rfl
  · omega
theorem any_pos {f : Nat → Bool} {n p : Nat} (hp : p < n) (h : f p = true) : (List.range n).any f = true := List.any_eq_true.2 ⟨p, List.mem_range.2 hp, h⟩
theorem any_neg {f : Nat → Bool} {n : Nat} (h : ∀ p, p < n → f p = false) : (List.range n).any f = false := by
  rw [List.any_eq_false]
  intro p hp
  rw [h p (List.mem_range.1 hp)]
  simp
theorem any_more {α : Type} {l : List α} {f : α → Bool} {k : Nat} (h : (l.take k).any f = true) : l.any f = true := by
  obtain ⟨x, h1, h2⟩ := List.any_eq_true.1 h
  exact List.any_eq_true.2 ⟨x, List.mem_of_mem_take h1, h2⟩
/-- What holds of rounds over a row of which nothing was found so far. -/
def RkI (Q : Nat → Prop) (n : Nat) (W2 : World) (i : Value) (wr : World) : Prop := ∃ k : Nat, k ≤ n ∧ i = .int .i64 k ∧ Hid (Q k) ∧ Below W2.heap.size W2 wr
/-- Whether data may be is one for both. -/
theorem dt_same (x : Rc) (h : x.ok) : okF (formV x.ty) x.dt = okR x.ty x.dt := okF_okR x.ty x.dt h.n0.1 h.n1.1 h.n2.1 h.n3.1 h.n4.1
set_option maxRecDepth 8000 in
set_option maxHeartbeats 8000000 in
theorem rwrong_ (w : World) (m : Mg) (ho : m.ok w) (hfit : m.fit 100000000) : Calls Tryd.prog 18 #[m.val] w fun e w' => e = .returned (.int .i64 (wrongV m)) ∧ Below w.heap.size w w' := by
  have hb1 := below_new w (.cells m.cells.toArray 26)
  have hm := Blk.new w 26 m.cells.toArray
  have hb2 := below_new (w.alloc (.cells m.cells.toArray 26)) (.cells (partsL m).toArray 24)
  have hP := Blk.new (w.alloc (.cells m.cells.toArray 26)) 24 (partsL m).toArray
  obtain ⟨W2, hW2⟩ : ∃ x, (w.alloc (.cells m.cells.toArray 26)).alloc (.cells (partsL m).toArray 24) = x := ⟨_, rfl⟩
  rw [hW2] at hb2 hP
  have hm2 := hm.below hb2
  have hb12 := below_trans hb1 hb2
  rw [World.size_alloc] at hP
  have HM := Lib.hid hm2
  have HP := Lib.hid hP
  have HB := Lib.hid hb12
  have HO := Lib.hid (ho.below hb12)
  have HFIT := Lib.hid hfit
  obtain ⟨R, hR⟩ : ∃ R, wrongV m = R := ⟨_, rfl⟩
  rw [hR]
  have HR := Lib.hid hR
  unfold Mg.cells partsL at hW2
  clear hb1 hm hb2 hP hm2 hb12 ho hR
  have hqn := hfit.q
  clear hfit
  unfold Mg.val
  by_cases h1 : 15 < m.op
  · have hr : R = 61 := by rw [← HR.out]; unfold wrongV; rw [if_pos (.inl h1)]
    subst hr
    clear hW2
    go_enter Tryd.func18, Tryd.ntmps18
    go_wp2
    go_ret
    exact ⟨rfl, below_new _ _⟩
  by_cases h2 : 7 < m.z
  · have hr : R = 61 := by rw [← HR.out]; unfold wrongV; rw [if_pos (.inr (.inl h2))]
    subst hr
    clear hW2
    go_enter Tryd.func18, Tryd.ntmps18
    go_wp2
    go_ret
    exact ⟨rfl, below_new _ _⟩
  by_cases h3 : 15 < m.rc
  · have hr : R = 61 := by rw [← HR.out]; unfold wrongV; rw [if_pos (.inr (.inr h3))]
    subst hr
    clear hW2
    go_enter Tryd.func18, Tryd.ntmps18
    go_wp2
    go_ret
    exact ⟨rfl, below_new _ _⟩
  have hw : R = if longP m 3 then 2 else if namesP m 3 then 11 else if dataP m 3 then 40 else 0 := by rw [← HR.out]; unfold wrongV; rw [if_neg (by omega)]
  have HW := Lib.hid hw
  have c9 := HM.out.cell 9 _ rfl
  clear hw HR
  by_cases hql : 4096 < m.q.n
  · have hr : R = 2 := by rw [HW.out, show longP m 3 = true by unfold longP; rw [decide_eq_true hql]; rfl]; rfl
    subst hr
    have hqi : (4096 : Int) < (m.q.n : Int) := by omega
    go_enter Tryd.func18, Tryd.ntmps18
    go_wp2
    go_ret
    exact ⟨rfl, HB.out⟩
  have hqi : ¬ (4096 : Int) < (m.q.n : Int) := by omega
  have HQL := Lib.hid hql
  clear hql
  go_enter Tryd.func18, Tryd.ntmps18
  go_wp2
  clear hqi h1 h2 h3 hW2 c9
  go_loopw [4] (fun i wr => ∃ p : Nat, p ≤ 3 ∧ i = .int .i64 p ∧ W2 = wr ∧ Hid (∀ j, j < p → ¬ 4096 < (m.part j).n)) (fun i _ => 3 - (intOf i).toNat)
  case atStart => exact ⟨0, by omega, rfl, rfl, Lib.hid (fun j hj => by omega)⟩
  case round =>
    obtain ⟨p, hp, rfl, rfl, HE⟩ := hrel
    by_cases hlt : p < 3
    · have hpi : (p : Int) < 3 := by omega
      have hcp := HP.out.cell p _ (partsL_get m p hlt)
      have HLT := Lib.hid hlt
      by_cases hbig : 4096 < (m.part p).n
      · have hr : R = 2 := by rw [HW.out, show longP m 3 = true by unfold longP; rw [any_pos (f := fun j => decide (4096 < (m.part j).n)) hlt (decide_eq_true hbig), Bool.or_true]]; rfl
        have hbi : (4096 : Int) < ((m.part p).n : Int) := by omega
        have HRR := Lib.hid hr
        clear hbig hlt hr
        go_wp2
        go_ret
        exact ⟨by rw [HRR.out]; rfl, HB.out⟩
      · have hbi : ¬ (4096 : Int) < ((m.part p).n : Int) := by omega
        have HBG := Lib.hid hbig
        clear hbig hlt
        go_wp2
        go_roundw
        case rel => exact ⟨p + 1, HLT.out, by go_num, trivial, Lib.hid (fun j hj => by
          by_cases e : j = p
          · rw [e]; exact HBG.out
          · exact HE.out j (by omega))⟩
        case measure => simp [intOf]; omega
    · obtain rfl : p = 3 := by omega
      have hlong : longP m 3 = false := by
        unfold longP
        rw [any_neg (f := fun j => decide (4096 < (m.part j).n)) (fun j hj => decide_eq_false (HE.out j hj)), decide_eq_false HQL.out]
        rfl
      have hw2 := HW.out
      rw [hlong] at hw2
      have HW2 := Lib.hid (show R = if namesP m 3 then 11 else if dataP m 3 then 40 else 0 from hw2)
      have HPN := HE
      clear HW hw2 hlong HE hlt
      go_wp2
      go_loopw [5] (fun i wr => RkI (fun k => badQ (m.q.l.take k) = false) m.q.n W2 i wr) (fun i _ => m.q.n - (intOf i).toNat)
      case atStart => exact ⟨0, Nat.zero_le _, rfl, Lib.hid rfl, Below.refl _ _⟩
      case round =>
        obtain ⟨k, hk, rfl, HE0, hb⟩ := hrel
        have HE := Lib.hid (show badQ (m.q.l.take k) = false from HE0.out)
        clear HE0
        have c9 := (HM.out.below hb).cell 9 _ rfl
        by_cases hlt : k < m.q.n
        · obtain ⟨x, hx⟩ : ∃ x, m.q.l[k]? = some x := ⟨_, List.getElem?_eq_getElem (by rw [HO.out.q.len]; exact hlt)⟩
          have hxs := HFIT.out.qs x (List.mem_of_getElem? hx)
          have hst : badQ (m.q.l.take (k + 1)) = (badQ (m.q.l.take k) || !isNm x.nm) := any_take _ _ _ _ hx
          rw [HE.out, Bool.false_or] at hst
          have hq := HO.out.q.r
          cases hA : m.q.a with
          | none => have := (hq.nil_ hA).1; omega
          | some aq =>
          rw [hA] at hq c9
          have hcb : Cells wr (aq.add (k * 3)) [.string x.nm, .int .u16 x.ty, .int .u16 x.cl] := Rd.que (hq.below hb) k x hx
          have l0 := hcb 0 _ rfl
          rw [Addr.add_zero'] at l0
          have hki : (k : Int) < (m.q.n : Int) := by omega
          have his := fun w => is_ w x.nm (by omega)
          have HST := Lib.hid hst
          have HLT := Lib.hid hlt
          have HBB := Lib.hid hb
          clear hst hq hx hlt hA HE hcb hb
          cases hn : isNm x.nm with
          | true =>
            rw [hn] at his HST
            have HN := Lib.hid hn
            clear hn
            go_wp2_with (go_at_call 44; refine (his _).mono ?_; clear his; rintro e W3 ⟨rfl, hb3⟩)
            go_roundw
            case rel =>
              have hR : RkI (fun k => badQ (m.q.l.take k) = false) m.q.n W2 (.int .i64 ((k : Int) + 1)) W3 := ⟨k + 1, HLT.out, by go_num, HST, below_trans HBB.out hb3⟩
              first | exact hR | (repeat (first | exact ⟨hR, rfl⟩ | apply Exists.intro))
            case measure => simp [intOf]; omega
          | false =>
            rw [hn] at his HST
            have hr : R = 11 := by rw [HW2.out, show namesP m 3 = true by unfold namesP; rw [show badQ m.q.l = true from any_more HST.out]; rfl]; rfl
            have HRR := Lib.hid hr
            clear hn hr
            go_wp2_with (go_at_call 44; refine (his _).mono ?_; clear his; rintro e W3 ⟨rfl, hb3⟩)
            go_ret
            exact ⟨by rw [HRR.out]; rfl, below_trans HB.out (below_trans HBB.out hb3)⟩
        · obtain rfl : k = m.q.n := by omega
          rw [List.take_of_length_le (by rw [HO.out.q.len]; omega)] at HE
          have HQ := HE
          have HB2 := Lib.hid hb
          clear HE hlt hb
          go_wp2
          clear c9
          go_loopw [6, 7] (fun i jv wr => ∃ p : Nat, p ≤ 3 ∧ i = .int .i64 p ∧ Hid (∀ j, j < p → badN (m.part j).l = false) ∧ Below W2.heap.size W2 wr) (fun i _ _ => 3 - (intOf i).toNat)
          case atStart => exact ⟨0, by omega, rfl, Lib.hid (fun j hj => by omega), HB2.out⟩
          case round =>
            obtain ⟨p, hp, rfl, HE, hb⟩ := hrel
            by_cases hlt : p < 3
            · have hpi : (p : Int) < 3 := by omega
              have hpo := Mg.part_ok HO.out p
              have hpn := HPN.out p hlt
              have hrs := HFIT.out.rs p hlt
              obtain ⟨s, hs⟩ : ∃ s, m.part p = s := ⟨_, rfl⟩
              have HCP := Lib.hid (show (partsL m)[p]? = some (.slice s.a s.n s.c) by rw [← hs]; exact partsL_get m p hlt)
              rw [hs] at hpo hpn hrs
              have HPO := Lib.hid hpo
              have HRS := Lib.hid hrs
              have HS := Lib.hid hs
              have hsn : s.n ≤ 4096 := by omega
              have HLT3 := Lib.hid hlt
              have HB3 := Lib.hid hb
              clear hpo hrs hs hpn hlt hb
              go_wp2
              go_loopw [7] (fun i wr => RkI (fun k => badN (s.l.take k) = false) s.n W2 i wr) (fun i _ => s.n - (intOf i).toNat)
              case atStart => exact ⟨0, Nat.zero_le _, rfl, Lib.hid rfl, HB3.out⟩
              case round =>
                obtain ⟨k, hk, rfl, HE0, hb⟩ := hrel
                have HE2 := Lib.hid (show badN (s.l.take k) = false from HE0.out)
                clear HE0
                have cp := (HP.out.below hb).cell p _ HCP.out
                by_cases hlt : k < s.n
                · obtain ⟨x, hx⟩ : ∃ x, s.l[k]? = some x := ⟨_, List.getElem?_eq_getElem (by rw [HPO.out.len]; exact hlt)⟩
                  obtain ⟨hz0, -, -, -⟩ := HRS.out x (List.mem_of_getElem? hx)
                  have hst : badN (s.l.take (k + 1)) = (badN (s.l.take k) || !isNm x.nm) := any_take _ _ _ _ hx
                  rw [HE2.out, Bool.false_or] at hst
                  have hq := HPO.out.r
                  cases hA : s.a with
                  | none => have := (hq.nil_ hA).1; omega
                  | some aq =>
                  rw [hA] at hq cp
                  have hcb : Cells wr (aq.add (k * 12)) [.string x.nm, .int .u16 x.ty, .int .u16 x.cl, .int .u32 x.ttl, .string x.raw, .string x.host, .string x.mail, .int .u32 x.n0, .int .u32 x.n1, .int .u32 x.n2, .int .u32 x.n3, .int .u32 x.n4] := Rd.rec (hq.below hb) k x hx
                  have l0 := hcb 0 _ rfl
                  rw [Addr.add_zero'] at l0
                  have hki : (k : Int) < (s.n : Int) := by omega
                  have his := fun w => is_ w x.nm (by omega)
                  have HST := Lib.hid hst
                  have HLT := Lib.hid hlt
                  have HBB := Lib.hid hb
                  clear hst hq hx hlt hA HE2 hcb hb hz0
                  cases hn : isNm x.nm with
                  | true =>
                    rw [hn] at his HST
                    clear hn
                    go_wp2_with (go_at_call 44; refine (his _).mono ?_; clear his; rintro e W3 ⟨rfl, hb3⟩)
                    go_roundw
                    case rel =>
                      have hR : RkI (fun k => badN (s.l.take k) = false) s.n W2 (.int .i64 ((k : Int) + 1)) W3 := ⟨k + 1, HLT.out, by go_num, HST, below_trans HBB.out hb3⟩
                      first | exact hR | (repeat (first | exact ⟨hR, rfl⟩ | apply Exists.intro))
                    case measure => simp [intOf]; omega
                  | false =>
                    rw [hn] at his HST
                    have hr : R = 11 := by
                      have e1 : badN (m.part p).l = true := by rw [HS.out]; exact any_more HST.out
                      rw [HW2.out, show namesP m 3 = true by unfold namesP; rw [any_pos (f := fun j => badN (m.part j).l) HLT3.out e1, Bool.or_true]]; rfl
                    have HRR := Lib.hid hr
                    clear hn hr
                    go_wp2_with (go_at_call 44; refine (his _).mono ?_; clear his; rintro e W3 ⟨rfl, hb3⟩)
                    go_ret
                    exact ⟨by rw [HRR.out]; rfl, below_trans HB.out (below_trans HBB.out hb3)⟩
                · obtain rfl : k = s.n := by omega
                  rw [List.take_of_length_le (by rw [HPO.out.len]; omega), ← HS.out] at HE2
                  have HQ2 := HE2
                  have HB4 := Lib.hid hb
                  clear HE2 hlt hb
                  go_wp2
                  go_roundw
                  case rel => exact ⟨p + 1, HLT3.out, by go_num, Lib.hid (fun j hj => by
                    by_cases e : j = p
                    · rw [e]; exact HQ2.out
                    · exact HE.out j (by omega)), HB4.out⟩
                  case measure => simp [intOf]; omega
            · obtain rfl : p = 3 := by omega
              have hnm : namesP m 3 = false := by
                unfold namesP
                rw [any_neg (f := fun j => badN (m.part j).l) HE.out, HQ.out]
                rfl
              have hw2 := HW2.out
              rw [hnm] at hw2
              have HW3 := Lib.hid (show R = if dataP m 3 then 40 else 0 from hw2)
              have HB5 := Lib.hid hb
              clear HW2 hw2 hnm HE hlt hb HB2 HQ
              go_wp2
              go_loopw [8, 9] (fun i jv wr => ∃ p : Nat, p ≤ 3 ∧ i = .int .i64 p ∧ Hid (∀ j, j < p → badD (m.part j).l = false) ∧ Below W2.heap.size W2 wr) (fun i _ _ => 3 - (intOf i).toNat)
              case atStart => exact ⟨0, by omega, rfl, Lib.hid (fun j hj => by omega), HB5.out⟩
              case round =>
                obtain ⟨p, hp, rfl, HE, hb⟩ := hrel
                by_cases hlt : p < 3
                · have hpi : (p : Int) < 3 := by omega
                  have hpo := Mg.part_ok HO.out p
                  have hpn := HPN.out p hlt
                  have hrs := HFIT.out.rs p hlt
                  obtain ⟨s, hs⟩ : ∃ s, m.part p = s := ⟨_, rfl⟩
                  have HCP := Lib.hid (show (partsL m)[p]? = some (.slice s.a s.n s.c) by rw [← hs]; exact partsL_get m p hlt)
                  rw [hs] at hpo hpn hrs
                  have HPO := Lib.hid hpo
                  have HRS := Lib.hid hrs
                  have HS := Lib.hid hs
                  have hsn : s.n ≤ 4096 := by omega
                  have HLT3 := Lib.hid hlt
                  have HB3 := Lib.hid hb
                  clear hpo hrs hs hpn hlt hb
                  go_wp2
                  go_loopw [9] (fun i wr => RkI (fun k => badD (s.l.take k) = false) s.n W2 i wr) (fun i _ => s.n - (intOf i).toNat)
                  case atStart => exact ⟨0, Nat.zero_le _, rfl, Lib.hid rfl, HB3.out⟩
                  case round =>
                    obtain ⟨k, hk, rfl, HE0, hb⟩ := hrel
                    have HE2 := Lib.hid (show badD (s.l.take k) = false from HE0.out)
                    clear HE0
                    have cp := (HP.out.below hb).cell p _ HCP.out
                    by_cases hlt : k < s.n
                    · obtain ⟨x, hx⟩ : ∃ x, s.l[k]? = some x := ⟨_, List.getElem?_eq_getElem (by rw [HPO.out.len]; exact hlt)⟩
                      obtain ⟨hz0, hz1, hz2, hz3⟩ := HRS.out x (List.mem_of_getElem? hx)
                      have hst : badD (s.l.take (k + 1)) = (badD (s.l.take k) || !okF (formV x.ty) x.dt) := any_take _ _ _ _ hx
                      rw [HE2.out, Bool.false_or, dt_same x (HPO.out.ok x (List.mem_of_getElem? hx))] at hst
                      have hq := HPO.out.r
                      cases hA : s.a with
                      | none => have := (hq.nil_ hA).1; omega
                      | some aq =>
                      rw [hA] at hq cp
                      have hcb : Cells wr (aq.add (k * 12)) [.string x.nm, .int .u16 x.ty, .int .u16 x.cl, .int .u32 x.ttl, .string x.raw, .string x.host, .string x.mail, .int .u32 x.n0, .int .u32 x.n1, .int .u32 x.n2, .int .u32 x.n3, .int .u32 x.n4] := Rd.rec (hq.below hb) k x hx
                      have l1 := cells_at hcb 0 _ rfl
                      have l4 := cells_at hcb 3 _ rfl
                      have l5 := cells_at hcb 4 _ rfl
                      have l6 := cells_at hcb 5 _ rfl
                      have l7 := cells_at hcb 6 _ rfl
                      have l8 := cells_at hcb 7 _ rfl
                      have l9 := cells_at hcb 8 _ rfl
                      have l10 := cells_at hcb 9 _ rfl
                      have l11 := cells_at hcb 10 _ rfl
                      have hki : (k : Int) < (s.n : Int) := by omega
                      have hic := fun w => rcheck_ w x.ty x.dt (by show x.host.size ≤ _; omega) (by show x.mail.size ≤ _; omega) (by show x.raw.size ≤ _; omega)
                      have HST := Lib.hid hst
                      have HLT := Lib.hid hlt
                      have HBB := Lib.hid hb
                      unfold Dt.val Rc.dt at hic
                      clear hst hq hx hlt hA HE2 hcb hb hz0 hz1 hz2 hz3
                      go_upto_region 30 with (fail)
                      go_still_tail 16, (by kernel_rfl)
                      have hbd : Below W2.heap.size W2 wr.drew := HBB.out.drew
                      cases hn : okR x.ty ⟨x.raw, x.host, x.mail, x.n0, x.n1, x.n2, x.n3, x.n4⟩ with
                      | true =>
                        rw [hn] at hic
                        rw [show x.dt = ⟨x.raw, x.host, x.mail, x.n0, x.n1, x.n2, x.n3, x.n4⟩ from rfl, hn] at HST
                        simp only [if_true] at hic
                        clear hn
                        go_wp2_with (go_at_call 45; refine (hic _).mono ?_; clear hic; rintro e W3 ⟨rfl, hb3⟩; have HB7 := Lib.hid (below_trans hbd (show Below wr.drew.heap.size wr.drew W3 from hb3)); clear hb3 hbd)
                        go_roundw
                        case rel =>
                          have hR : RkI (fun k => badD (s.l.take k) = false) s.n W2 (.int .i64 ((k : Int) + 1)) W3 := ⟨k + 1, HLT.out, by go_num, HST, HB7.out⟩
                          first | exact hR | (repeat (first | exact ⟨hR, rfl⟩ | apply Exists.intro))
                        case measure => simp [intOf]; omega
                      | false =>
                        rw [hn] at hic
                        rw [show x.dt = ⟨x.raw, x.host, x.mail, x.n0, x.n1, x.n2, x.n3, x.n4⟩ from rfl, hn] at HST
                        simp only [if_false, Bool.false_eq_true] at hic
                        have hr : R = 40 := by
                          have e1 : badD (m.part p).l = true := by rw [HS.out]; exact any_more HST.out
                          rw [HW3.out, show dataP m 3 = true from any_pos (f := fun j => badD (m.part j).l) HLT3.out e1]; rfl
                        have HRR := Lib.hid hr
                        clear hn hr
                        go_wp2_with (go_at_call 45; refine (hic _).mono ?_; clear hic; rintro e W3 ⟨rfl, hb3⟩; have HB7 := Lib.hid (below_trans hbd (show Below wr.drew.heap.size wr.drew W3 from hb3)); clear hb3 hbd)
                        go_ret
                        exact ⟨by rw [HRR.out]; rfl, below_trans HB.out HB7.out⟩
                    · obtain rfl : k = s.n := by omega
                      rw [List.take_of_length_le (by rw [HPO.out.len]; omega), ← HS.out] at HE2
                      have HQ2 := HE2
                      have HB4 := Lib.hid hb
                      clear HE2 hlt hb
                      go_wp2
                      go_roundw
                      case rel => exact ⟨p + 1, HLT3.out, by go_num, Lib.hid (fun j hj => by
                        by_cases e : j = p
                        · rw [e]; exact HQ2.out
                        · exact HE.out j (by omega)), HB4.out⟩
                      case measure => simp [intOf]; omega
                · obtain rfl : p = 3 := by omega
                  have hdt : dataP m 3 = false := by
                    unfold dataP
                    exact any_neg (f := fun j => badD (m.part j).l) HE.out
                  have hw3 := HW3.out
                  rw [hdt] at hw3
                  have HW4 := Lib.hid (show R = 0 from hw3)
                  have HB6 := Lib.hid hb
                  clear HW3 hw3 hdt HE hlt hb
                  go_wp2
                  go_ret
                  exact ⟨by rw [HW4.out]; rfl, below_trans HB.out HB6.out⟩
end Go.Proofs.YtdjknikkiojfhaaDoor
