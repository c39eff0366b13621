/- The law DrawAny. -/
import Derived.Test.YtbcpnjgmbdhdkaaD3
import Derived.Test.YtbcpnjgmbdhdkaaDQ
namespace Go.Proofs.Ytbcpnjgmbdhdkaa
open Go.RowKit Go.HL
set_option linter.unusedVariables false
set_option linter.unusedSimpArgs false

theorem own_now_ne {w : World} {base n : Nat} {v : Value} {xs : List Value} {b : Nat} {l : List Int} (h : w.ownsRow base 26 1 v n xs) (ha : Arr 3 w b l) : some b ≠ v.ownBlock := by
  rcases h.2 with ⟨rfl, _⟩ | ⟨g, cap, cur, rfl, _, hh, _⟩
  · simp [Value.ownBlock]
  · intro e
    have : b = g := by simpa [Value.ownBlock] using e
    subst this
    unfold Arr at ha
    rw [ha] at hh
    injection hh with hh
    injection hh with _ ht
    exact absurd ht (by decide)
theorem own_set {w : World} {base n size : Nat} {e : TypeId} {v : Value} {xs : List Value} {b : Nat} (h : w.ownsRow base e size v n xs) (hne : some b ≠ v.ownBlock) (j : Nat) (u : Value) : (w.setCell ⟨b, j, none⟩ u).ownsRow base e size v n xs :=
  h.kept (grownBy_set w b j u) (.inr fun e => hne e.symm)
/-- What is owned beyond a base is no block below it. -/
theorem own_rd_ne {w : World} {base n size : Nat} {e : TypeId} {v : Value} {cs : List Value} (h : w.ownsRow base e size v n cs) (o : Option Nat) (ho : ∀ k, o = some k → k < base) :
    ∃ A c, v = .slice A n c ∧ Rd w size A n c cs ∧ ∀ a, A = some a → some a.block ≠ o := by
  have hb := own_base h
  obtain ⟨A, c, rfl, hr⟩ := own_rd h
  refine ⟨A, c, rfl, hr, fun a ha e => ?_⟩
  subst ha
  rcases h.2 with ⟨h, _⟩ | ⟨g', cap, cur, he, hbb, _⟩
  · cases h
  · cases he
    have := ho _ e.symm
    simp at this
    omega

set_option maxRecDepth 100000 in
set_option maxHeartbeats 4000000 in
theorem drawAny_core (w : World) (A : Option Addr) (n c : Nat) (l : List UInt8) (hr : Rd w 1 A n c (bs l)) (hn : n ≤ 200) :
    Calls Try.prog 3 #[.slice A n c] w (Tells w (.bool true)) := by
  have hmk := fun W => run_make_row' (P := Try.prog) 24 3 (.int .i64 0) 8 Try.underlying24 info_int rfl .i64 .i64 n (by omega) (by omega) W
  go_enter Try.func3, Try.ntmps3
  go_wp2
  go_loopw [4, 5] (fun rv i wr => ∃ (k : Nat) (r : List Int), k ≤ n ∧ i = .int .i64 k ∧ wr.ownsRow w.heap.size 3 1 rv k (is r) ∧ Perm k r ∧ Below w.heap.size w wr) (fun _ i _ => n - (intOf i).toNat)
  case atStart => exact ⟨0, [], Nat.zero_le _, rfl, World.ownsRow_nil _ _ _ _, perm_upto 0, Below.refl _ _⟩
  case round =>
    obtain ⟨k, r, hk, rfl, ho, hp, hb⟩ := hrel
    by_cases hlt : k < n
    · cases A with
      | none => have := (hr.nil_ rfl).1; omega
      | some ad =>
      have hat := (hr.below hb).at k hlt
      obtain ⟨o, ho8⟩ : ∃ o, (l.getD k 0).toNat = o := ⟨_, rfl⟩
      have hob := (l.getD k 0).toNat_lt
      rw [ho8] at hat hob
      have hmd : ((o : Int) % ((k : Int) + 1)) = ((o % (k + 1) : Nat) : Int) := by push_cast; rfl
      have hal : o % (k + 1) < k + 1 := Nat.mod_lt _ (by omega)
      have hpi := hp.ins (o % (k + 1)) (by omega)
      obtain ⟨a, ha⟩ : ∃ a, o % (k + 1) = a := ⟨_, rfl⟩
      rw [ha] at hmd hal hpi
      have hkl : r.length = k := hp.len
      have hz := hb.size
      clear ha ho8 hp
      have HPI := Lib.hid hpi
      clear hpi
      rcases ho.2 with ⟨rfl, hk0⟩ | ⟨g, c1, cur, rfl, hgb, hgh, hgc, _⟩
      · obtain rfl : k = 0 := by omega
        obtain rfl : a = 0 := by omega
        obtain rfl : r = [] := List.eq_nil_of_length_eq_zero hkl
        clear hmk
        have hat0 : wr.cell? ad = some (.int .u8 (o : Int)) := by rw [Addr.add_zero'] at hat; exact hat
        clear hat hmd hal hkl hk0
        go_wp2_with (first | (at_builtin; refine wpList_app_nil wr wr wr.heap.size rfl _ _ 24 24 3 (.int .i64 0) 1 8 rfl Try.underlying24 info_int rfl (by omega) (by omega) rfl (.slice none 0 0) 0 [] rfl (.slice (Rd.nil _ _) (by simp)) (Below.refl _ _) (Nat.le_refl _) (by omega) ?_; intro v1 w1 ho1 hb1 hg1; obtain ⟨A2, c2, rfl, hr2, hne2⟩ := own_rd_ne ho1 none (by simp); have hb01 := below_trans hb hb1) | (at_builtin; refine wpList_app1 (w0 := w) w.heap.size rfl _ _ 24 3 (.int .i64 0) 8 rfl Try.underlying24 info_int rfl (by omega) (.slice none 0 0) 0 [] (.int .i64 0) rfl (.own (World.ownsRow_nil _ _ _ _)) rfl rfl hb01 hb01.size (by omega) ?_; intro v3 w3 ho3 hb3 hg3; have hr3 := hr2.grown hg3 hne2) | (at_builtin; refine wpList_app (w0 := w) w3 w.heap.size rfl _ _ 24 24 3 (.int .i64 0) 1 8 rfl Try.underlying24 info_int rfl (by omega) (by omega) v3 1 _ rfl (.own ho3) (.slice A2 0 c2) 0 [] rfl (.slice hr3 (by simp)) hb3 hb3.size (by omega) ?_; intro v4 w4 _ ho4 hb4 hg4; have ho5 := ho4 (.inr ho3)))
        go_roundw
        case rel => exact ⟨1, [0], by omega, by go_num, by simpa [is] using ho5, by simpa using HPI.out, hb4⟩
        case measure => simp [intOf]; omega
      · have ho2 := own_pre ho a (by omega)
        have e1 : (is r).take a = is (r.take a) := by simp [is]
        rw [e1] at ho2
        clear e1
        obtain ⟨A1, c2, he, hr1⟩ := own_rd ho
        cases he
        have hrest := hr1.sliced a k (by omega) (Nat.le_refl _)
        have e2 : ((is r).drop a).take (k - a) = is (r.drop a) := by rw [List.take_of_length_le (by simp [is]; omega)]; simp [is]
        rw [e2] at hrest
        have hgw : g < wr.heap.size := (Array.getElem?_eq_some_iff.1 hgh).1
        clear hmk e2
        by_cases hca : c1 = a
        · clear hrest hr1
          subst hca
          obtain rfl : k = c1 := by omega
          rw [show r.take k = r from List.take_of_length_le (by omega), show r.drop k = [] from List.drop_eq_nil_of_le (by omega), List.append_nil] at HPI
          rw [show r.take k = r from List.take_of_length_le (by omega)] at ho2
          go_wp2_with (first | (at_builtin; refine wpList_app_nil wr wr wr.heap.size rfl _ _ 24 24 3 (.int .i64 0) 1 8 rfl Try.underlying24 info_int rfl (by omega) (by omega) rfl (.slice (some ⟨g, 0, none⟩) 0 0) 0 [] rfl (.slice (Rd.empty _ _ _ _) (by simp)) (Below.refl _ _) (Nat.le_refl _) (by omega) ?_; intro v1 w1 ho1 hb1 hg1; obtain ⟨A2, c2, rfl, hr2, hne2⟩ := own_rd_ne ho1 (some g) (by simpa using hgw); have hb01 := below_trans hb hb1; have ho6 := own_below ho2 hb1) | (at_builtin; refine wpList_app1 (w0 := w) w.heap.size rfl _ _ 24 3 (.int .i64 0) 8 rfl Try.underlying24 info_int rfl (by omega) (.slice (some ⟨g, 0, none⟩) k k) k (is r) (.int .i64 k) rfl (.own ho6) rfl rfl hb01 hb01.size (by omega) ?_; intro v3 w3 ho3 hb3 hg3; have hr3 := hr2.grown hg3 hne2) | (at_builtin; refine wpList_app (w0 := w) w3 w.heap.size rfl _ _ 24 24 3 (.int .i64 0) 1 8 rfl Try.underlying24 info_int rfl (by omega) (by omega) v3 (k + 1) _ rfl (.own ho3) (.slice A2 0 c2) 0 [] rfl (.slice hr3 (by simp)) hb3 hb3.size (by omega) ?_; intro v4 w4 _ ho4 hb4 hg4; have ho5 := ho4 (.inr ho3)))
          go_roundw
          case rel => exact ⟨k + 1, r ++ [(k : Int)], by omega, by go_num, by simpa [is] using ho5, HPI.out, hb4⟩
          case measure => simp [intOf]; omega
        · rw [if_neg hca, Option.map_some, add_plain] at hrest
          go_wp2_with (first | (at_builtin; refine wpList_app_nil wr wr wr.heap.size rfl _ _ 24 24 3 (.int .i64 0) 1 8 rfl Try.underlying24 info_int rfl (by omega) (by omega) rfl (.slice (some ⟨g, a, none⟩) (k - a) (c1 - a)) (k - a) (is (r.drop a)) rfl (.slice hrest (is_one _)) (Below.refl _ _) (Nat.le_refl _) (by omega) ?_; intro v1 w1 ho1 hb1 hg1; obtain ⟨A2, c2, rfl, hr2, hne2⟩ := own_rd_ne ho1 (some g) (by simpa using hgw); have hb01 := below_trans hb hb1; have ho6 := own_below ho2 hb1) | (at_builtin; refine wpList_app1 (w0 := w) w.heap.size rfl _ _ 24 3 (.int .i64 0) 8 rfl Try.underlying24 info_int rfl (by omega) (.slice (some ⟨g, 0, none⟩) a c1) a (is (r.take a)) (.int .i64 k) rfl (.own ho6) rfl rfl hb01 hb01.size (by omega) ?_; intro v3 w3 ho3 hb3 hg3; have hr3 := hr2.grown hg3 hne2) | (at_builtin; refine wpList_app (w0 := w) w3 w.heap.size rfl _ _ 24 24 3 (.int .i64 0) 1 8 rfl Try.underlying24 info_int rfl (by omega) (by omega) v3 (a + 1) _ rfl (.own ho3) (.slice A2 (k - a) c2) (k - a) (is (r.drop a)) rfl (.slice hr3 (is_one _)) hb3 hb3.size (by omega) ?_; intro v4 w4 _ ho4 hb4 hg4; have ho5 := ho4 (.inr ho3)))
          go_roundw
          case rel => exact ⟨k + 1, r.take a ++ [(k : Int)] ++ r.drop a, by omega, by go_num, by rw [show k + 1 = a + 1 + (k - a) by omega]; simpa [is] using ho5, HPI.out, hb4⟩
          case measure => simp [intOf]; omega
    · obtain rfl : k = n := by omega
      obtain ⟨A1, c1, rfl, hr1⟩ := own_rd ho
      have hmade := Arr.made 3 wr k
      have hz0 := hb.size
      go_wp2
      clear hmk
      obtain ⟨wo, rfl⟩ : ∃ wo : World, wo = wr := ⟨_, rfl⟩
      go_loopw [9] (fun i wr => ∃ q : Nat, q ≤ k ∧ i = .int .i64 q ∧ Ar wr wo.heap.size (upto q ++ List.replicate (k - q) 0) ∧ Below wo.heap.size wo wr) (fun i _ => k - (intOf i).toNat)
      case atStart => exact ⟨0, Nat.zero_le _, rfl, by simpa [upto] using hmade, below_new _ _⟩
      case round =>
        clear hmade
        obtain ⟨q, hq, rfl, ha, hbq⟩ := hrel
        by_cases hlt : q < k
        · have hset := ha.set q (q : Int)
          rw [upto_step k q hlt] at hset
          have hc := ha.cell q (by simp [upto_length]; omega)
          have hf := ha.free q
          have hb2 : Below wo.heap.size wo (wr.setCell ⟨wo.heap.size, q, none⟩ (.int .i64 (q : Int))) := hbq.setCell (Nat.le_refl _) _
          clear ha hbq
          go_wp2
          go_roundw
          case rel => exact ⟨q + 1, by omega, by go_num, hset, hb2⟩
          case measure => simp [intOf]; omega
        · obtain rfl : q = k := by omega
          rw [Nat.sub_self, List.replicate_zero, List.append_nil] at ha
          have hP := Put.start q r
          obtain ⟨wn, rfl⟩ : ∃ wn : World, wn = wr := ⟨_, rfl⟩
          go_wp2
          go_loopw [10, 11] (fun lv i wr => ∃ (m : Nat) (now lq : List Int), m ≤ q ∧ i = .int .i64 ((m : Int) - 1) ∧ wr.ownsRow wo.heap.size 26 1 lv lq.length (us lq) ∧ Ar wr wo.heap.size now ∧ Put q m r now lq ∧ Below wo.heap.size wo wr) (fun _ i _ => (intOf i).toNat)
          case atStart => exact ⟨q, upto q, [], Nat.le_refl _, rfl, World.ownsRow_nil _ _ _ _, ha, hP, hbq⟩
          case round =>
            clear ha hP hbq
            obtain ⟨m, now, lq, hm, rfl, hol, ha, hP, hbq⟩ := hrel
            by_cases hm2 : 2 ≤ m
            · obtain ⟨m, rfl⟩ : ∃ q, m = q + 2 := ⟨m - 2, by omega⟩
              obtain ⟨j0, hj0, hje⟩ := hP.find hp hm
              have hP2 := hP.step hm (by omega) hj0 hje
              have hne : ∀ j, j < j0 → now.getD j 0 ≠ r.getD (m + 1) 0 := fun j hj he => by
                have := hP.perm.inj j j0 (by omega) (by omega) (he.trans hje.symm)
                omega
              have hnl := hP.perm.len
              have hll := hP.len
              rw [if_neg (by omega)] at hll
              have e1 : (((m + 2 : Nat) : Int) - 1) = ((m + 1 : Nat) : Int) := by omega
              rw [e1]
              have hrl := hp.len
              obtain ⟨i, hi⟩ : ∃ i, m + 1 = i := ⟨_, rfl⟩
              have him : i < q := by omega
              have hi1 : 1 ≤ i := by omega
              rw [hi] at hP2 hne hj0 hje ⊢
              clear e1 hP hi hm2 hm
              have hz := hbq.size
              obtain ⟨wi, rfl⟩ : ∃ wi : World, wi = wr := ⟨_, rfl⟩
              go_wp2
              cases A1 with
              | none => have := (hr1.nil_ rfl).1; omega
              | some ad =>
              obtain ⟨lv, rfl⟩ : ∃ lv : Value, lv = u10 := ⟨_, rfl⟩
              go_loopw [10, 12] (fun lv' j wr => ∃ p : Nat, p ≤ j0 ∧ lv' = lv ∧ j = .int .i64 p ∧ Below wi.heap.size wi wr) (fun _ j _ => j0 - (intOf j).toNat)
              case atStart => exact ⟨0, Nat.zero_le _, rfl, rfl, Below.refl _ _⟩
              case round =>
                obtain ⟨p, hp0, rfl, rfl, hbp⟩ := hrel
                obtain ⟨lv, rfl⟩ : ∃ lv : Value, lv = u10 := ⟨_, rfl⟩
                have hp2 : p ≤ i := by omega
                have ha2 : Ar wr wo.heap.size now := Arr.grown (row := none) ha ⟨hbp.os, hbp.tape, hbp.output, hbp.size, fun k hk _ => hbp.block k hk⟩ (by simp)
                have hbo : Below wo.heap.size wo wr := hbq.trans ⟨hbp.os, hbp.tape, hbp.output, hbp.size, fun k hk => hbp.block k (by omega)⟩
                have cp := ha2.cell p (by omega)
                have cr := (hr1.below hbo).isAt i him
                obtain ⟨y, hy⟩ : ∃ y, r.getD i 0 = y := ⟨_, rfl⟩
                rw [hy] at cr
                by_cases hpj : p < j0
                · have hne2 := hne p hpj
                  rw [hy] at hne2
                  obtain ⟨x, hx⟩ : ∃ x, now.getD p 0 = x := ⟨_, rfl⟩
                  rw [hx] at cp hne2
                  clear hx hy hP2 hje
                  go_wp2_with (fail)
                  go_quiet (fail)
                  go_wp2
                  go_roundw
                  case rel => exact ⟨p + 1, by omega, rfl, by go_num, below_drewN hbp _⟩
                  case measure => simp [intOf]; omega
                · obtain rfl : p = j0 := by omega
                  rw [hje, hy] at cp
                  go_wp2_with (fail)
                  go_quiet (fail)
                  have hol3 := own_below (own_below hol hbp) (below_drewN (Below.refl _ _) nq)
                  have ha3 : Ar (wr.drewN nq) wo.heap.size now := Arr.grown (row := none) ha2 ⟨rfl, rfl, rfl, Nat.le_refl _, fun k _ _ => rfl⟩ (by simp)
                  have hbo3 := below_drewN hbo nq
                  obtain ⟨wq, hwq⟩ : ∃ wq, wr.drewN nq = wq := ⟨_, rfl⟩
                  rw [hwq] at hol3 ha3 hbo3 ⊢
                  clear hwq ha2 ha hbo hbp hol cp cr
                  go_wp2_with (at_builtin; refine wpList_app1 (w0 := wo) wo.heap.size rfl _ _ 25 26 (.int .u32 0) 4 rfl Try.underlying25 info_u32 rfl (by omega) lv lq.length (us lq) (.int .u32 p) rfl (.own hol3) rfl rfl hbo3 hbo3.size (by omega) ?_; intro v5 w5 ho5 hb5 hg5)
                  have hne5 := own_now_ne hol3 ha3
                  have ha5 : Ar w5 wo.heap.size now := ha3.grown hg5 hne5
                  obtain ⟨x, hx⟩ : ∃ x, now.getD i 0 = x := ⟨_, rfl⟩
                  obtain ⟨y2, hy2⟩ : ∃ y2, now.getD p 0 = y2 := ⟨_, rfl⟩
                  have ci := ha5.cell i (by omega)
                  have cj := ha5.cell p (by omega)
                  have fi := ha5.free i
                  rw [hx] at ci
                  rw [hy2] at cj
                  have ha6 := ha5.set i y2
                  have csj := ha6.cell p (by rw [List.length_set]; omega)
                  have fsj := ha6.free p
                  have ha7 := ha6.set p x
                  have hsw : (now.set i y2).set p x = swap now i p := by rw [← hx, ← hy2]; rfl
                  rw [hsw] at ha7
                  obtain ⟨z, hz2⟩ : ∃ z, (now.set i y2).getD p 0 = z := ⟨_, rfl⟩
                  rw [hz2] at csj
                  have hne6 := own_now_ne ho5 ha5
                  have ho7 := own_set (own_set ho5 hne6 i (.int .i64 y2)) hne6 p (.int .i64 x)
                  have hus : us lq ++ [.int .u32 (p : Int)] = us (lq ++ [(p : Int)]) := by simp [us]
                  rw [hus] at ho7
                  have hpq : p < q := by omega
                  have HP2 := Lib.hid hP2
                  clear hx hy2 hsw hz2 hus ha5 ha6 ha3 hol3 hbo3 hg5 hje hy hne hP2 ho5 hne5 hne6
                  go_region
                  go_wp2
                  go_roundw
                  case rel =>
                    refine ⟨i, swap now i p, lq ++ [(p : Int)], by omega, by go_num, ?_, ?_, HP2.out, ?_⟩
                    · rw [List.length_append]
                      exact own_below ho7 (Below.refl _ _).drew
                    · exact Arr.grown (row := none) ha7 (grownBy_drew ⟨rfl, rfl, rfl, Nat.le_refl _, fun _ _ _ => rfl⟩) (by simp)
                    · exact ((hb5.setCell (Nat.le_refl _) _).setCell (Nat.le_refl _) _).drew
                  case measure => simp [intOf]; omega
            · have hrow := hP.end hp (by omega)
              have hll := hP.len
              have hm3 : (m : Int) - 1 < 1 := by omega
              have hu := hP.small
              clear hP
              obtain ⟨A3, c3, rfl, hr3⟩ := own_rd hol
              have hlt4 : lq.length ≤ 200 := by split at hll <;> omega
              clear hll
              have ht : lq.take 4096 = lq := List.take_of_length_le (by omega)
              obtain ⟨N, hN⟩ : ∃ N, lq.length = N := ⟨_, rfl⟩
              rw [hN] at hr3 hlt4 ⊢
              have hrl := hp.len
              clear hol ha hp hN
              have hzw := hbq.size
              have hnew := new_ wr A3 N c3 lq hr3 (by omega)
              go_wp2_with (go_at_call 10; refine hnew.mono ?_; rintro e w2 ⟨g, rfl, hg, hs2, hb2⟩)
              rw [ht] at hs2
              have hsh := shuffle_ w2 g lq 0 (q : Int) (by omega) (by omega) hu hs2
              have hrn : rowN (q : Int) = q := by
                unfold rowN
                split
                · omega
                · rw [if_neg (by omega)]; omega
              rw [hrn] at hsh
              clear hnew ht hrn
              refine hsh.mono ?_
              rintro e w3 ⟨rfl, ha3, _, _, _, hg3⟩
              rw [hrow] at ha3
              have hB3 : Below wo.heap.size wo w3 := (below_trans hbq hb2).grown hg3 (Nat.le_trans hzw hb2.size) (fun k hk => by cases hk; omega)
              have hBw := below_trans hb hB3
              have har := Arr.rd ha3
              rw [hrl] at har
              have hii := ints_ w3 _ _ _ _ _ _ _ _ har (hr1.below hB3) (by omega)
              rw [decide_eq_true rfl] at hii
              clear hsh hrow hbq hb2 hg3 hs2 hg hr1 hr3 har ha3 hB3
              go_wp2_with (first | (go_at_call 9; refine hii.mono ?_; rintro e w4 ⟨rfl, hb4⟩) | (go_at_call 8; refine (wakes _).mono ?_; rintro e w5 ⟨rfl, hb5⟩))
              go_ret
              exact ⟨rfl, below_trans (below_trans hBw hb4) hb5⟩
set_option maxRecDepth 100000 in
theorem drawAny_walk (w : World) (A : Option Addr) (n c : Nat) (l : List UInt8) (hr : Rd w 1 A n c (bs l)) (hy : c * 1 ≤ 140737488351232) :
    Calls Try.prog 3 #[.slice A n c] w (Tells w (.bool true)) := by
  by_cases hn : n ≤ 200
  · exact drawAny_core w A n c l hr hn
  · have hn2 : 200 < n := by omega
    go_enter Try.func3, Try.ntmps3
    go_wp2_with (go_at_call 8; refine (wakes _).mono ?_; rintro e w5 ⟨rfl, hb5⟩)
    go_ret
    exact ⟨rfl, hb5⟩
end Go.Proofs.Ytbcpnjgmbdhdkaa
