/- Shuffle, and what the laws of layer 15 lean on. -/
import Derived.Test.YtbcpnjgmbdhdkaaD
import Derived.Test.YtbcpnjgmbdhdkaaDS
import Derived.Deep.DeepCutAuto
import Derived.Deep.CutBlock
import Derived.Deep.LoopGhost
import Derived.RegionTactic
import Derived.BigRegion
import Derived.ChangeAlike
namespace Go.Proofs.Ytbcpnjgmbdhdkaa
open Go.RowKit Go.HL
set_option linter.unusedVariables false
set_option linter.unusedSimpArgs false

abbrev Ar := Arr 3

/-- How many numbers a row has. -/
def rowN (n : Int) : Nat := if n < 1 then 0 else if 4096 < n then 4096 else n.toNat
theorem rowN_le (n : Int) : rowN n ≤ 4096 := by unfold rowN; split <;> (try split) <;> omega
theorem upto_step (N i : Nat) (h : i < N) : (upto i ++ List.replicate (N - i) 0).set i (i : Int) = upto (i + 1) ++ List.replicate (N - (i + 1)) 0 := by
  have h1 : N - i = (N - (i + 1)) + 1 := by omega
  rw [h1, List.replicate_succ, List.set_append_right _ _ (by rw [upto_length]; omega), upto_length, Nat.sub_self, List.set_cons_zero]
  have : upto (i + 1) = upto i ++ [(i : Int)] := by simp [upto, List.range_succ]
  rw [this, List.append_assoc]
  rfl

set_option maxHeartbeats 1000000 in
theorem shuffle_nil (w : World) (n : Int) :
    Calls Try.prog 11 #[.pointer none, .int .i64 n] w fun e w' => e = .returned (.slice (some ⟨w.heap.size, 0, none⟩) (rowN n) (rowN n)) ∧ Ar w' w.heap.size (upto (rowN n)) ∧ Below w.heap.size w w' := by
  have hN2 := rowN_le n
  have hN : ∃ N, N = rowN n := ⟨_, rfl⟩
  obtain ⟨N, hN⟩ := hN
  rw [← hN] at hN2 ⊢
  have HN := Lib.hid hN
  clear hN
  have hmk := fun W => run_make_row' (P := Try.prog) 24 3 (.int .i64 0) 8 Try.underlying24 info_int rfl .i64 .i64 N (by omega) (by omega) W
  go_enter Try.func11, Try.ntmps11
  go_upto_region 1 with (fail)
  go_cut [1] (fun v1 wc => v1 = .int .i64 (N : Int) ∧ w = wc)
  case first =>
    have hN := HN.out
    unfold rowN at hN
    by_cases h0 : n < 1
    · rw [if_pos h0] at hN
      subst hN
      go_wp2
      go_meet
      case rel => exact ⟨rfl, rfl⟩
    · by_cases h1 : 4096 < n
      · rw [if_neg h0, if_pos h1] at hN
        subst hN
        go_wp2
        go_meet
        case rel => exact ⟨rfl, rfl⟩
      · rw [if_neg h0, if_neg h1] at hN
        have hn : n = (N : Int) := by omega
        clear hN HN
        subst hn
        go_wp2
        go_meet
        case rel => exact ⟨rfl, rfl⟩
  case rest =>
    obtain ⟨rfl, rfl⟩ := hcut
    have hmade := Arr.made 3 w N
    go_wp2
    go_loopw [6, 16] (fun _ i wr => ∃ k : Nat, k ≤ N ∧ i = .int .i64 k ∧ Ar wr w.heap.size (upto k ++ List.replicate (N - k) 0) ∧ Below w.heap.size w wr) (fun _ i _ => N - (intOf i).toNat)
    case atStart => exact ⟨0, Nat.zero_le _, rfl, by simpa [upto] using hmade, below_new _ _⟩
    case round =>
      clear hmade hmk
      obtain ⟨k, hk, rfl, ha, hb⟩ := hrel
      by_cases hlt : k < N
      · have hset := ha.set k (k : Int)
        rw [upto_step N k hlt] at hset
        have hc := ha.cell k (by simp [upto_length]; omega)
        have hf := ha.free k
        have hb2 : Below w.heap.size w (wr.setCell ⟨w.heap.size, k, none⟩ (.int .i64 (k : Int))) := hb.setCell (Nat.le_refl _) _
        clear ha hb
        go_wp2
        go_roundw
        case rel => exact ⟨k + 1, by omega, by go_num, hset, hb2⟩
        case measure => simp [intOf]; omega
      · obtain rfl : k = N := by omega
        rw [Nat.sub_self, List.replicate_zero, List.append_nil] at ha
        go_wp2
        go_ret
        exact ⟨rfl, ha, hb⟩

/-- What Shuffle leaves. -/
def Shuf (w : World) (g : Nat) (l : List Int) (last : Int) (N : Nat) (e : Ending) (w' : World) : Prop :=
  e = .returned (.slice (some ⟨w.heap.size, 0, none⟩) N N) ∧ Ar w' w.heap.size (sh (N - 1) (upto N) l last).1 ∧ Src (· < w.heap.size) w' g (sh (N - 1) (upto N) l last).2.1 (sh (N - 1) (upto N) l last).2.2 ∧
    0 ≤ (sh (N - 1) (upto N) l last).2.2 ∧ (sh (N - 1) (upto N) l last).2.2 < 4294967296 ∧ w.grownBy w' (some g)
set_option maxHeartbeats 4000000 in
theorem shuffle_ (w : World) (g : Nat) (l : List Int) (last : Int) (n : Int) (h0 : 0 ≤ last) (h1 : last < 4294967296) (hu : U32 l) (hs : Src (· < w.heap.size) w g l last) :
    Calls Try.prog 11 #[.pointer (some ⟨g, 0, none⟩), .int .i64 n] w (Shuf w g l last (rowN n)) := by
  have hN2 := rowN_le n
  have hN : ∃ N, N = rowN n := ⟨_, rfl⟩
  obtain ⟨N, hN⟩ := hN
  rw [← hN] at hN2 ⊢
  have HN := Lib.hid hN
  clear hN
  have hmk := fun W => run_make_row' (P := Try.prog) 24 3 (.int .i64 0) 8 Try.underlying24 info_int rfl .i64 .i64 N (by omega) (by omega) W
  go_enter Try.func11, Try.ntmps11
  go_upto_region 1 with (fail)
  go_cut [1] (fun v1 wc => v1 = .int .i64 (N : Int) ∧ w = wc)
  case first =>
    have hN := HN.out
    unfold rowN at hN
    by_cases h0 : n < 1
    · rw [if_pos h0] at hN
      subst hN
      go_wp2
      go_meet
      case rel => exact ⟨rfl, rfl⟩
    · by_cases h1 : 4096 < n
      · rw [if_neg h0, if_pos h1] at hN
        subst hN
        go_wp2
        go_meet
        case rel => exact ⟨rfl, rfl⟩
      · rw [if_neg h0, if_neg h1] at hN
        have hn : n = (N : Int) := by omega
        clear hN HN
        subst hn
        go_wp2
        go_meet
        case rel => exact ⟨rfl, rfl⟩
  case rest =>
    obtain ⟨rfl, rfl⟩ := hcut
    have hmade := Arr.made 3 w N
    go_wp2
    go_loopw [6, 16] (fun _ i wr => ∃ k : Nat, k ≤ N ∧ i = .int .i64 k ∧ Ar wr w.heap.size (upto k ++ List.replicate (N - k) 0) ∧ Below w.heap.size w wr) (fun _ i _ => N - (intOf i).toNat)
    case atStart => exact ⟨0, Nat.zero_le _, rfl, by simpa [upto] using hmade, below_new _ _⟩
    case round =>
      clear hmade hmk
      obtain ⟨k, hk, rfl, ha, hb⟩ := hrel
      by_cases hlt : k < N
      · have hset := ha.set k (k : Int)
        rw [upto_step N k hlt] at hset
        have hc := ha.cell k (by simp [upto_length]; omega)
        have hf := ha.free k
        have hb2 : Below w.heap.size w (wr.setCell ⟨w.heap.size, k, none⟩ (.int .i64 (k : Int))) := hb.setCell (Nat.le_refl _) _
        clear ha hb
        go_wp2
        go_roundw
        case rel => exact ⟨k + 1, by omega, by go_num, hset, hb2⟩
        case measure => simp [intOf]; omega
      · obtain rfl : k = N := by omega
        rw [Nat.sub_self, List.replicate_zero, List.append_nil] at ha
        have hgw := hs.lt
        have hs1 := hs.below hb
        have hg1 : w.grownBy wr (some g) := ⟨hb.os, hb.tape, hb.output, hb.size, fun i hi _ => hb.block i hi⟩
        clear hb
        obtain ⟨wo, rfl⟩ : ∃ wo : World, wo = wr := ⟨_, rfl⟩
        have hR0 : Hid (sh (k - 1 - 0) (upto k) l last = sh (k - 1) (upto k) l last) := rfl
        have hwlt : w.heap.size < wo.heap.size := (Array.getElem?_eq_some_iff.1 ha).1
        go_wp2
        go_loopw [28] (fun i wr => ∃ (m : Nat) (row lq : List Int) (lastq : Int), m ≤ k ∧ i = .int .i64 m ∧ Ar wr w.heap.size row ∧ row.length = k ∧ Src (· < w.heap.size) wr g lq lastq ∧ 0 ≤ lastq ∧ lastq < 4294967296 ∧ U32 lq ∧ Hid (sh (k - 1 - m) row lq lastq = sh (k - 1) (upto k) l last) ∧ w.grownBy wr (some g) ∧ w.heap.size < wr.heap.size) (fun i _ => k - (intOf i).toNat)
        case atStart => exact ⟨0, upto k, l, last, Nat.zero_le _, rfl, ha, upto_length _, hs1, h0, h1, hu, hR0, hg1, hwlt⟩
        case round =>
          clear hR0 ha hs1 hg1 hwlt hs hu h0 h1
          obtain ⟨m, row, lq, lastq, hm, rfl, ha, hlen, hs1, h0, h1, hu, HR, hg1, hwlt⟩ := hrel
          by_cases hlt : m < k
          · by_cases hi0 : k - 1 - m = 0
            · have e1 : (k : Int) - 1 - (m : Int) ≤ 0 := by omega
              have HR2 : Hid (sh (k - 1 - (m + 1)) row lq lastq = sh (k - 1) (upto k) l last) := by
                have := HR.out
                rw [hi0] at this
                rw [show k - 1 - (m + 1) = 0 by omega]
                exact this
              have hm1 : m + 1 ≤ k := hlt
              clear hi0
              go_wp2
              go_roundw
              case rel => exact ⟨m + 1, row, lq, lastq, hm1, by go_num, ha, hlen, hs1, h0, h1, hu, HR2, hg1, hwlt⟩
              case measure => simp [intOf]; omega
            · obtain ⟨i, hi⟩ : ∃ i, k - 1 - m = i + 1 := ⟨k - 1 - m - 1, by omega⟩
              have ei : (k : Int) - 1 - (m : Int) = (i : Int) + 1 := by omega
              obtain ⟨j, hj⟩ := Int.eq_ofNat_of_zero_le (Int.emod_nonneg (nextV lq lastq) (show (i : Int) + 2 ≠ 0 by omega))
              have hj2 := Int.emod_lt_of_pos (nextV lq lastq) (show (0 : Int) < (i : Int) + 2 by omega)
              rw [hj] at hj2
              have hnv := hu.next (last := lastq)
              have e2 : (i : Int) + 2 = (i : Int) + 1 + 1 := by omega
              have hb := below_ wr g lq lastq ((i : Int) + 2) (by omega) (by omega) h0 h1 hnv.1 hnv.2 hs1
              have hj3 : j ≤ i + 1 := by omega
              have HJ := Lib.hid hj
              rw [e2] at hb
              have HJ2 : Hid (nextV lq lastq % ((i : Int) + 1 + 1) = (j : Int)) := by rw [← e2]; exact hj
              have Hi := Lib.hid hi
              clear hj hi e2 hi0 hj2
              have hi1 : (1 : Int) ≤ (i : Int) + 1 := by omega
              go_wp2_with (go_at_call 16; refine hb.mono ?_; rintro e w1 ⟨rfl, hs2, hg2⟩; rw [HJ2.out])
              have hbg : some w.heap.size ≠ some g := by simp; omega
              have ha2 := ha.grown hg2 hbg
              have hi := Hi.out
              obtain ⟨x, hx⟩ : ∃ x, row.getD (i + 1) 0 = x := ⟨_, rfl⟩
              obtain ⟨y, hy⟩ : ∃ y, row.getD j 0 = y := ⟨_, rfl⟩
              have ci := ha2.cell (i + 1) (by omega)
              have cj := ha2.cell j (by omega)
              have fi := ha2.free (i + 1)
              rw [hx] at ci
              rw [hy] at cj
              have ha3 := ha2.set (i + 1) y
              have csj := ha3.cell j (by rw [List.length_set]; omega)
              have fsj := ha3.free j
              have ha4 := ha3.set j x
              have hsw : (row.set (i + 1) y).set j x = swap row (i + 1) j := by rw [← hx, ← hy]; rfl
              rw [hsw] at ha4
              obtain ⟨z, hz⟩ : ∃ z, (row.set (i + 1) y).getD j 0 = z := ⟨_, rfl⟩
              rw [hz] at csj
              have hik : i + 1 < k := by omega
              have hjk : j < k := by omega
              clear hx hy hz hsw ha ha2 ha3 hi hb
              go_region
              go_wp2
              go_roundw
              case rel =>
                have hk2 : k - 1 - m = i + 1 := Hi.out
                have HR2 : Hid (sh (k - 1 - (m + 1)) (swap row (i + 1) j) lq.tail (nextV lq lastq) = sh (k - 1) (upto k) l last) := by
                  have := HR.out
                  rw [hk2] at this
                  rw [show k - 1 - (m + 1) = i by omega, ← this]
                  simp only [sh]
                  rw [HJ.out, Int.toNat_natCast]
                  exact rfl
                refine ⟨m + 1, swap row (i + 1) j, lq.tail, nextV lq lastq, hlt, by go_num, ?_, by rw [swap_length]; exact hlen, ?_, hnv.1, hnv.2, hu.tail, HR2, ?_, ?_⟩
                · exact Arr.grown (row := none) ha4 (grownBy_drew ⟨rfl, rfl, rfl, Nat.le_refl _, fun _ _ _ => rfl⟩) (by simp)
                · refine SrcAt.below (((hs2.grown (grownBy_set _ _ _ _) ?_ ?_).grown (grownBy_set _ _ _ _) ?_ ?_)) (Below.refl _ _).drew
                  · exact fun h => hbg h.symm
                  · intro q hq h; simp at h; omega
                  · exact fun h => hbg h.symm
                  · intro q hq h; simp at h; omega
                · exact grownBy_drew (grownBy_new (grownBy_new (grownBy_then hg1 hg2) _ _ (Nat.le_refl _) _) _ _ (Nat.le_refl _) _)
                · have := hg2.size
                  show _ < ((w1.setCell _ _).setCell _ _).heap.size
                  rw [size_set, size_set]
                  omega
              case measure => simp [intOf]; omega
          · obtain rfl : m = k := by omega
            have HR2 := HR.out
            rw [show m - 1 - m = 0 by omega] at HR2
            go_wp2
            go_ret
            have hg : w.grownBy wr (some g) := hg1
            refine ⟨rfl, ?_, ?_, ?_, ?_, hg1⟩
            · rw [← HR2]; exact ha
            · rw [← HR2]; exact hs1
            · rw [← HR2]; exact h0
            · rw [← HR2]; exact h1
end Go.Proofs.Ytbcpnjgmbdhdkaa
