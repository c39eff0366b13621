/- The document's shuffled rows. -/
import Derived.Test.YtbcpnjgmbdhdkaaDY
import Derived.Deep.DeepCutAuto
import Derived.Deep.CutBlock
namespace Go.Proofs.Ytbcpnjgmbdhdkaa
open Go.RowKit Go.HL
open Go.ChangeShapes (block_add)
set_option linter.unusedVariables false
set_option linter.unusedSimpArgs false
theorem is_get (l : List Int) (j : Nat) (h : j < l.length) : (is l)[j]? = some (.int .i64 (l.getD j 0)) := by
  simp [is, List.getElem?_eq_getElem h, List.getD_eq_getElem?_getD]
theorem is_set (l : List Int) (j : Nat) (x : Int) : (is l).set j (.int .i64 x) = is (l.set j x) := by simp [is, List.map_set]
theorem upto_snoc (k : Nat) : upto (k + 1) = upto k ++ [(k : Int)] := by simp [upto, List.range_succ]
theorem is_snoc (l : List Int) (x : Int) : is l ++ [.int .i64 x] = is (l ++ [x]) := by simp [is]
theorem own_drew {w : World} {base : Nat} {e : TypeId} {size n : Nat} {v : Value} {cs : List Value} (h : w.ownsRow base e size v n cs) : w.drew.ownsRow base e size v n cs := own_below h (Below.refl _ _).drew
/-- What the document's Shuffle leaves. -/
def RShuf (w : World) (g : Nat) (ob : Option Nat) (l : List Int) (last : Int) (N : Nat) (e : Ending) (w' : World) : Prop :=
  ∃ A c, e = .returned (.slice A N c) ∧ Rd w' 1 A N c (is (sh (N - 1) (upto N) l last).1) ∧ (∀ a, A = some a → w.heap.size ≤ a.block) ∧ RSrc w' g ob (sh (N - 1) (upto N) l last).2.1 (sh (N - 1) (upto N) l last).2.2 ∧
    0 ≤ (sh (N - 1) (upto N) l last).2.2 ∧ (sh (N - 1) (upto N) l last).2.2 < 4294967296 ∧ w.grownBy w' (some g)
set_option maxHeartbeats 4000000 in
theorem rshuffle_ (w : World) (g : Nat) (ob : Option Nat) (l : List Int) (last : Int) (n : Int) (h0 : 0 ≤ last) (h1 : last < 4294967296) (hu : U32 l) (hs : RSrc w g ob l last) :
    Calls Try.prog 18 #[.pointer (some ⟨g, 0, none⟩), .int .i64 n] w (RShuf w g ob l last (rowN n)) := by
  have hN2 := rowN_le n
  by_cases hn1 : n < 1
  · have hr0 : rowN n = 0 := by unfold rowN; rw [if_pos hn1]
    rw [hr0]
    have HH := Lib.hid (And.intro h0 h1)
    clear hr0 hN2
    go_enter Try.func18, Try.ntmps18
    go_wp2
    go_ret
    exact ⟨none, 0, rfl, Rd.nil _ _, (fun a ha => by cases ha), hs, HH.out.1, HH.out.2, ⟨rfl, rfl, rfl, Nat.le_refl _, fun _ _ _ => rfl⟩⟩
  · obtain ⟨M, hM⟩ : ∃ M, rowN n = M + 1 := ⟨rowN n - 1, by unfold rowN at *; split <;> (try split) <;> omega⟩
    have hN1 : (n = ((M + 1 : Nat) : Int)) ∨ (4096 < n ∧ M + 1 = 4096) := by unfold rowN at hM; split at hM <;> (try split at hM) <;> omega
    rw [hM] at hN2 ⊢
    have hgw := hs.lt
    have hbw := hs.blt
    clear hM
    obtain ⟨N, hN⟩ : ∃ N, M + 1 = N := ⟨_, rfl⟩
    have HN := Lib.hid hN
    rw [hN] at hN1 hN2 ⊢
    clear hN
    go_enter Try.func18, Try.ntmps18
    go_upto_if 13 with (fail)
    go_cut [1] (fun v1 wc => v1 = .int .i64 (N : Int) ∧ w = wc)
    case first =>
      rcases hN1 with rfl | ⟨h4, h5⟩
      · have h6 : ¬ (4096 : Int) < (N : Int) := by omega
        go_wp2
        go_meet
        case rel => exact ⟨rfl, rfl⟩
      · subst h5
        go_wp2
        go_meet
        case rel => exact ⟨rfl, rfl⟩
    case rest =>
      obtain ⟨rfl, rfl⟩ := hcut
      clear hN1 hn1
      go_wp2
      go_loopw [5, 6] (fun v i wr => ∃ k : Nat, k ≤ N ∧ i = .int .i64 k ∧ wr.ownsRow w.heap.size 3 1 v k (is (upto k)) ∧ Below w.heap.size w wr) (fun _ i _ => N - (intOf i).toNat)
      case atStart => exact ⟨0, Nat.zero_le _, rfl, World.ownsRow_nil _ _ _ _, Below.refl _ _⟩
      case round =>
        obtain ⟨k, hk, rfl, ho, hb⟩ := hrel
        by_cases hlt : k < N
        · have hlt' : (k : Int) < (N : Int) := by omega
          have happ : App wr w.heap.size 3 1 u5 k (is (upto k)) := .own ho
          go_wp2_with (at_builtin; refine wpList_app1 (w0 := w) w.heap.size rfl _ _ 24 3 (.int .i64 0) 8 rfl Try.underlying24 info_int rfl (by omega) u5 k (is (upto k)) (.int .i64 k) rfl happ rfl rfl hb hb.size (by omega) ?_; intro v1 w1 ho1 hb1 hg1)
          go_roundw
          case rel => exact ⟨k + 1, hlt, by go_num, by rw [upto_snoc, ← is_snoc]; exact ho1, hb1⟩
          case measure => simp [intOf]; omega
        · obtain rfl : k = N := by omega
          obtain ⟨v5, rfl⟩ : ∃ v : Value, v = u5 := ⟨_, rfl⟩
          have hs1 : RSrc wr g ob l last := hs.grown (row := none) ⟨hb.os, hb.tape, hb.output, hb.size, fun i hi _ => hb.block i hi⟩ (by simp) (by simp)
          have hg1 : w.grownBy wr (some g) := ⟨hb.os, hb.tape, hb.output, hb.size, fun i hi _ => hb.block i hi⟩
          obtain ⟨gb, c, rfl, hgb⟩ : ∃ gb c, v5 = .slice (some ⟨gb, 0, none⟩) k c ∧ w.heap.size ≤ gb := by
            rcases ho.2 with ⟨h3, h4⟩ | ⟨gb, cap, cur, h3, h4, _⟩
            · exfalso
              have := HN.out
              omega
            · exact ⟨gb, cap, h3, h4⟩
          have hM1 : (k : Int) - 1 = (M : Int) := by have := HN.out; omega
          have hMk : M < k := by have := HN.out; omega
          obtain ⟨wo, rfl⟩ : ∃ wo : World, wo = wr := ⟨_, rfl⟩
          go_wp2
          clear hM1
          go_loopw [7] (fun i wr => ∃ (r : Nat) (row lq : List Int) (lastq : Int), r ≤ M ∧ i = .int .i64 r ∧ wr.ownsRow w.heap.size 3 1 (.slice (some ⟨gb, 0, none⟩) k c) k (is row) ∧ row.length = k ∧ RSrc wr g ob lq lastq ∧ 0 ≤ lastq ∧ lastq < 4294967296 ∧ U32 lq ∧ Hid (sh r row lq lastq = sh M (upto k) l last) ∧ w.grownBy wr (some g)) (fun i _ => (intOf i).toNat)
          case atStart => exact ⟨M, upto k, l, last, Nat.le_refl _, rfl, ho, upto_length _, hs1, h0, h1, hu, Lib.hid rfl, hg1⟩
          case round =>
            clear ho hs1 hg1 hs hu h0 h1 hb
            obtain ⟨r, row, lq, lastq, hr, rfl, ho, hlen, hs1, h0, h1, hu, HR, hg1⟩ := hrel
            cases r with
            | succ i =>
              have hi1 : (1 : Int) ≤ ((i + 1 : Nat) : Int) := by omega
              obtain ⟨j, hj⟩ := Int.eq_ofNat_of_zero_le (Int.emod_nonneg (nextV lq lastq) (show (i : Int) + 2 ≠ 0 by omega))
              have hj2 := Int.emod_lt_of_pos (nextV lq lastq) (show (0 : Int) < (i : Int) + 2 by omega)
              rw [hj] at hj2
              have hnv := hu.next (last := lastq)
              have e2 : (i : Int) + 2 = (i : Int) + 1 + 1 := by omega
              have hb := rbelow_ wr g ob lq lastq ((i : Int) + 2) (by omega) (by omega) h0 h1 hnv.1 hnv.2 hs1
              have hj3 : j ≤ i + 1 := by omega
              have HJ := Lib.hid hj
              rw [e2] at hb
              have HJ2 : Hid (nextV lq lastq % ((i : Int) + 1 + 1) = (j : Int)) := by rw [← e2]; exact hj
              clear hj e2 hj2
              have hgb2 : gb ≠ g := by omega
              go_upto_region 14 with (go_at_call 17; refine hb.mono ?_; rintro e w1 ⟨rfl, hs2, hg2⟩; rw [HJ2.out])
              have ho2 := ho.kept hg2 (.inr (by simp [Value.ownBlock]; omega))
              obtain ⟨x, hx⟩ : ∃ x, row.getD (i + 1) 0 = x := ⟨_, rfl⟩
              obtain ⟨y, hy⟩ : ∃ y, row.getD j 0 = y := ⟨_, rfl⟩
              have ci := own_cellj ho2 (i + 1) _ (is_get row (i + 1) (by omega))
              have cj := own_cellj ho2 j _ (is_get row j (by omega))
              have fi := own_free ho2 (i + 1)
              rw [hx] at ci
              rw [hy] at cj
              have ho3 := own_put ho2 (i + 1) (.int .i64 y) (by omega)
              rw [is_set] at ho3
              have csj := own_cellj ho3 j _ (is_get _ j (by rw [List.length_set]; omega))
              have fsj := own_free ho3 j
              have ho4 := own_put ho3 j (.int .i64 x) (by omega)
              rw [is_set] at ho4
              have hsw : (row.set (i + 1) y).set j x = swap row (i + 1) j := by rw [← hx, ← hy]; rfl
              rw [hsw] at ho4
              obtain ⟨z, hz⟩ : ∃ z, (row.set (i + 1) y).getD j 0 = z := ⟨_, rfl⟩
              rw [hz] at csj
              have hik : i + 1 < k := by omega
              have hjk : j < k := by omega
              have hi11 : ((i : Int) + 1) < (k : Int) := by omega
              have hj11 : (j : Int) < (k : Int) := by omega
              have HLEN := Lib.hid hlen
              clear hx hy hz hsw ho ho2 ho3 hb hlen
              go_wp2
              go_roundw
              case rel =>
                have HR2 : Hid (sh i (swap row (i + 1) j) lq.tail (nextV lq lastq) = sh M (upto k) l last) := by
                  have := HR.out
                  rw [← this]
                  simp only [sh]
                  rw [HJ.out, Int.toNat_natCast]
                  exact rfl
                exact ⟨i, swap row (i + 1) j, lq.tail, nextV lq lastq, by omega, by go_num, ho4, by rw [swap_length]; exact HLEN.out, (hs2.grown (grownBy_set _ gb _ _) (by simp; omega) (fun b hb e => by cases e; have := hbw gb hb; omega)).grown (grownBy_set _ gb _ _) (by simp; omega) (fun b hb e => by cases e; have := hbw gb hb; omega), hnv.1, hnv.2, hu.tail, HR2, grownBy_new (grownBy_new (grownBy_then hg1 hg2) _ _ hgb _) _ _ hgb _⟩
              case measure => simp [intOf]
            | zero =>
              have HR2 := HR.out
              go_wp2
              go_ret
              have hNM : k - 1 = M := by have := HN.out; omega
              refine ⟨some ⟨gb, 0, none⟩, c, rfl, ?_, (fun a ha => by cases ha; exact hgb), ?_, ?_, ?_, hg1⟩
              · rw [hNM, ← HR2]
                obtain ⟨A2, c2, he, hr2⟩ := own_rd ho
                cases he
                exact hr2
              · rw [hNM, ← HR2]; exact hs1
              · rw [hNM, ← HR2]; exact h0
              · rw [hNM, ← HR2]; exact h1
end Go.Proofs.Ytbcpnjgmbdhdkaa
