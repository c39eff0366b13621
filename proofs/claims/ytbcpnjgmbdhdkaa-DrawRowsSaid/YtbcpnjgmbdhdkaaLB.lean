/- The law DrawRows. -/
import Derived.Test.YtbcpnjgmbdhdkaaD3
import Derived.Test.YtbcpnjgmbdhdkaaDP
namespace Go.Proofs.Ytbcpnjgmbdhdkaa
open Go.RowKit Go.HL
set_option linter.unusedVariables false
set_option linter.unusedSimpArgs false

theorem info_bool : (Try.prog.info? 4).map (fun i => (i.zero, i.size, i.bytes)) = some (some (.bool false), 1, 1) := by kernel_rfl
theorem wf_u32 {l : List Int} (hw : ∀ x ∈ l, (Lit.int .u32 x).wf = true) : U32 l := fun x hx => by
  have h := hw x hx
  simp [Lit.wf, IntKind.min, IntKind.max, IntKind.signed, IntKind.bits] at h
  omega
theorem us_eq (l : List Int) : l.map (Value.int .u32) = us l := rfl

set_option maxRecDepth 100000 in
set_option maxHeartbeats 4000000 in
theorem drawRows_in (w : World) (A : Option Addr) (m c : Nat) (l : List Int) (N : Nat) (hr : Rd w 1 A m c (us l)) (hu : U32 l) (hm : m ≤ 4000) (hN0 : 1 ≤ N) (hN : N ≤ 300) :
    Calls Try.prog 5 #[.slice A m c, .int .i64 N] w (Tells w (.bool true)) := by
  have hll : l.length = m := by have := hr.len; rw [us_length] at this; omega
  have hmk := fun W => run_make_row' (P := Try.prog) 35 4 (.bool false) 1 Try.underlying35 info_bool rfl .i64 .i64 N (by omega) (by omega) W
  go_enter Try.func5, Try.ntmps5
  go_wp2_with (at_builtin; refine wpList_app_nil w w w.heap.size rfl _ _ 25 25 26 (.int .u32 0) 1 4 rfl Try.underlying25 info_u32 rfl (by omega) (by omega) rfl _ m (us l) rfl (.slice hr (us_one l)) (Below.refl _ _) (Nat.le_refl _) (by omega) ?_; intro v1 w1 ho hb1 hg1)
  obtain ⟨A1, c1, rfl, hr1⟩ := own_rd ho
  have hnew := new_ w1 A1 m c1 l hr1 (by omega)
  clear ho hg1 hr1 hr
  go_wp2_with (go_at_call 10; refine hnew.mono ?_; rintro e w2 ⟨g, rfl, hg, hs2, hb2⟩)
  have ht : l.take 4096 = l := List.take_of_length_le (by omega)
  rw [ht] at hs2
  have hb02 := below_trans hb1 hb2
  have hleft := left_ w2 g l 0 hs2
  rw [hll] at hleft
  have hsh := shuffle_ w2 g l 0 (N : Int) (by omega) (by omega) hu hs2
  have hrow : rowN (N : Int) = N := by unfold rowN; rw [if_neg (by omega), if_neg (by omega)]; omega
  rw [hrow] at hsh
  clear hnew ht hrow
  go_wp2_with (first | (go_at_call 12; refine hleft.mono ?_; rintro e w' ⟨rfl, rfl⟩) | (go_at_call 11; refine hsh.mono ?_; rintro e w3 ⟨rfl, ha3, hs3, _, _, hg3⟩))
  have hp : Perm N (sh (N - 1) (upto N) l 0).1 := perm_sh _ _ _ _ (perm_upto N) (by omega)
  have hlen := left_sh (N - 1) (upto N) l 0
  rw [hll] at hlen
  have hb03 : Below w.heap.size w w3 := hb02.grown hg3 hb02.size (fun k hk => by cases hk; have := hb1.size; omega)
  have hz23 := hg3.size
  have hz2 : w2.heap.size < w3.heap.size := (Array.getElem?_eq_some_iff.1 ha3).1
  have hgl := hs3.lt
  have hgl2 := hs2.lt
  have hz02 := hb02.size
  generalize (sh (N - 1) (upto N) l 0).1 = row at *
  generalize (sh (N - 1) (upto N) l 0).2.1 = L at *
  generalize (sh (N - 1) (upto N) l 0).2.2 = last at *
  clear hsh hleft hg3 hb02 hb2 hb1 hs2 hg hmk hll hu
  have ha4 : Ar (w3.alloc (.cells (madeCells #[.bool false] N) 4)) w2.heap.size row := Arr.grown (row := none) ha3 (World.grownBy_alloc _ _ _) (by simp)
  have hs4 := hs3.below (below_new w3 (.cells (madeCells #[.bool false] N) 4))
  have hbm := BArr.made 4 w3 N
  have hb04 := below_alloc hb03 (.cells (madeCells #[.bool false] N) 4)
  clear ha3 hs3 hb03
  go_loopw [9] (fun i wr => ∃ (k : Nat) (s : List Bool), k ≤ N ∧ i = .int .i64 k ∧ Ar wr w2.heap.size row ∧ BArr 4 wr w3.heap.size s ∧ Seen N k row s ∧ Src (· < w2.heap.size) wr g L last ∧ Below w.heap.size w wr) (fun i _ => N - (intOf i).toNat)
  case atStart => exact ⟨0, _, Nat.zero_le _, rfl, ha4, hbm, seen_none N row, hs4, hb04⟩
  case round =>
    clear ha4 hs4 hbm hb04
    obtain ⟨k, s, hk, rfl, ha, hbs, hseen, hs, hb⟩ := hrel
    by_cases hlt : k < N
    · have h0 := hp.lo k hlt
      have h1 := hp.hi k hlt
      have hfr := hseen.fresh hp hlt
      have hst := hseen.step hp hlt
      have hc := ha.cell k (by rw [hp.len]; exact hlt)
      obtain ⟨x, hx⟩ := Int.eq_ofNat_of_zero_le h0
      rw [hx, Int.toNat_natCast] at hfr hst
      rw [hx] at hc h1
      have hxN : x < N := by omega
      have hcs := hbs.cell x (by rw [hseen.len]; exact hxN)
      rw [hfr] at hcs
      have hfs := hbs.free x
      have hbs2 := hbs.set x true
      have hg2 := grownBy_set wr w3.heap.size x (.bool true)
      have ha2 := ha.grown hg2 (by simp; omega)
      have hs2 := hs.grown hg2 (by simp; omega) (fun q hq h => by simp at h; omega)
      have hb2 : Below w.heap.size w (wr.setCell ⟨w3.heap.size, x, none⟩ (.bool true)) := hb.setCell (by show _ ≤ w3.heap.size; omega) _
      clear ha hbs hseen hs hb hx hfr hg2 h0
      go_wp2
      go_roundw
      case rel => exact ⟨k + 1, _, hlt, by go_num, ha2, hbs2, hst, hs2, hb2⟩
      case measure => simp [intOf]; omega
    · obtain rfl : k = N := by omega
      have hleft := left_ wr g L last hs
      rw [hlen] at hleft
      have hwk := wakes wr
      by_cases hmm : k - 1 < m
      · obtain ⟨q, hq⟩ : ∃ q, m - (k - 1) = q + 1 := ⟨m - (k - 1) - 1, by omega⟩
        have hq2 : (m : Int) - ((k : Int) - 1) = (q : Int) + 1 := by omega
        rw [hq] at hleft
        clear hq hlen
        go_wp2_with (first | (go_at_call 12; refine hleft.mono ?_; rintro e w' ⟨rfl, rfl⟩) | (go_at_call 8; refine hwk.mono ?_; rintro e w5 ⟨rfl, hb5⟩))
        go_ret
        exact ⟨rfl, below_trans hb hb5⟩
      · have hq : m - (k - 1) = 0 := by omega
        have hq2 : (m : Int) - ((k : Int) - 1) ≤ 0 := by omega
        rw [hq] at hleft
        clear hq hlen
        go_wp2_with (first | (go_at_call 12; refine hleft.mono ?_; rintro e w' ⟨rfl, rfl⟩) | (go_at_call 8; refine hwk.mono ?_; rintro e w5 ⟨rfl, hb5⟩))
        go_ret
        exact ⟨rfl, below_trans hb hb5⟩

set_option maxRecDepth 100000 in
set_option maxHeartbeats 1000000 in
theorem drawRows_zero (w : World) (A : Option Addr) (m c : Nat) (l : List Int) (n : Int) (hr : Rd w 1 A m c (us l)) (hu : U32 l) (hm : m ≤ 4000) (hn : n < 1) :
    Calls Try.prog 5 #[.slice A m c, .int .i64 n] w (Tells w (.bool true)) := by
  have hll : l.length = m := by have := hr.len; rw [us_length] at this; omega
  go_enter Try.func5, Try.ntmps5
  go_wp2_with (at_builtin; refine wpList_app_nil w w w.heap.size rfl _ _ 25 25 26 (.int .u32 0) 1 4 rfl Try.underlying25 info_u32 rfl (by omega) (by omega) rfl _ m (us l) rfl (.slice hr (us_one l)) (Below.refl _ _) (Nat.le_refl _) (by omega) ?_; intro v1 w1 ho hb1 hg1)
  obtain ⟨A1, c1, rfl, hr1⟩ := own_rd ho
  have hnew := new_ w1 A1 m c1 l hr1 (by omega)
  clear ho hg1 hr1 hr
  go_wp2_with (go_at_call 10; refine hnew.mono ?_; rintro e w2 ⟨g, rfl, hg, hs2, hb2⟩)
  have ht : l.take 4096 = l := List.take_of_length_le (by omega)
  rw [ht] at hs2
  have hb02 := below_trans hb1 hb2
  have hleft := left_ w2 g l 0 hs2
  rw [hll] at hleft
  have hsh := shuffle_ w2 g l 0 n (by omega) (by omega) hu hs2
  have hrow : rowN n = 0 := by unfold rowN; rw [if_pos hn]
  rw [hrow] at hsh
  clear hnew ht hrow
  go_wp2_with (first | (go_at_call 12; refine hleft.mono ?_; clear hleft; rintro e w' ⟨rfl, rfl⟩) | (go_at_call 11; refine hsh.mono ?_; rintro e w3 ⟨rfl, ha3, hs3, _, _, hg3⟩; have hleft2 := left_ w3 g l 0 hs3) | (go_at_call 12; refine hleft2.mono ?_; rintro e w' ⟨rfl, rfl⟩; rw [hll]) | (go_at_call 8; refine (wakes _).mono ?_; rintro e w5 ⟨rfl, hb5⟩))
  go_ret
  have hb03 : Below w.heap.size w w3 := hb02.grown hg3 hb02.size (fun k hk => by cases hk; have := hb1.size; omega)
  exact ⟨rfl, below_trans hb03 hb5⟩
theorem drawRows_walk (w : World) (A : Option Addr) (m c : Nat) (l : List Int) (n : Int) (hr : Rd w 1 A m c (l.map (Value.int .u32))) (hw : ∀ x ∈ l, (Lit.int .u32 x).wf = true) (hc : c * 4 ≤ 140737488351232) (hn0 : -9223372036854775808 ≤ n) (hn1 : n ≤ 9223372036854775807) :
    Calls Try.prog 5 #[.slice A m c, .int .i64 n] w (Tells w (.bool true)) := by
  have hle := hr.le
  by_cases h1 : 300 < n
  · go_enter Try.func5, Try.ntmps5
    go_wp2_with (go_at_call 8; refine (wakes _).mono ?_; rintro e w5 ⟨rfl, hb5⟩)
    go_ret
    exact ⟨rfl, hb5⟩
  by_cases h2 : 4000 < m
  · go_enter Try.func5, Try.ntmps5
    go_wp2_with (go_at_call 8; refine (wakes _).mono ?_; rintro e w5 ⟨rfl, hb5⟩)
    go_ret
    exact ⟨rfl, hb5⟩
  by_cases h3 : n < 1
  · exact drawRows_zero w A m c l n hr (wf_u32 hw) (by omega) h3
  · obtain ⟨N, rfl⟩ := Int.eq_ofNat_of_zero_le (show 0 ≤ n by omega)
    exact drawRows_in w A m c l N hr (wf_u32 hw) (by omega) (by omega) (by omega)
end Go.Proofs.Ytbcpnjgmbdhdkaa
