/- edns: Options, the document's answer. -/
import Derived.Test.YtdgdgioenfglnaaEO
import Derived.Deep.RegionLaw
import Derived.Deep.QuietTactic
import Derived.BigQuiet
import Derived.BigRegion
import Derived.Deep.LoopGhost
namespace Go.Proofs.Ytdgdgioenfglnaa
open Go.RowKit Go.HL
set_option linter.unusedVariables false
set_option linter.unusedSimpArgs false

def szOf : Value → Nat | .string s => s.size | _ => 0
theorem chain_small (s : ByteArray) (h : s.size < 4 ∨ s.size < 4 + nOf s) : chain s.size s = ([], s) := by
  cases hz : s.size with
  | zero => rfl
  | succ m => simp only [chain]; rw [if_pos h]
theorem chain_step (s : ByteArray) (h : ¬ (s.size < 4 ∨ s.size < 4 + nOf s)) : chain s.size s = (((kOf s : Int), s.extract 4 (4 + nOf s)) :: (chain (s.extract (4 + nOf s) s.size).size (s.extract (4 + nOf s) s.size)).1, (chain (s.extract (4 + nOf s) s.size).size (s.extract (4 + nOf s) s.size)).2) := by
  obtain ⟨m, hm⟩ : ∃ m, s.size = m + 1 := ⟨s.size - 1, by omega⟩
  have hsz : (s.extract (4 + nOf s) s.size).size = s.size - (4 + nOf s) := by rw [ByteArray.size_extract]; omega
  conv => lhs; rw [hm]
  simp only [chain]
  rw [if_neg h, chain_fuel m _ (by omega)]
set_option maxHeartbeats 4000000 in
theorem refOptions_ (w : World) (s : ByteArray) (hlen : s.size ≤ 1048576) : Calls Try.prog 13 #[.string s] w (OptsP w s) := by
  go_enter Try.func13, Try.ntmps13
  go_wp2
  go_loopw [0, 5, 6, 7] (fun u0 u5 u6 u7 wr => ∃ (pre : List (Int × ByteArray)) (s1 : ByteArray), u0 = .string s1 ∧ chain s.size s = (pre ++ (chain s1.size s1).1, (chain s1.size s1).2) ∧ wr.ownsRow w.heap.size 22 1 u5 pre.length (nsV pre) ∧ wr.ownsRow w.heap.size 9 1 u6 pre.length (lsV pre) ∧ Below w.heap.size w wr ∧ s1.size ≤ 1048576 ∧ pre.length + s1.size ≤ 1048576) (fun u0 _ _ _ _ => szOf u0)
  case atStart => exact ⟨[], s, rfl, rfl, World.ownsRow_nil _ _ _ _, World.ownsRow_nil _ _ _ _, Below.refl _ _, hlen, by simpa using hlen⟩
  case round =>
    obtain ⟨pre, s1, rfl, hx, hn, hl, hb, hz1, hz2⟩ := hrel
    by_cases h0 : s1.size = 0
    · have h0' : ¬ ((0 : Int) < s1.size) := by omega
      have e1 := chain_small s1 (.inl (by omega))
      rw [e1, List.append_nil] at hx
      have hok : okOf s = true := by unfold okOf; rw [hx]; simpa using h0
      have hr : resL s = pre := by unfold resL optL; rw [hok, hx]; rfl
      obtain ⟨A5, c5, rfl, _⟩ := own_rd hn
      obtain ⟨A6, c6, rfl, _⟩ := own_rd hl
      go_wp2
      refine bodyPost_ret (results_tmp3 rfl _ _ _) rfl ⟨_, _, by rw [hok]; rfl, by rw [hr]; exact hn, by rw [hr]; exact hl, hb⟩
    · have h0' : (0 : Int) < s1.size := by omega
      by_cases h4 : s1.size < 4
      · have h4' : (s1.size : Int) < 4 := by omega
        have e1 := chain_small s1 (.inl (by omega))
        rw [e1] at hx
        have hok : okOf s = false := by unfold okOf; rw [hx]; simpa using h0
        have hr : resL s = [] := by unfold resL; rw [hok]; rfl
        go_wp2
        refine bodyPost_ret (results_tmp3 rfl _ _ _) rfl ⟨_, _, by rw [hok]; rfl, by rw [hr]; exact World.ownsRow_nil _ _ _ _, by rw [hr]; exact World.ownsRow_nil _ _ _ _, hb⟩
      · have h4' : ¬ ((s1.size : Int) < 4) := by omega
        have i0 := fun W => idx_gb (P := Try.prog) 9 Try.underlying9 .i64 0 0 rfl s1 (by omega) W
        have i1 := fun W => idx_gb (P := Try.prog) 9 Try.underlying9 .i64 1 1 rfl s1 (by omega) W
        have i2 := fun W => idx_gb (P := Try.prog) 9 Try.underlying9 .i64 2 2 rfl s1 (by omega) W
        have i3 := fun W => idx_gb (P := Try.prog) 9 Try.underlying9 .i64 3 3 rfl s1 (by omega) W
        have g0 := gb_lt s1 0
        have g1 := gb_lt s1 1
        have g2 := gb_lt s1 2
        have g3 := gb_lt s1 3
        go_wp2
        go_quiet (fail)
        have eN : (256 * (gb s1 2 : Int) + (gb s1 3 : Int)) = ((nOf s1 : Nat) : Int) := by unfold nOf; omega
        rw [eN]
        obtain ⟨N, hN⟩ : ∃ N, nOf s1 = N := ⟨_, rfl⟩
        have hnq := own_below hn (below_drewN (Below.refl _ _) nq)
        have hlq := own_below hl (below_drewN (Below.refl _ _) nq)
        have hbq := below_drewN hb nq
        obtain ⟨wq, hwq⟩ : ∃ wq, wr.drewN nq = wq := ⟨_, rfl⟩
        rw [hwq] at hnq hlq hbq ⊢
        rw [hN]
        clear hwq hn hl hb i2 i3 eN g2 g3
        by_cases hs : s1.size < 4 + N
        · have e1 := chain_small s1 (.inr (by omega))
          rw [e1] at hx
          have hok : okOf s = false := by unfold okOf; rw [hx]; simpa using h0
          have hr : resL s = [] := by unfold resL; rw [hok]; rfl
          have hs2 : (s1.size : Int) - 4 < (N : Int) := by omega
          go_wp2
          refine bodyPost_ret (results_tmp3 rfl _ _ _) rfl ⟨_, _, by rw [hok]; rfl, by rw [hr]; exact World.ownsRow_nil _ _ _ _, by rw [hr]; exact World.ownsRow_nil _ _ _ _, hbq⟩
        · have e1 := chain_step s1 (by omega)
          rw [hN] at e1
          rw [e1] at hx
          have hs2 : ¬ ((s1.size : Int) - 4 < (N : Int)) := by omega
          have ek : (256 * (gb s1 0 : Int) + (gb s1 1 : Int)) = ((kOf s1 : Nat) : Int) := by unfold kOf; omega
          have hw2 : IntKind.u16.wrap (gb s1 0 : Int) = (gb s1 0 : Int) := by rw [IntKind.wrap_u16]; omega
          have hw4 : IntKind.u16.wrap (gb s1 1 : Int) = (gb s1 1 : Int) := by rw [IntKind.wrap_u16]; omega
          have hw5 : IntKind.u16.wrap (256 * (gb s1 0 : Int)) = 256 * (gb s1 0 : Int) := by rw [IntKind.wrap_u16]; omega
          have hw6 : IntKind.u16.wrap (256 * (gb s1 0 : Int) + (gb s1 1 : Int)) = 256 * (gb s1 0 : Int) + (gb s1 1 : Int) := by rw [IntKind.wrap_u16]; omega
          have hkk : kOf s1 < 65536 := by unfold kOf; omega
          have hw7 : IntKind.u16.wrap (kOf s1 : Int) = (kOf s1 : Int) := by rw [IntKind.wrap_u16]; omega
          have h6 : 4 + (N : Int) ≤ (s1.size : Int) := by omega
          have h7 : (0 : Int) ≤ 4 + (N : Int) := by omega
          have h8 : (4 : Int) ≤ 4 + (N : Int) := by omega
          have ht : (4 + (N : Int)).toNat = 4 + N := by omega
          have hz := hbq.size
          have hnd := own_below hnq (below_drewN (Below.refl _ _) 1)
          have hbd := below_drewN hbq 1
          obtain ⟨nv, rfl⟩ : ∃ nv : Value, nv = u5 := ⟨_, rfl⟩
          obtain ⟨lv, rfl⟩ : ∃ lv : Value, lv = u6 := ⟨_, rfl⟩
          go_wp2_with (fail)
          go_region_law (refine step_one w wq.drew w.heap.size rfl _ _ 38 22 (.int .u16 0) 2 rfl Try.underlying38 info_u16 rfl (by omega) nv pre.length (nsV pre) (.int .u16 (kOf s1 : Int)) rfl (.own hnd) rfl rfl hbd hbd.size (by omega) ?_; intro v1 w1 ho1 hb1 hg1)
          all_goals (
            have hlw : w1.ownsRow w.heap.size 9 1 lv pre.length (lsV pre) := own_kept_other (own_kept_new hlq (grown_drew wq)) hnd (by decide) hg1
            obtain ⟨An, cn, rfl, _⟩ := own_rd ho1
            go_wp2_with (at_builtin; refine wpList_app1 (w0 := w) w.heap.size rfl _ _ 39 9 (.string ByteArray.empty) 16 rfl Try.underlying39 info_str rfl (by omega) lv pre.length (lsV pre) (.string (s1.extract 4 (4 + N))) rfl (.own hlw) rfl rfl hb1 hb1.size (by omega) ?_; intro v3 w3 ho3 hb3 hg3)
            have hnw : w3.ownsRow w.heap.size 22 1 (.slice An (pre.length + 1) cn) (pre.length + 1) (nsV pre ++ [.int .u16 (kOf s1 : Int)]) := own_kept_other ho1 hlw (by decide) hg3
            have hsz : (s1.extract (4 + N) s1.size).size = s1.size - (4 + N) := by rw [ByteArray.size_extract]; omega
            go_roundw
            case rel =>
              refine ⟨pre ++ [((kOf s1 : Int), s1.extract 4 (4 + N))], s1.extract (4 + N) s1.size, rfl, by rw [hx]; simp, ?_, ?_, hb3, by omega, by simp; omega⟩
              · simpa [nsV] using hnw
              · simpa [lsV] using ho3
            case measure => simp [szOf]; omega)
theorem may_ (w : World) (s : ByteArray) (hlen : s.size ≤ 1048576) : Calls Try.prog 19 #[.string s] w fun e w' => e = .returned (.bool (okOf s)) ∧ Below w.heap.size w w' := by
  go_enter Try.func19, Try.ntmps19
  go_wp2_with (go_at_call 13; refine (refOptions_ w s hlen).mono ?_; rintro e w' ⟨vn, vl, rfl, _, _, hb⟩)
  go_ret
  exact ⟨rfl, hb⟩
end Go.Proofs.Ytdgdgioenfglnaa
