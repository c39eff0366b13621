/- The law EdnsOptions. -/
import Derived.Test.YtdgdgioenfglnaaLA
namespace Go.Proofs.Ytdgdgioenfglnaa
open Go.RowKit Go.HL
set_option linter.unusedVariables false
set_option linter.unusedSimpArgs false

theorem own_some {w : World} {base n size : Nat} {e : TypeId} {v : Value} {cs : List Value} (h : w.ownsRow base e size v n cs) (hn : 0 < n) : ∃ g c, v = .slice (some ⟨g, 0, none⟩) n c ∧ Rd w size (some ⟨g, 0, none⟩) n c cs := by
  obtain ⟨A, c, rfl, hr⟩ := own_rd h
  rcases h.2 with ⟨_, hk⟩ | ⟨g, cap, cur, he, _⟩
  · omega
  · cases he
    exact ⟨g, c, rfl, hr⟩
set_option maxRecDepth 100000 in
set_option maxHeartbeats 4000000 in
theorem ednsOptions_walk (w : World) (s : ByteArray) (hlen : s.size ≤ 1048576) : Calls Try.prog 4 #[.string s] w (Tells w (.bool true)) := by
  have h1 := options_ w s hlen
  have h2 := fun W => refOptions_ W s hlen
  go_enter Try.func4, Try.ntmps4
  go_wp2_with (first | (go_at_call 12; refine h1.mono ?_; clear h1; rintro e w1 ⟨vn, vl, rfl, hn, hl, hb1⟩; obtain ⟨An, cn, rfl, rn⟩ := own_rd hn; obtain ⟨Al, cl, rfl, rl⟩ := own_rd hl) | (go_at_call 13; refine (h2 _).mono ?_; clear h2; rintro e w2 ⟨vn', vl', rfl, hn', hl', hb2⟩; obtain ⟨An', cn', rfl, rn'⟩ := own_rd hn'; obtain ⟨Al', cl', rfl, rl'⟩ := own_rd hl'))
  have hbw := below_trans hb1 hb2
  have rn2 := rn.below hb2
  have rl2 := rl.below hb2
  have hlm : (resL s).length ≤ 1048576 := by
    have h3 := chain_sum s.size s
    have h4 := sumL_ge (optL s)
    unfold resL
    split
    · unfold optL at *; omega
    · simp
  obtain ⟨L, hL⟩ : ∃ L, resL s = L := ⟨_, rfl⟩
  rw [hL] at rn2 rl2 rn' rl' hlm ⊢
  obtain ⟨m, hm⟩ : ∃ m, L.length = m := ⟨_, rfl⟩
  rw [hm] at rn2 rl2 rn' rl' hlm ⊢
  clear rn rl hn hl hn' hl' hb1 hL hlen
  go_loopw [9] (fun i wr => ∃ k : Nat, k ≤ m ∧ i = .int .i64 k ∧ Below w2.heap.size w2 wr) (fun i _ => m - (intOf i).toNat)
  case atStart => exact ⟨0, Nat.zero_le _, rfl, Below.refl _ _⟩
  case round =>
    obtain ⟨k, hk, rfl, hb⟩ := hrel
    by_cases hlt : k < m
    · obtain ⟨x, hx⟩ : ∃ x, L[k]? = some x := ⟨L[k], List.getElem?_eq_getElem (by omega)⟩
      have x1 : (nsV L)[k]? = some (.int .u16 x.1) := by simp [nsV, hx]
      have x2 : (lsV L)[k]? = some (.string x.2) := by simp [lsV, hx]
      cases An with
      | none => have := (rn2.nil_ rfl).1; omega
      | some a1 =>
      cases Al with
      | none => have := (rl2.nil_ rfl).1; omega
      | some a2 =>
      cases An' with
      | none => have := (rn'.nil_ rfl).1; omega
      | some a3 =>
      cases Al' with
      | none => have := (rl'.nil_ rfl).1; omega
      | some a4 =>
      have c1 := (rn2.below hb).cells a1 rfl k _ x1
      have c2 := (rl2.below hb).cells a2 rfl k _ x2
      have c3 := (rn'.below hb).cells a3 rfl k _ x1
      have c4 := (rl'.below hb).cells a4 rfl k _ x2
      clear x1 x2 hx
      go_wp2_with (fail)
      go_quiet (fail)
      go_wp2
      go_roundw
      case rel => exact ⟨k + 1, by omega, by go_num, below_drewN hb _⟩
      case measure => simp [intOf]; omega
    · obtain rfl : k = m := by omega
      go_wp2_with (go_at_call 11; refine (wakes _).mono ?_; rintro e w5 ⟨rfl, hb5⟩)
      go_ret
      exact ⟨rfl, below_trans (below_trans hbw hb) hb5⟩
end Go.Proofs.Ytdgdgioenfglnaa
