/- PressNil, by a walk. -/
import Derived.Test.YtobfahafpmipfaaPM
import Derived.Test.YtobfahafpmipfaaPL
import Derived.Test.YtobfahafpmipfaaHR
namespace Go.Proofs.Ytobfahafpmipfaa
open Go.RowKit Go.HL
set_option linter.unusedVariables false
set_option linter.unusedSimpArgs false
set_option maxHeartbeats 1000000 in
theorem pressNil_walk (w : World) (A : Option Addr) (n c : Nat) (l : List UInt8) (s : ByteArray) (hr : Rd w 1 A n c (bs l)) (hc : c * 1 ≤ 140737488351232) (hs : s.size ≤ 140737488351232) :
    Calls Try.prog 7 #[.slice A n c, .string s] w fun e w' => e = .returned (.bool true) ∧ Below w.heap.size w w' := by
  have h1 := put_two w _ _ _ _ (two_none (row_nil w A n c s false))
  have h2 := fun W => plain_two W _ _ _ _ (two_none (row_nil W A n c s true))
  have h3 := fun W => size_ W s (by omega)
  have h4 := fun W => rsize_ W s (by omega)
  obtain ⟨z, hz⟩ : ∃ z : Int, (if isNm s then (s.size : Int) else 0) = z := ⟨_, rfl⟩
  rw [hz] at h3 h4
  clear hz
  go_enter Try.func7, Try.ntmps7
  go_wp2_with (first | (go_at_call 16; refine h1.mono ?_; clear h1; rintro e w1 ⟨a1, b1, rfl, rfl, rfl, hb1⟩) | (go_at_call 14; refine (h2 _).mono ?_; clear h2; rintro e w2 ⟨a2, b2, rfl, rfl, rfl, hb2⟩) | (go_at_call 19; refine (h3 _).mono ?_; clear h3; rintro e w3 ⟨rfl, hb3⟩) | (go_at_call 20; refine (h4 _).mono ?_; clear h4; rintro e w4 ⟨rfl, hb4⟩) | (go_at_call 11; refine (wakes_ _).mono ?_; rintro e w5 ⟨rfl, hb5⟩))
  go_ret
  have z1 := hb1.size
  have z2 := hb2.size
  have z3 := hb3.size
  have z4 := hb4.size
  exact ⟨rfl, hb1.trans ((hb2.mono (by omega)).trans ((hb3.mono (by omega)).trans ((hb4.mono (by omega)).trans (hb5.mono (by omega)))))⟩
end Go.Proofs.Ytobfahafpmipfaa
