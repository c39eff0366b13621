/- stream.Collect and the document's: contracts; lists of records held against each other. -/
import Derived.Test.YtmifnmnpihikgaaKM
import Derived.Test.YtmifnmnpihikgaaHC
import Derived.Test.YtmifnmnpihikgaaSE
import Derived.BigQuiet
namespace Go.Proofs.Ytmifnmnpihikgaa
open Go.RowKit Go.HL
set_option linter.unusedVariables false
set_option linter.unusedSimpArgs false
theorem infoRec : (Try.prog.info? 64).map (fun i => (i.zero, i.size, i.bytes)) = some (some Rc.zero.val, 12, 96) := by kernel_rfl
def isSoa (r : Rc) : Bool := r.ty == 6
theorem soa_ (w : World) (r : Rc) : Calls Try.prog 24 #[r.val] w (Tells w (.bool (isSoa r))) := by
  unfold Rc.val
  go_enter Try.func24, Try.ntmps24
  go_wp2
  go_ret
  exact ⟨rfl, below_new _ _⟩
/-- Where the first SOA stands. -/
def soaAt (l : List Rc) : Int := match l.findIdx? isSoa with | some i => i | none => -1
set_option maxHeartbeats 2000000 in
theorem soaIdx_ (w : World) (A : Option Addr) (n c : Nat) (l : List Rc) (hr : Rd w 12 A n c (rcs l)) (hn : n ≤ 140737488355328) :
    Calls Try.prog 30 #[.slice A n c, .func (.func 24) #[] #[]] w (Tells w (.int .i64 (soaAt l))) := by
  have hl := Rd.recs hr
  go_enter Try.func30, Try.ntmps30
  go_wp2
  go_loopw [5, 8] (fun _ i wr => ∃ k : Nat, k ≤ n ∧ i = .int .i64 k ∧ (∀ j r, j < k → l[j]? = some r → isSoa r = false) ∧ Below w.heap.size w wr) (fun _ i _ => n - (intOf i).toNat)
  case atStart => exact ⟨0, Nat.zero_le _, rfl, fun j r h => absurd h (by omega), Below.refl _ _⟩
  case round =>
    obtain ⟨k, hk, rfl, hno, hb⟩ := hrel
    by_cases hlt : k < n
    · obtain ⟨r, hrk⟩ : ∃ r, l[k]? = some r := ⟨l[k], List.getElem?_eq_getElem (by omega)⟩
      cases A with
      | none => have := (hr.nil_ rfl).1; omega
      | some ad =>
      have hcs := Rd.rec (hr.below hb) k r hrk
      have hop := fun W => soa_ W r
      cases hio : isSoa r with
      | false =>
        rw [hio] at hop
        go_wp2_with (first | (refine wpList_getAt rfl 64 (.tmp 14) rfl (ad.add (k * 12)) rfl r.cells _ hcs Try.underlying64 rfl sizeRec ?_) | (go_at_call 24; refine (hop _).mono ?_; rintro e w1 ⟨rfl, hb1⟩))
        go_roundw
        case rel =>
          refine ⟨k + 1, by omega, by go_num, fun j q hj hq => ?_, below_trans hb hb1⟩
          by_cases hjk : j < k
          · exact hno j q hjk hq
          · obtain rfl : j = k := by omega
            rw [hrk] at hq
            cases hq
            exact hio
        case measure => simp [intOf]; omega
      | true =>
        rw [hio] at hop
        have hi : soaAt l = (k : Int) := by
          have : l.findIdx? isSoa = some k := by
            rw [List.findIdx?_eq_some_iff_getElem]
            have hkl : k < l.length := by omega
            refine ⟨hkl, ?_, fun j hj => ?_⟩
            · rw [List.getElem?_eq_getElem hkl] at hrk
              cases hrk
              exact hio
            · have := hno j l[j] hj (List.getElem?_eq_getElem (by omega))
              simp [this]
          unfold soaAt
          rw [this]
        rw [hi]
        go_wp2_with (first | (refine wpList_getAt rfl 64 (.tmp 14) rfl (ad.add (k * 12)) rfl r.cells _ hcs Try.underlying64 rfl sizeRec ?_) | (go_at_call 24; refine (hop _).mono ?_; rintro e w1 ⟨rfl, hb1⟩))
        go_ret
        exact ⟨rfl, below_trans hb hb1⟩
    · obtain rfl : k = n := by omega
      have hi : soaAt l = -1 := by
        have : l.findIdx? isSoa = none := by
          rw [List.findIdx?_eq_none_iff]
          intro q hq
          obtain ⟨j, hj⟩ := List.getElem?_of_mem hq
          have hjl := (List.getElem?_eq_some_iff.1 hj).1
          simpa using hno j q (by omega) hj
        unfold soaAt
        rw [this]
      go_wp2
      go_ret
      exact ⟨by rw [hi]; rfl, hb⟩
theorem soaHas_ (w : World) (A : Option Addr) (n c : Nat) (l : List Rc) (hr : Rd w 12 A n c (rcs l)) (hn : n ≤ 140737488355328) :
    Calls Try.prog 23 #[.slice A n c, .func (.func 24) #[] #[]] w (Tells w (.bool (l.any isSoa))) := by
  have hi := soaIdx_ w A n c l hr hn
  go_enter Try.func23, Try.ntmps23
  go_wp2_with (go_at_call 30; refine hi.mono ?_; rintro e w1 ⟨rfl, hb1⟩)
  go_ret
  refine ⟨?_, hb1⟩
  congr 2
  unfold soaAt
  cases h : l.findIdx? isSoa with
  | none =>
    rw [List.findIdx?_eq_none_iff] at h
    have : l.any isSoa = false := by rw [List.any_eq_false]; intro q hq; simpa using h q hq
    simp [this]
  | some i =>
    have : l.any isSoa = true := by
      rw [List.findIdx?_eq_some_iff_getElem] at h
      obtain ⟨h1, h2, _⟩ := h
      exact List.any_eq_true.2 ⟨_, List.getElem_mem h1, h2⟩
    rw [this]
    simp
/-- A slice without room. -/
theorem clip_ (w : World) (A : Option Addr) (n c : Nat) (cs : List Value) (hr : Rd w 12 A n c cs) (hn : n ≤ 140737488355328) : ∃ A' c', Rd w 12 A' n c' cs ∧
    Calls Try.prog 25 #[.slice A n c] w fun e w' => e = .returned (.slice A' n c') ∧ w' = w := by
  have hle := hr.le
  refine ⟨A, n, hr.full, ?_⟩
  go_enter Try.func25, Try.ntmps25
  go_wp2
  go_ret
  exact ⟨rfl, rfl⟩
/-- What messages are together. -/
def collOk (L : List Rc) : Bool := decide (2 ≤ L.length) && isSoa (L.getD 0 Rc.zero) && (L.getD 0 Rc.zero).eqB (L.getD (L.length - 1) Rc.zero) && !((L.drop 1).take (L.length - 2)).any isSoa
def collR (L : List Rc) : List Rc := if collOk L then L.take (L.length - 1) else []
def CollP (w : World) (L : List Rc) (e : Ending) (w' : World) : Prop := ∃ A c, e = .returned (.tuple #[.slice A (collR L).length c, .bool (collOk L)]) ∧ Rd w' 12 A (collR L).length c (rcs (collR L)) ∧ Below w.heap.size w w'
end Go.Proofs.Ytmifnmnpihikgaa
