/- Steps: in memory, among the arguments; heavy: contract. -/
import Derived.Test.YtioehogncgloiaaCL
namespace Go.Proofs.Ytioehogncgloiaa
open Go.RowKit Go.HL Go.Maps Go.WideShapes
set_option linter.unusedVariables false
set_option linter.unusedSimpArgs false
/-- A step in memory. -/
structure St where
  put : Bool
  q : Qn
  a : Am
  now : Int
def St.cells (s : St) : List Value := [.bool s.put, .string s.q.nm, .int .u16 s.q.ty, .int .u16 s.q.cl, .int .u16 s.a.rc, .bool s.a.aa, .slice s.a.an.a s.a.an.n s.a.an.c, .slice s.a.au.a s.a.au.n s.a.au.c, .slice s.a.ex.a s.a.ex.n s.a.ex.c, .int .i64 s.now]
structure St.ok (W : World) (s : St) : Prop where
  q : s.q.ok
  a : s.a.ok W
  now : -9223372036854775808 ≤ s.now ∧ s.now ≤ 9223372036854775807
theorem St.ok.below {W W' : World} {s : St} (h : s.ok W) (hb : Below W.heap.size W W') : s.ok W' := ⟨h.q, h.a.below hb, h.now⟩
/-- Steps in memory. -/
structure Sts (W : World) (A : Option Addr) (n c : Nat) (L : List St) : Prop where
  r : Rd W 10 A n c (L.flatMap St.cells)
  ok : ∀ s ∈ L, s.ok W
theorem Sts.below {W W' : World} {A : Option Addr} {n c : Nat} {L : List St} (h : Sts W A n c L) (hb : Below W.heap.size W W') : Sts W' A n c L := ⟨h.r.below hb, fun m hm => (h.ok m hm).below hb⟩
theorem Sts.len {W : World} {A : Option Addr} {n c : Nat} {L : List St} (h : Sts W A n c L) : L.length = n := by
  have h1 := h.r.len
  have : ∀ L : List St, (L.flatMap St.cells).length = L.length * 10 := fun L => by
    induction L with
    | nil => rfl
    | cons x l ih => rw [List.flatMap_cons, List.length_append, ih, List.length_cons]; simp [St.cells]; omega
  rw [this] at h1
  omega
theorem Sts.at {W : World} {ad : Addr} {n c : Nat} {L : List St} (h : Sts W (some ad) n c L) (i : Nat) (s : St) (hs : L[i]? = some s) : Cells W (ad.add (i * 10)) s.cells := fun j u hu => by
  have := h.r.cells ad rfl (i * 10 + j) u (by
    have hj : j < 10 := (List.getElem?_eq_some_iff.1 hu).1
    rw [flat_get St.cells 10 (by omega) (fun _ => rfl), show (i * 10 + j) / 10 = i by omega, show (i * 10 + j) % 10 = j by omega, hs]
    exact hu)
  rwa [Addr.add_add]
theorem sizeStep : (Try.prog.info? 51).map (·.size) = some 10 := by kernel_rfl
theorem cells_off {w : World} {a : Addr} {cs : List Value} (h : Cells w a cs) (k : Nat) : Cells w (a.add k) (cs.drop k) := h.drop k
/-- Steps that are small enough. -/
def SmallS (n : Nat) (L : List St) : Prop := n ≤ 150 ∧ ∀ s ∈ L, s.a.small ∧ s.q.nm.size ≤ 2000
def HeavyP (w : World) (n : Nat) (L : List St) (e : Ending) (w' : World) : Prop := ∃ b : Bool, e = .returned (.bool b) ∧ (b = false → SmallS n L) ∧ Below w.heap.size w w'
set_option maxHeartbeats 1000000 in
theorem heavy_ (w : World) (A : Option Addr) (n c : Nat) (L : List St) (h : Sts w A n c L) : Calls Try.prog 15 #[.slice A n c] w (HeavyP w n L) := by
  have hl := h.len
  go_enter Try.func15, Try.ntmps15
  by_cases hbig : 150 < n
  · have d : (150 : Int) < (n : Int) := by omega
    go_wp2
    go_ret
    exact ⟨true, rfl, (fun h => by cases h), Below.refl _ _⟩
  have d : ¬ (150 : Int) < (n : Int) := by omega
  have hn : n ≤ 150 := by omega
  go_wp2
  go_loopw [3] (fun i wr => ∃ k : Nat, k ≤ n ∧ i = .int .i64 k ∧ (∀ (j : Nat) s, j < k → L[j]? = some s → s.a.small ∧ s.q.nm.size ≤ 2000) ∧ Below w.heap.size w wr) (fun i _ => n - (intOf i).toNat)
  case atStart => exact ⟨0, Nat.zero_le _, rfl, fun j r h => absurd h (by omega), Below.refl _ _⟩
  case round =>
    obtain ⟨k, hk, rfl, hno, hb⟩ := hrel
    by_cases hlt : k < n
    · obtain ⟨s, hsk⟩ : ∃ s, L[k]? = some s := ⟨L[k], List.getElem?_eq_getElem (by omega)⟩
      have hso := h.ok s (List.mem_of_getElem? hsk)
      cases A with
      | none => have := (h.r.nil_ rfl).1; omega
      | some ad =>
      have hcs := (h.below hb).at k s hsk
      have ha := hso.a.below hb
      have hlg := large_ wr s.a ha
      have g4 := cells_at hcs 3 _ rfl
      have g5 := cells_at hcs 4 _ rfl
      have g6 := cells_at hcs 5 _ rfl
      have g7 := cells_at hcs 6 _ rfl
      have g8 := cells_at hcs 7 _ rfl
      have hls : Calls Try.prog 8 #[s.a.val] wr fun e w' => (e = .returned (.bool true) ∧ Below wr.heap.size wr w') ∨ (e = .returned (.bool false) ∧ s.a.small ∧ Below wr.heap.size wr w') := hlg.mono (by rintro e w' ⟨b, h, h', hb⟩; cases b; exact .inr ⟨h, h' rfl, hb⟩; exact .inl ⟨h, hb⟩)
      clear hlg
      unfold Am.val at hls
      have hnm : ∀ w5, Below wr.heap.size wr w5 → w5.cell? ⟨(ad.add (k * 10)).block, (ad.add (k * 10)).off + 1, none⟩ = some (.string s.q.nm) := fun w5 hb5 => cells_at (((h.below hb).below hb5).at k s hsk) 0 _ rfl
      have hki : (k : Int) < (n : Int) := by omega
      by_cases hq : 2000 < s.q.nm.size
      · have dq : (2000 : Int) < (s.q.nm.size : Int) := by omega
        go_wp2_with (first | (go_at_call 8; refine hls.mono ?_; clear hls; rintro e w5 (⟨rfl, hb5⟩ | ⟨rfl, hsm, hb5⟩) <;> have hn5 := hnm w5 hb5))
        all_goals go_ret
        all_goals exact ⟨true, rfl, (fun h => by cases h), below_trans hb hb5⟩
      · have dq : ¬ (2000 : Int) < (s.q.nm.size : Int) := by omega
        go_wp2_with (first | (go_at_call 8; refine hls.mono ?_; clear hls; rintro e w5 (⟨rfl, hb5⟩ | ⟨rfl, hsm, hb5⟩) <;> have hn5 := hnm w5 hb5))
        · go_ret
          exact ⟨true, rfl, (fun h => by cases h), below_trans hb hb5⟩
        · go_roundw
          case rel =>
            refine ⟨k + 1, by omega, by go_num, fun j q hj hq2 => ?_, below_trans hb hb5⟩
            by_cases hjk : j < k
            · exact hno j q hjk hq2
            · obtain rfl : j = k := by omega
              rw [hsk] at hq2
              cases hq2
              exact ⟨hsm, by omega⟩
          case measure => simp [intOf]; omega
    · obtain rfl : k = n := by omega
      go_wp2
      go_ret
      refine ⟨false, rfl, fun _ => ⟨hn, fun s hs => ?_⟩, hb⟩
      obtain ⟨j, hj⟩ := List.getElem?_of_mem hs
      exact hno j s (by have := (List.getElem?_eq_some_iff.1 hj).1; omega) hj
end Go.Proofs.Ytioehogncgloiaa
