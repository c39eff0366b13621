/- Rows of bytes among small arguments. -/
import Derived.Test.YtmifnmnpihikgaaSG
import Derived.Test.YtmifnmnpihikgaaHW
import Derived.Test.YtmifnmnpihikgaaRows
namespace Go.Proofs.Ytmifnmnpihikgaa
open Go.RowKit Go.HL Go.WideShapes
set_option linter.unusedVariables false
set_option linter.unusedSimpArgs false
theorem bulk_pos {H : Type} (d : DataW H) : 1 ≤ Rows.uptoBulk d := by
  cases d with
  | lit l => cases l <;> simp [Rows.uptoBulk]
  | _ => simp [Rows.uptoBulk]
theorem bulk_len {H : Type} : ∀ (l : List (DataW H)), l.length ≤ Rows.uptoBulkAll l
  | [] => Nat.le_refl _
  | d :: r => by
    have h1 := bulk_pos d
    have h2 := bulk_len r
    simp only [Rows.uptoBulkAll, List.length_cons]
    omega
theorem bulk_mem {H : Type} {d : DataW H} : ∀ {l : List (DataW H)}, d ∈ l → Rows.uptoBulk d ≤ Rows.uptoBulkAll l
  | x :: r, h => by
    simp only [Rows.uptoBulkAll]
    rcases List.mem_cons.1 h with h1 | h1
    · subst h1; omega
    · have := bulk_mem h1; omega
section
variable {H : Type} {enc : TypeId × Value → H} {W : World} {base : Nat} {held : Bool}
theorem bytes_itemU {t e : TypeId} (hu : Try.prog.underlying t = some (.slice e)) (he : Try.prog.underlying e = some (.int .u8)) (hc : Try.prog.cellsOf e = 1) (m : Nat) (cs : List Value) (x : DataW H × List MemPlace) (h : DataW.trod enc Try.prog W base (fun _ => true) held m t cs = some x) :
    ∃ r : Ms, cs = [r.val] ∧ MsOk W r ∧ r.n ≤ Rows.uptoBulk x.1 := by
  rcases trod_slice_w hu h with ⟨hcs, hx⟩ | ⟨m1, a, len, cap, elems, rest, rfl, hcs, hle, hm, hx, hrest⟩
  · exact ⟨⟨none, 0, 0, []⟩, hcs, Rd.nil W 1, Nat.zero_le _⟩
  · have h' : DataW.Trod enc Try.prog W base (fun _ => true) held t (.slice (some a) len cap) x.1 x.2 := ⟨m1 + 1, by rw [hcs] at h; exact h⟩
    obtain ⟨l, hl⟩ := open_bytes hu he hc h'
    refine ⟨⟨some a, len, cap, l⟩, hcs, hl, ?_⟩
    obtain ⟨h2, _⟩ := mapM_get hm
    rw [List.length_range] at h2
    have h3 := bulk_len (elems.map (·.1))
    rw [List.length_map, h2] at h3
    rw [hx]
    simp only [Rows.uptoBulk]
    omega
theorem open_rowsU {a : Option Addr} {len cap : Nat} {d : DataW H} {ps : List MemPlace} (h : DataW.Trod enc Try.prog W base (fun _ => true) held 22 (.slice a len cap) d ps) (hk : Rows.uptoBulk d ≤ 1048576) :
    ∃ X : List Ms, Mss W a len cap X ∧ ∀ m ∈ X, m.n ≤ 1048576 := by
  obtain ⟨fuel, hf⟩ := h
  rcases trod_slice_w Try.underlying22 hf with ⟨hcs, hx⟩ | ⟨m1, a', len', cap', elems, rest, rfl, hcs, hle, hm, hx, hrest⟩
  · simp [Value.cells] at hcs
    obtain ⟨rfl, rfl, rfl⟩ := hcs
    exact ⟨[], ⟨Rd.nil W 1, fun m hm => by cases hm⟩, fun m hm => by cases hm⟩
  · simp [Value.cells] at hcs
    obtain ⟨rfl, rfl, rfl⟩ := hcs
    obtain ⟨l, h1, h2, h3, h4⟩ := rd_items (fun m : Ms => [m.val]) 1 (by omega) (fun _ => rfl) (fun r d => MsOk W r ∧ r.n ≤ Rows.uptoBulk d) (by kernel_rfl) hle (fun cs x h => bytes_itemU Try.underlying26 Try.underlying5 (by kernel_rfl) m1 cs x h) hm
    refine ⟨l, ⟨?_, fun m hm => ?_⟩, fun m hm => ?_⟩
    · have : ∀ l : List Ms, l.flatMap (fun m : Ms => [m.val]) = l.map Ms.val := fun l => by
        induction l with
        | nil => rfl
        | cons x l ih => simp only [List.flatMap_cons, List.map_cons, ih]; rfl
      rwa [this] at h1
    · obtain ⟨_, _, h5, _⟩ := h4 m hm
      exact h5
    · obtain ⟨dd, hd, _, h6⟩ := h4 m hm
      have h7 := bulk_mem hd
      dsimp only at hx
      rw [hx] at hk
      simp only [Rows.uptoBulk] at hk
      omega
end
end Go.Proofs.Ytmifnmnpihikgaa
