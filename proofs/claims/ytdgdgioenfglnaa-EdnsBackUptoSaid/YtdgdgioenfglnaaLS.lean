/- edns: records cloned and taken away. -/
import Derived.Test.YtdgdgioenfglnaaLF
import Derived.Test.YtdgdgioenfglnaaHC
import Derived.Lib.SliceRun
import Derived.Deep.MidRow
namespace Go.HL
open Go.RowKit
set_option linter.unusedVariables false
set_option linter.unusedSimpArgs false
/-- Cells are written into the middle of a row of one's own. -/
theorem own_mid {P : Program} {w : World} {base : Nat} {e : TypeId} {size g n c : Nat} {cs : List Value} (h : w.ownsRow base e size (.slice (some ⟨g, 0, none⟩) n c) n cs) (o : Nat) (vs : List Value) (ho : o + vs.length ≤ n * size) (h1 : ∀ v ∈ vs, v.oneCell' = true) :
    ∃ w', (storeCells ⟨g, o, none⟩ vs 0).run P w = .ok () w' ∧ w'.ownsRow base e size (.slice (some ⟨g, 0, none⟩) n c) n (cs.take o ++ vs ++ cs.drop (o + vs.length)) ∧ w.grownBy w' (some g) := by
  obtain ⟨hl, h⟩ := h
  rcases h with ⟨h, _⟩ | ⟨g', cap, cur, he, hb, hh, hn, hc, hs, ht⟩
  · cases h
  · cases he
    have hnc : n * size ≤ c * size := Nat.mul_le_mul_right _ hn
    have hst := run_storeCells_at P g o e vs 0 cur w hh (by omega) h1
    refine ⟨_, hst, ⟨?_, .inr ⟨g, c, _, rfl, hb, setRow_heap w g cur _ e _ hh, hn, hc, ?_, ?_⟩⟩, grown_row w g _⟩
    · simp only [List.length_append, List.length_take, List.length_drop]; omega
    · simp only [List.size_toArray, List.length_append, List.length_take, List.length_drop, Array.length_toList]; omega
    · have hcl : cur.toList.length = c * size := by simpa using hs
      simp only [Nat.add_zero]
      obtain ⟨tl, htl⟩ : ∃ tl, cur.toList = cs ++ tl := ⟨cur.toList.drop (n * size), by rw [← ht, List.take_append_drop]⟩
      rw [htl, show (cs ++ tl).take o = cs.take o from List.take_append_of_le_length (by omega), show (cs ++ tl).drop (o + vs.length) = cs.drop (o + vs.length) ++ tl from List.drop_append_of_le_length (by omega), ← List.append_assoc, List.take_left' (by simp only [List.length_append, List.length_take, List.length_drop]; omega)]
end Go.HL
namespace Go.Proofs.Ytdgdgioenfglnaa
open Go.RowKit Go.HL
set_option linter.unusedVariables false
set_option linter.unusedSimpArgs false
theorem rcs_take : ∀ (l : List Rc) (i : Nat), rcs (l.take i) = (rcs l).take (i * 12)
  | [], i => by simp [rcs]
  | a :: l, 0 => by simp [rcs]
  | a :: l, i + 1 => by
    have h : rcs (a :: l) = a.cells ++ rcs l := rfl
    have h2 : a.cells.length = 12 := rfl
    rw [show (a :: l).take (i + 1) = a :: l.take i from rfl, show rcs (a :: l.take i) = a.cells ++ rcs (l.take i) from rfl, rcs_take l i, h, show (i + 1) * 12 = a.cells.length + i * 12 by omega, List.take_length_add_append]
theorem rcs_drop : ∀ (l : List Rc) (i : Nat), rcs (l.drop i) = (rcs l).drop (i * 12)
  | [], i => by simp [rcs]
  | a :: l, 0 => by simp [rcs]
  | a :: l, i + 1 => by
    have h : rcs (a :: l) = a.cells ++ rcs l := rfl
    have h2 : a.cells.length = 12 := rfl
    rw [show (a :: l).drop (i + 1) = l.drop i from rfl, rcs_drop l i, h, show (i + 1) * 12 = a.cells.length + i * 12 by omega, List.drop_length_add_append]
theorem rcs_set (l : List Rc) (i : Nat) (r : Rc) (h : i < l.length) : rcs (l.set i r) = (rcs l).take (i * 12) ++ r.cells ++ (rcs l).drop (i * 12 + r.cells.length) := by
  have h2 : r.cells.length = 12 := rfl
  rw [List.set_eq_take_append_cons_drop, if_pos h, show rcs (l.take i ++ r :: l.drop (i + 1)) = rcs (l.take i) ++ (r.cells ++ rcs (l.drop (i + 1))) by simp [rcs], rcs_take, rcs_drop, h2, show (i + 1) * 12 = i * 12 + 12 by omega, List.append_assoc]
theorem info_rec : (Try.prog.info? 31).map (fun i => (i.zero, i.size, i.bytes)) = some (some (.agg #[.string ⟨#[]⟩, .int .u16 0, .int .u16 0, .int .u32 0, .string ⟨#[]⟩, .string ⟨#[]⟩, .string ⟨#[]⟩, .int .u32 0, .int .u32 0, .int .u32 0, .int .u32 0, .int .u32 0]), 12, 96) := by kernel_rfl
theorem rcs_one (l : List Rc) : ∀ u ∈ rcs l, u.oneCell' = true := by
  intro u hu
  simp only [rcs, List.mem_flatMap] at hu
  obtain ⟨r, _, hu⟩ := hu
  simp only [Rc.cells, recCells, List.mem_cons, List.not_mem_nil, or_false] at hu
  rcases hu with rfl | rfl | rfl | rfl | rfl | rfl | rfl | rfl | rfl | rfl | rfl | rfl <;> rfl
theorem cloneR_ (w : World) (A : Option Addr) (n c : Nat) (l : List Rc) (hr : Rd w 12 A n c (rcs l)) (hn : n ≤ 1048576) :
    Calls Try.prog 26 #[.slice A n c] w fun e w' => ∃ v, e = .returned v ∧ w'.ownsRow w.heap.size 31 12 v n (rcs l) ∧ Below w.heap.size w w' := by
  have hl := Rd.recs hr
  cases A with
  | none =>
    obtain ⟨rfl, rfl⟩ := hr.nil_ rfl
    obtain rfl : l = [] := List.eq_nil_of_length_eq_zero hl
    have he := fun W => Lib.run_eql_slice_nil (P := Try.prog) W 44 31 none 0 0 0 0 Try.underlying44
    go_enter Try.func26, Try.ntmps26
    go_wp2
    go_ret
    exact ⟨_, rfl, World.ownsRow_nil _ _ _ _, Below.refl _ _⟩
  | some ad =>
    have he := fun W => Lib.run_eql_slice_nil (P := Try.prog) W 44 31 (some ad) n c 0 0 Try.underlying44
    have hb0 := below_new w (.cells #[] 31)
    have hr0 := hr.alloc (.cells #[] 31)
    go_enter Try.func26, Try.ntmps26
    go_wp2_with (first | (at_builtin; refine wpList_app (w0 := w) _ w.heap.size rfl (.tmp 5) (.tmp 6) 44 44 31 (.agg #[.string ⟨#[]⟩, .int .u16 0, .int .u16 0, .int .u32 0, .string ⟨#[]⟩, .string ⟨#[]⟩, .string ⟨#[]⟩, .int .u32 0, .int .u32 0, .int .u32 0, .int .u32 0, .int .u32 0]) 12 96 rfl Try.underlying44 info_rec rfl (by omega) (by omega) (.slice (some ⟨w.heap.size, 0, none⟩) 0 0) 0 [] rfl (.own ⟨rfl, .inr ⟨w.heap.size, 0, #[], rfl, Nat.le_refl _, heap_alloc_new w _, Nat.le_refl _, by decide, rfl, rfl⟩⟩) _ n (rcs l) rfl (.slice hr0 (rcs_one l)) hb0 (by simp) (by omega) ?_; intro v1 w1 _ ho1 hb1 hg1; have ho := ho1 (.inr ⟨rfl, .inr ⟨w.heap.size, 0, #[], rfl, Nat.le_refl _, heap_alloc_new w _, Nat.le_refl _, by decide, rfl, rfl⟩⟩)))
    rw [Nat.zero_add, List.nil_append] at ho
    go_ret
    exact ⟨_, rfl, ho, hb1⟩
end Go.Proofs.Ytdgdgioenfglnaa
