import Derived.Test.YtdjknikkiojfhaaDoorZRDA
import Derived.Test.YtdjknikkiojfhaaDoorZHT
import Derived.Test.YtdjknikkiojfhaaDoorRows
import Derived.LaidLaws
/- What the listed variable holds, off the row's list. -/
namespace Go.Proofs.YtdjknikkiojfhaaDoor
open Go.RowKit Go.HL
set_option linter.unusedVariables false
set_option linter.unusedSimpArgs false
theorem lst27 {α : Type} : ∀ cs : List α, cs.length = 27 → ∃ c0 c1 c2 c3 c4 c5 c6 c7 c8 c9 c10 c11 c12 c13 c14 c15 c16 c17 c18 c19 c20 c21 c22 c23 c24 c25 c26, cs = [c0, c1, c2, c3, c4, c5, c6, c7, c8, c9, c10, c11, c12, c13, c14, c15, c16, c17, c18, c19, c20, c21, c22, c23, c24, c25, c26]
  | [c0, c1, c2, c3, c4, c5, c6, c7, c8, c9, c10, c11, c12, c13, c14, c15, c16, c17, c18, c19, c20, c21, c22, c23, c24, c25, c26], _ => ⟨c0, c1, c2, c3, c4, c5, c6, c7, c8, c9, c10, c11, c12, c13, c14, c15, c16, c17, c18, c19, c20, c21, c22, c23, c24, c25, c26, rfl⟩
theorem str_of_toList {s : ByteArray} {l : List UInt8} (h : s.data.toList = l) : s = str l := by subst h; rfl
section
variable {H : Type} {enc : TypeId × Value → H} {W : World} {base : Nat} {sp : Nat → Bool} {held : Bool}
set_option maxRecDepth 100000 in
theorem kind_elem {m : Nat} {cs : List Value} {x : DataW H × List MemPlace} (h : DataW.trod enc Tryd.prog W base sp held m 138 cs = some x) (a : Int) (n f : List UInt8) (hx : x.1 = .agg [.lit (.int .u16 a), .lit (.string n), .lit (.string f)]) : cs = [.int .u16 a, .string (str n), .string (str f)] := by
  obtain ⟨m1, xs, rfl, hl, hm, rfl⟩ := trod_struct Tryd.underlying138 h
  rw [show Tryd.prog.cellsOf 138 = 3 from by kernel_rfl] at hl
  obtain ⟨c0, c1, c2, rfl⟩ : ∃ a b c, cs = [a, b, c] := by match cs, hl with | [a, b, c], _ => exact ⟨a, b, c, rfl⟩
  obtain ⟨y0, r0, e0, hm0, rfl⟩ := mapM_cons_some hm
  obtain ⟨y1, r1, e1, hm1, rfl⟩ := mapM_cons_some hm0
  obtain ⟨y2, r2, e2, hm2, rfl⟩ := mapM_cons_some hm1
  obtain rfl := mapM_nil_some hm2
  simp only [show Tryd.prog.cellsOf 22 = 1 from by kernel_rfl, List.drop_zero, List.drop_succ_cons, List.take_succ_cons, List.take_zero] at e0
  simp only [show Tryd.prog.cellsOf 9 = 1 from by kernel_rfl, List.drop_zero, List.drop_succ_cons, List.take_succ_cons, List.take_zero] at e1 e2
  obtain ⟨z, ea, -, rfl⟩ := trod_int Tryd.underlying22 e0
  obtain ⟨s1, eb, -, rfl⟩ := trod_str Tryd.underlying9 e1
  obtain ⟨s2, ec, -, rfl⟩ := trod_str Tryd.underlying9 e2
  simp only [List.map_cons, List.map_nil, DataW.agg.injEq, List.cons.injEq, DataW.lit.injEq, Lit.int.injEq, Lit.string.injEq, and_true, true_and] at hx
  obtain ⟨rfl, h1, h2⟩ := hx
  rw [← str_of_toList h1, ← str_of_toList h2]
  simp_all
end
set_option maxRecDepth 100000 in
theorem kd_of_laid {W : World} (h : laidMetH Tryd.prog [("hearsay/rdata.kinds", Rows.laid_hearsay_rdata_kinds)] W) : Kd W := by
  have h' : laidMet Tryd.prog [("hearsay/rdata.kinds", Rows.laid_hearsay_rdata_kinds)] W := h
  obtain ⟨ps, ⟨g, t, cs, fuel, p, q, hg, ht, hvar, hd, _, _⟩, _⟩ := h'
  obtain rfl : g = 0 := Option.some.inj (hg.symm.trans (show Tryd.prog.globalNamed "hearsay/rdata.kinds" = some 0 by kernel_rfl))
  obtain rfl : t = 139 := Option.some.inj (ht.symm.trans (show (Tryd.prog.globals[0]?).map (·.type) = some 139 by kernel_rfl))
  have hc : ∀ i : Nat, W.cell? ⟨0, i, none⟩ = cs[i]? := World.var?_cell (show Tryd.prog.globalNamed "hearsay/rdata.kinds" = some 0 by kernel_rfl) hvar
  obtain ⟨m1, xs, rfl, hl, hm, hx⟩ := trod_array Tryd.underlying139 hd
  rw [show Tryd.prog.cellsOf 139 = 27 from by kernel_rfl] at hl
  simp only [show Tryd.prog.cellsOf 138 = 3 from by kernel_rfl] at hm
  have hx1 : xs.map (·.1) = kindsL.map fun k => (.agg [.lit (.int .u16 k.1), .lit (.string k.2.1), .lit (.string k.2.2)] : DataW Unit) := by
    have := congrArg Prod.fst hx
    simp only [Rows.laid_hearsay_rdata_kinds, DataW.agg.injEq] at this
    exact this.symm
  clear hx hd hvar h
  obtain ⟨l⟩ := cs
  obtain ⟨c0, c1, c2, c3, c4, c5, c6, c7, c8, c9, c10, c11, c12, c13, c14, c15, c16, c17, c18, c19, c20, c21, c22, c23, c24, c25, c26, rfl⟩ := lst27 l hl
  rw [show List.range 9 = [0, 1, 2, 3, 4, 5, 6, 7, 8] from rfl] at hm
  obtain ⟨y0, r0, e0, hm0, rfl⟩ := mapM_cons_some hm
  obtain ⟨y1, r1, e1, hm1, rfl⟩ := mapM_cons_some hm0
  obtain ⟨y2, r2, e2, hm2, rfl⟩ := mapM_cons_some hm1
  obtain ⟨y3, r3, e3, hm3, rfl⟩ := mapM_cons_some hm2
  obtain ⟨y4, r4, e4, hm4, rfl⟩ := mapM_cons_some hm3
  obtain ⟨y5, r5, e5, hm5, rfl⟩ := mapM_cons_some hm4
  obtain ⟨y6, r6, e6, hm6, rfl⟩ := mapM_cons_some hm5
  obtain ⟨y7, r7, e7, hm7, rfl⟩ := mapM_cons_some hm6
  obtain ⟨y8, r8, e8, hm8, rfl⟩ := mapM_cons_some hm7
  obtain rfl := mapM_nil_some hm8
  simp only [kindsL, List.map_cons, List.map_nil, List.cons.injEq, and_true] at hx1
  obtain ⟨z0, z1, z2, z3, z4, z5, z6, z7, z8⟩ := hx1
  clear hm hm0 hm1 hm2 hm3 hm4 hm5 hm6 hm7 hm8
  obtain ⟨rfl, rfl, rfl⟩ : c0 = _ ∧ c1 = _ ∧ c2 = _ := by have := kind_elem e0 _ _ _ z0; simpa using this
  obtain ⟨rfl, rfl, rfl⟩ : c3 = _ ∧ c4 = _ ∧ c5 = _ := by have := kind_elem e1 _ _ _ z1; simpa using this
  obtain ⟨rfl, rfl, rfl⟩ : c6 = _ ∧ c7 = _ ∧ c8 = _ := by have := kind_elem e2 _ _ _ z2; simpa using this
  obtain ⟨rfl, rfl, rfl⟩ : c9 = _ ∧ c10 = _ ∧ c11 = _ := by have := kind_elem e3 _ _ _ z3; simpa using this
  obtain ⟨rfl, rfl, rfl⟩ : c12 = _ ∧ c13 = _ ∧ c14 = _ := by have := kind_elem e4 _ _ _ z4; simpa using this
  obtain ⟨rfl, rfl, rfl⟩ : c15 = _ ∧ c16 = _ ∧ c17 = _ := by have := kind_elem e5 _ _ _ z5; simpa using this
  obtain ⟨rfl, rfl, rfl⟩ : c18 = _ ∧ c19 = _ ∧ c20 = _ := by have := kind_elem e6 _ _ _ z6; simpa using this
  obtain ⟨rfl, rfl, rfl⟩ : c21 = _ ∧ c22 = _ ∧ c23 = _ := by have := kind_elem e7 _ _ _ z7; simpa using this
  obtain ⟨rfl, rfl, rfl⟩ : c24 = _ ∧ c25 = _ ∧ c26 = _ := by have := kind_elem e8 _ _ _ z8; simpa using this
  intro j u hu
  have hz : ∀ i : Nat, i = 0 + i := fun i => (Nat.zero_add i).symm
  first | rw [add_plain] | skip
  first | rw [Nat.zero_add] | skip
  rw [hc j, ← hu]
  exact (show (kindCells.toArray)[j]? = kindCells[j]? from List.getElem?_toArray)
end Go.Proofs.YtdjknikkiojfhaaDoor
