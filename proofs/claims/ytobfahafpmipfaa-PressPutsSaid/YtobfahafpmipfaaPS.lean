/- Items among the arguments. -/
import Derived.Test.YtobfahafpmipfaaHT
import Derived.Test.YtobfahafpmipfaaHW
import Derived.Test.YtobfahafpmipfaaHR
import Derived.Test.YtobfahafpmipfaaRows
namespace Go.Proofs.Ytobfahafpmipfaa
open Go.RowKit Go.HL Go.WideShapes
set_option linter.unusedVariables false
set_option linter.unusedSimpArgs false
/-- An item, as it lies in memory. -/
structure It where
  sk : Int
  nm : ByteArray
  pl : Bool
def It.cells (a : It) : List Value := [.int .i64 a.sk, .string a.nm, .bool a.pl]
def its (X : List It) : List Value := X.flatMap It.cells
structure It.ok (a : It) : Prop where
  s0 : -9223372036854775808 ≤ a.sk
  s1 : a.sk ≤ 9223372036854775807
  nm : a.nm.size ≤ 140737488351232
theorem its_len (X : List It) : (its X).length = X.length * 3 := by
  induction X with
  | nil => rfl
  | cons x r ih => simp only [its, List.flatMap_cons, List.length_append, List.length_cons] at ih ⊢; rw [ih]; simp [It.cells]; omega
theorem its_get (X : List It) (i j : Nat) (x : It) (h : X[i]? = some x) (hj : j < 3) : (its X)[i * 3 + j]? = x.cells[j]? := by
  have h1 := flat_get It.cells 3 (by omega) (fun _ => rfl) X (i * 3 + j)
  rw [show (i * 3 + j) / 3 = i by omega, show (i * 3 + j) % 3 = j by omega, h] at h1
  exact h1
section
variable {H : Type} {enc : TypeId × Value → H} {W : World} {base : Nat} {held : Bool}
set_option maxRecDepth 100000 in
theorem item_item (m : Nat) (cs : List Value) (x : DataW H × List MemPlace) (h : DataW.trod enc Try.prog W base (fun _ => true) held m 39 cs = some x) :
    ∃ r : It, cs = r.cells ∧ ((∀ q ∈ x.1.weights Try.prog 39, q ≤ reachBytes) → r.ok) := by
  obtain ⟨m1, xs, rfl, hl, hx, rfl⟩ := trod_struct Try.underlying39 h
  rw [show Try.prog.cellsOf 39 = 3 from by kernel_rfl] at hl
  obtain ⟨c0, c1, c2, rfl⟩ : ∃ a b c, cs = [a, b, c] := by
    match cs, hl with
    | [a, b, c], _ => exact ⟨a, b, c, rfl⟩
  obtain ⟨y0, r0, e0, hx0, rfl⟩ := mapM_cons_some hx
  obtain ⟨y1, r1, e1, hx1, rfl⟩ := mapM_cons_some hx0
  obtain ⟨y2, r2, e2, hx2, rfl⟩ := mapM_cons_some hx1
  obtain rfl := mapM_nil_some hx2
  clear hx hx0 hx1 hx2
  simp only [show Try.prog.cellsOf 3 = 1 from by kernel_rfl, List.drop_zero, List.drop_succ_cons, List.take_succ_cons, List.take_zero] at e0
  simp only [show Try.prog.cellsOf 23 = 1 from by kernel_rfl, List.drop_zero, List.drop_succ_cons, List.take_succ_cons, List.take_zero] at e1
  simp only [show Try.prog.cellsOf 4 = 1 from by kernel_rfl, List.drop_zero, List.drop_succ_cons, List.take_succ_cons, List.take_zero] at e2
  obtain ⟨a, ea, wa, rfl⟩ := trod_int Try.underlying3 e0
  obtain rfl : c0 = .int .i64 a := by simpa using ea
  clear ea e0
  obtain ⟨s, ea, wb, rfl⟩ := trod_str Try.underlying23 e1
  obtain rfl : c1 = .string s := by simpa using ea
  clear ea e1
  obtain ⟨b, ea, rfl⟩ := trod_bool Try.underlying4 e2
  obtain rfl : c2 = .bool b := by simpa using ea
  refine ⟨⟨a, s, b⟩, rfl, fun hq => ⟨(bd_i64 wa).1, (bd_i64 wa).2, ?_⟩⟩
  have h1 := hq s.data.toList.length (by
    simp only [DataW.weights, Try.underlying39]
    exact DataW.weights_mem_each (P := Try.prog) (ts := [3, 23, 4]) (ds := [DataW.lit (.int .i64 a), DataW.lit (.string s.data.toList), DataW.lit (.bool b)]) (j := 1) (t := 23) (d := DataW.lit (.string s.data.toList)) rfl rfl s.data.toList.length (by simp [DataW.weights]))
  have h3 : reachBytes = 140737488351232 := rfl
  rw [Array.length_toList] at h1
  show s.size ≤ _
  have h4 : s.size = s.data.size := rfl
  omega
theorem open_items {a : Option Addr} {len cap : Nat} {d : DataW H} {ps : List MemPlace} (h : DataW.Trod enc Try.prog W base (fun _ => true) held 30 (.slice a len cap) d ps)
    {ts : List TypeId} {ds : List (DataW H)} {j : Nat} (hsz : (DataW.weightsEach Try.prog ts ds).all (· ≤ reachBytes) = true) (ht : ts[j]? = some 30) (hd : ds[j]? = some d) :
    ∃ X : List It, Rd W 3 a len cap (its X) ∧ (∀ m ∈ X, m.ok) ∧ len < 9223372036854775808 := by
  have hw : ∀ q ∈ d.weights Try.prog 30, q ≤ reachBytes := fun q hq => by simpa using List.all_eq_true.1 hsz _ (DataW.weights_mem_each (P := Try.prog) ht hd q hq)
  obtain ⟨fuel, hf⟩ := h
  rcases trod_slice_w Try.underlying30 hf with ⟨hcs, hx⟩ | ⟨m1, a', len', cap', elems, rest, rfl, hcs, hle, hm, hx, hrest⟩
  · simp [Value.cells] at hcs
    obtain ⟨rfl, rfl, rfl⟩ := hcs
    exact ⟨[], Rd.nil W 3, (fun m hm => by cases hm), by omega⟩
  · simp [Value.cells] at hcs
    obtain ⟨rfl, rfl, rfl⟩ := hcs
    obtain ⟨l, h1, h2, h3, h4⟩ := rd_items It.cells 3 (by omega) (fun _ => rfl) (fun r d => (∀ q ∈ d.weights Try.prog 39, q ≤ reachBytes) → r.ok) (by kernel_rfl) hle (fun cs x h => item_item m1 cs x h) hm
    refine ⟨l, h1, fun m hm => ?_, ?_⟩
    · obtain ⟨dd, hd, h6⟩ := h4 m hm
      refine h6 fun q hq => hw q ?_
      dsimp only at hx
      rw [hx]
      simp only [DataW.weights, Try.underlying30, List.mem_cons, List.mem_append]
      exact .inr (.inl (weightsAll_mem hq hd))
    · have hcap := hw ((elems.map (·.1)).length * 32 + rest.length * 32) (by
        dsimp only at hx
        rw [hx]
        simp only [DataW.weights, Try.underlying30, show Try.prog.bytesOf 39 = 32 from by kernel_rfl, Nat.add_mul]
        simp)
      rw [List.length_map, h3] at hcap
      have : reachBytes = 140737488351232 := rfl
      omega
end
end Go.Proofs.Ytobfahafpmipfaa
