/- DrawPlays: the law's walk for any number of acts; acts among the arguments. -/
import Derived.Test.YtbcpnjgmbdhdkaaDM
import Derived.Test.YtbcpnjgmbdhdkaaHW
import Derived.Test.YtbcpnjgmbdhdkaaHR
import Derived.Test.YtbcpnjgmbdhdkaaRows
namespace Go.Proofs.Ytbcpnjgmbdhdkaa
open Go.RowKit Go.HL Go.WideShapes
set_option linter.unusedVariables false
set_option linter.unusedSimpArgs false
theorem wf_u32' {l : List Int} (hw : ∀ x ∈ l, (Lit.int .u32 x).wf = true) : U32 l := fun x hx => by
  have h := hw x hx
  simp [Lit.wf, IntKind.min, IntKind.max, IntKind.signed, IntKind.bits] at h
  omega
theorem drawPlays_walk (w : World) (A : Option Addr) (m c : Nat) (l : List Int) (A' : Option Addr) (n c' : Nat) (X : List Ac) (hr : Rd w 1 A m c (l.map (Value.int .u32))) (hw : ∀ x ∈ l, (Lit.int .u32 x).wf = true) (hc : c * 4 ≤ 140737488351232) (hX : Rd w 3 A' n c' (acs X)) (hok : ∀ a ∈ X, a.ok w) (hy : n < 9223372036854775808) :
    Calls Try.prog 6 #[.slice A m c, .slice A' n c'] w (Tells w (.bool true)) := by
  by_cases hn : n ≤ 200
  · exact drawPlays_core w A m c l hr (wf_u32' hw) hc A' n c' X hX hok hn
  · have hn' : (200 : Int) < (n : Int) := by omega
    go_enter Try.func6, Try.ntmps6
    go_wp2_with (go_at_call 8; refine (wakes _).mono ?_; rintro e w7 ⟨rfl, hb7⟩)
    go_ret
    exact ⟨rfl, hb7⟩
section
variable {H : Type} {enc : TypeId × Value → H} {W : World} {base : Nat} {held : Bool}
set_option maxRecDepth 100000 in
theorem act_item (m : Nat) (cs : List Value) (x : DataW H × List MemPlace) (h : DataW.trod enc Try.prog W base (fun _ => true) held m 41 cs = some x) :
    ∃ r : Ac, cs = r.cells ∧ ((∀ q ∈ x.1.weights Try.prog 41, q ≤ reachBytes) → r.ok W) := by
  obtain ⟨m1, xs, rfl, hl, hx, rfl⟩ := trod_struct Try.underlying41 h
  rw [show Try.prog.cellsOf 41 = 3 from by kernel_rfl] at hl
  obtain ⟨c0, c1, c2, rfl⟩ : ∃ a b c, cs = [a, b, c] := by
    match cs, hl with
    | [a, b, c], _ => exact ⟨a, b, c, rfl⟩
  obtain ⟨y0, r0, e0, hx0, rfl⟩ := mapM_cons_some hx
  obtain ⟨y1, r1, e1, hx1, rfl⟩ := mapM_cons_some hx0
  obtain ⟨y2, r2, e2, hx2, rfl⟩ := mapM_cons_some hx1
  obtain rfl := mapM_nil_some hx2
  clear hx hx0 hx1 hx2
  simp only [show Try.prog.cellsOf 3 = 1 from by kernel_rfl, List.drop_zero, List.drop_succ_cons, List.take_succ_cons, List.take_zero] at e0
  simp only [show Try.prog.cellsOf 3 = 1 from by kernel_rfl, List.drop_zero, List.drop_succ_cons, List.take_succ_cons, List.take_zero] at e1
  simp only [show Try.prog.cellsOf 25 = 1 from by kernel_rfl, List.drop_zero, List.drop_succ_cons, List.take_succ_cons, List.take_zero] at e2
  obtain ⟨a, ea, wa, rfl⟩ := trod_int Try.underlying3 e0
  obtain rfl : c0 = .int .i64 a := by simpa using ea
  clear ea e0
  obtain ⟨b, ea, wb, rfl⟩ := trod_int Try.underlying3 e1
  obtain rfl : c1 = .int .i64 b := by simpa using ea
  clear ea e1
  rcases trod_slice_w Try.underlying25 e2 with ⟨hcs, hx⟩ | ⟨m2, ad, len, cap, elems, rest, rfl, hcs, hle, hm, hx, hrest⟩
  · obtain rfl : c2 = .slice none 0 0 := by simpa using hcs
    exact ⟨⟨a, b, none, 0, 0, []⟩, rfl, fun _ => ⟨Rd.nil W 1, by show 0 * 4 ≤ _; omega, (fun x hx => by cases hx), (bd_i64 wb).1, (bd_i64 wb).2⟩⟩
  · obtain rfl : c2 = .slice (some ad) len cap := by simpa using hcs
    have h' : DataW.Trod enc Try.prog W base (fun _ => true) held 25 (.slice (some ad) len cap) y2.1 y2.2 := ⟨m2 + 1, e2⟩
    obtain ⟨l, hl, hw⟩ := open_nums Try.underlying25 Try.underlying26 (by kernel_rfl) h'
    refine ⟨⟨a, b, some ad, len, cap, l⟩, rfl, fun hq => ⟨hl, ?_, wf_u32' hw, (bd_i64 wb).1, (bd_i64 wb).2⟩⟩
    have h1 := hq ((elems.length + rest.length) * Try.prog.bytesOf 26) (by
      simp only [DataW.weights, Try.underlying41]
      exact DataW.weights_mem_each (P := Try.prog) (ts := [3, 3, 25]) (ds := [(DataW.lit (.int .i64 a), ([] : List MemPlace)), (DataW.lit (.int .i64 b), []), y2].map (·.1)) (j := 2) (t := 25) (d := y2.1) rfl rfl ((elems.length + rest.length) * Try.prog.bytesOf 26) (by rw [hx]; simp [DataW.weights, Try.underlying25]))
    obtain ⟨h2, _⟩ := mapM_get hm
    rw [List.length_range] at h2
    rw [show Try.prog.bytesOf 26 = 4 from by kernel_rfl, h2, hrest] at h1
    have h3 : reachBytes = 140737488351232 := rfl
    show cap * 4 ≤ _
    omega
theorem open_acts {a : Option Addr} {len cap : Nat} {d : DataW H} {ps : List MemPlace} (h : DataW.Trod enc Try.prog W base (fun _ => true) held 37 (.slice a len cap) d ps)
    {ts : List TypeId} {ds : List (DataW H)} {j : Nat} (hsz : (DataW.weightsEach Try.prog ts ds).all (· ≤ reachBytes) = true) (ht : ts[j]? = some 37) (hd : ds[j]? = some d) :
    ∃ X : List Ac, Rd W 3 a len cap (acs X) ∧ (∀ m ∈ X, m.ok W) ∧ len < 9223372036854775808 := by
  have hw : ∀ q ∈ d.weights Try.prog 37, q ≤ reachBytes := fun q hq => by simpa using List.all_eq_true.1 hsz _ (DataW.weights_mem_each (P := Try.prog) ht hd q hq)
  obtain ⟨fuel, hf⟩ := h
  rcases trod_slice_w Try.underlying37 hf with ⟨hcs, hx⟩ | ⟨m1, a', len', cap', elems, rest, rfl, hcs, hle, hm, hx, hrest⟩
  · simp [Value.cells] at hcs
    obtain ⟨rfl, rfl, rfl⟩ := hcs
    exact ⟨[], Rd.nil W 3, (fun m hm => by cases hm), by omega⟩
  · simp [Value.cells] at hcs
    obtain ⟨rfl, rfl, rfl⟩ := hcs
    obtain ⟨l, h1, h2, h3, h4⟩ := rd_items Ac.cells 3 (by omega) (fun _ => rfl) (fun r d => (∀ q ∈ d.weights Try.prog 41, q ≤ reachBytes) → r.ok W) (by kernel_rfl) hle (fun cs x h => act_item m1 cs x h) hm
    refine ⟨l, h1, fun m hm => ?_, ?_⟩
    · obtain ⟨dd, hd, h6⟩ := h4 m hm
      refine h6 fun q hq => hw q ?_
      dsimp only at hx
      rw [hx]
      simp only [DataW.weights, Try.underlying37, List.mem_cons, List.mem_append]
      exact .inr (.inl (weightsAll_mem hq hd))
    · have hcap := hw ((elems.map (·.1)).length * 40 + rest.length * 40) (by
        dsimp only at hx
        rw [hx]
        simp only [DataW.weights, Try.underlying37, show Try.prog.bytesOf 41 = 40 from by kernel_rfl, Nat.add_mul]
        simp)
      rw [List.length_map, h3] at hcap
      have : reachBytes = 140737488351232 := rfl
      omega
end
end Go.Proofs.Ytbcpnjgmbdhdkaa
