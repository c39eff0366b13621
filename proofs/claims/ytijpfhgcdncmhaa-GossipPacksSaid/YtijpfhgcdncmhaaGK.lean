/- A packet among the arguments: what its reading tells. -/
import Derived.Test.YtijpfhgcdncmhaaGA
import Derived.Test.YtijpfhgcdncmhaaHT
import Derived.Test.YtijpfhgcdncmhaaRows
namespace Go.Proofs.Ytijpfhgcdncmhaa
open Go.RowKit Go.HL Go.WideShapes
set_option linter.unusedVariables false
set_option linter.unusedSimpArgs false

/-- A slice's reading, its spare room with it. -/
theorem trod_slice_w {H : Type} {enc : TypeId × Value → H} {P : Program} {w : World} {base : Nat} {held : Bool} {fuel : Nat} {t e : TypeId} {cs : List Value} {x : DataW H × List MemPlace} (ht : P.underlying t = some (.slice e)) (h : DataW.trod enc P w base (fun _ => true) held fuel t cs = some x) :
    (cs = [.slice none 0 0] ∧ x.1 = .nil) ∨ ∃ m a len cap elems rest, fuel = m + 1 ∧ cs = [.slice (some a) len cap] ∧ len ≤ cap ∧
      ((List.range len).mapM fun i => (w.cells? base (a.add (i * P.cellsOf e)) (P.cellsOf e)).bind (DataW.trod enc P w base (fun _ => true) held m e)) = some elems ∧ x.1 = .slice (elems.map (·.1)) rest ∧ rest.length = cap - len := by
  cases fuel with
  | zero => simp [DataW.trod] at h
  | succ m =>
    unfold DataW.trod at h
    simp only [ht] at h
    split at h <;> rename_i hx <;> (first | (cases hx; done) | skip)
    · simp only [Option.some.injEq] at h
      subst h
      exact .inl ⟨rfl, rfl⟩
    · cases hx
      split at h
      · rename_i hc
        obtain ⟨elems, h1, h2⟩ := Option.bind_eq_some_iff.1 h
        obtain ⟨rest, h3, h4⟩ := Option.map_eq_some_iff.1 h2
        simp only [if_true] at h3
        have h5 := (mapM_get h3).1
        rw [List.length_range] at h5
        exact .inr ⟨m, _, _, _, elems, rest.map (·.1), rfl, rfl, hc.2.1, h1, by rw [← h4], by simpa using h5⟩
      · cases h
    all_goals (cases h; done)
section
variable {H : Type} {enc : TypeId × Value → H} {W : World} {base : Nat} {sp : Nat → Bool} {held : Bool}
set_option maxRecDepth 100000 in
theorem mb_open (m : Nat) (cs : List Value) (x : DataW H × List MemPlace) (h : DataW.trod enc Try.prog W base sp held m 41 cs = some x) :
    ∃ r : Mb, cs = r.cells ∧ r.ok := by
  obtain ⟨m1, xs, rfl, hl, hx, rfl⟩ := trod_struct Try.underlying41 h
  rw [show Try.prog.cellsOf 41 = 4 from by kernel_rfl] at hl
  obtain ⟨c0, c1, c2, c3, rfl⟩ : ∃ a b c d, cs = [a, b, c, d] := by
    match cs, hl with
    | [a, b, c, d], _ => exact ⟨a, b, c, d, rfl⟩
  obtain ⟨y0, r0, e0, hx0, rfl⟩ := mapM_cons_some hx
  obtain ⟨y1, r1, e1, hx1, rfl⟩ := mapM_cons_some hx0
  obtain ⟨y2, r2, e2, hx2, rfl⟩ := mapM_cons_some hx1
  obtain ⟨y3, r3, e3, hx3, rfl⟩ := mapM_cons_some hx2
  clear hx hx0 hx1 hx2 hx3
  simp only [show Try.prog.cellsOf 23 = 1 from by kernel_rfl, List.drop_zero, List.drop_succ_cons, List.take_succ_cons, List.take_zero] at e0
  simp only [show Try.prog.cellsOf 22 = 1 from by kernel_rfl, List.drop_zero, List.drop_succ_cons, List.take_succ_cons, List.take_zero] at e1
  simp only [show Try.prog.cellsOf 5 = 1 from by kernel_rfl, List.drop_zero, List.drop_succ_cons, List.take_succ_cons, List.take_zero] at e2
  simp only [show Try.prog.cellsOf 9 = 1 from by kernel_rfl, List.drop_zero, List.drop_succ_cons, List.take_succ_cons, List.take_zero] at e3
  obtain ⟨a, ea, wa, rfl⟩ := trod_int Try.underlying23 e0
  obtain rfl : c0 = .int .u32 a := by simpa using ea
  clear ea e0
  obtain ⟨b, ea, wb, rfl⟩ := trod_int Try.underlying22 e1
  obtain rfl : c1 = .int .u32 b := by simpa using ea
  clear ea e1
  obtain ⟨s, ea, ws, rfl⟩ := trod_int Try.underlying5 e2
  obtain rfl : c2 = .int .u8 s := by simpa using ea
  clear ea e2
  obtain ⟨t, ea, wt, rfl⟩ := trod_str Try.underlying9 e3
  obtain rfl : c3 = .string t := by simpa using ea
  exact ⟨⟨a, b, s, t⟩, rfl, (bd_u32 wa).1, (bd_u32 wa).2, (bd_u32 wb).1, (bd_u32 wb).2, (bd_u8 ws).1, (bd_u8 ws).2⟩
set_option maxRecDepth 100000 in
theorem open_packet {cs : Array Value} {d : DataW H} {ps : List MemPlace} (hs : cs.size = Try.prog.cellsOf 26) (h : DataW.Trod enc Try.prog W base (fun _ => true) held 26 (.agg cs) d ps)
    {ts : List TypeId} {ds : List (DataW H)} {j : Nat} (hsz : (DataW.weightsEach Try.prog ts ds).all (· ≤ reachBytes) = true) (ht : ts[j]? = some 26) (hd : ds[j]? = some d) :
    ∃ (k s t : Int) (A : Option Addr) (n c : Nat) (l : List Mb), Value.agg cs = pkVal k s t A n c ∧ Rd W 4 A n c (mbs l) ∧ (∀ r ∈ l, r.ok) ∧ 0 ≤ k ∧ k < 256 ∧ 0 ≤ s ∧ s < 4294967296 ∧ 0 ≤ t ∧ t < 4294967296 ∧ c * 32 ≤ 140737488351232 := by
  rw [show Try.prog.cellsOf 26 = 4 from by kernel_rfl] at hs
  obtain ⟨c0, c1, c2, c3, rfl⟩ : ∃ a b c d, cs = #[a, b, c, d] := by
    obtain ⟨q⟩ := cs
    match q, hs with
    | [a, b, c, d], _ => exact ⟨a, b, c, d, rfl⟩
  obtain ⟨fuel, hf⟩ := h
  obtain ⟨m1, xs, rfl, hl, hx, hdd⟩ := trod_struct Try.underlying26 hf
  obtain ⟨rfl, _⟩ := Prod.mk.inj hdd
  clear hdd hf hl
  obtain ⟨y0, r0, e0, hx0, rfl⟩ := mapM_cons_some hx
  obtain ⟨y1, r1, e1, hx1, rfl⟩ := mapM_cons_some hx0
  obtain ⟨y2, r2, e2, hx2, rfl⟩ := mapM_cons_some hx1
  obtain ⟨y3, r3, e3, hx3, rfl⟩ := mapM_cons_some hx2
  obtain rfl := mapM_nil_some hx3
  clear hx hx0 hx1 hx2 hx3
  simp only [show Try.prog.cellsOf 5 = 1 from by kernel_rfl, Value.cells, List.drop_zero, List.drop_succ_cons, List.take_succ_cons, List.take_zero] at e0
  simp only [show Try.prog.cellsOf 22 = 1 from by kernel_rfl, Value.cells, List.drop_zero, List.drop_succ_cons, List.take_succ_cons, List.take_zero] at e1
  simp only [show Try.prog.cellsOf 23 = 1 from by kernel_rfl, Value.cells, List.drop_zero, List.drop_succ_cons, List.take_succ_cons, List.take_zero] at e2
  simp only [show Try.prog.cellsOf 24 = 1 from by kernel_rfl, Value.cells, List.drop_zero, List.drop_succ_cons, List.take_succ_cons, List.take_zero] at e3
  have hw : ∀ q ∈ y3.1.weights Try.prog 24, q ≤ reachBytes := fun q hq => by
    have h1 := DataW.weights_mem_each (P := Try.prog) ht hd q (by
      simp only [DataW.weights, Try.underlying26]
      exact DataW.weights_mem_each (ts := [5, 22, 23, 24]) (ds := [y0, y1, y2, y3].map (·.1)) (j := 3) (t := 24) (d := y3.1) rfl rfl q hq)
    simpa using List.all_eq_true.1 hsz _ h1
  obtain ⟨k, ea, wk, rfl⟩ := trod_int Try.underlying5 e0
  obtain rfl : c0 = .int .u8 k := by simpa using ea
  clear ea e0
  obtain ⟨s, ea, ws, rfl⟩ := trod_int Try.underlying22 e1
  obtain rfl : c1 = .int .u32 s := by simpa using ea
  clear ea e1
  obtain ⟨t, ea, wt, rfl⟩ := trod_int Try.underlying23 e2
  obtain rfl : c2 = .int .u32 t := by simpa using ea
  clear ea e2
  rcases trod_slice_w Try.underlying24 e3 with ⟨ea, _⟩ | ⟨m2, a, len, cap, elems, rest, _, ea, hle, hm, hy, hrest⟩
  · obtain rfl : c3 = .slice none 0 0 := by simpa using ea
    exact ⟨k, s, t, none, 0, 0, [], rfl, Rd.nil _ _, (fun r (hr : r ∈ ([] : List Mb)) => absurd hr (by simp)), (bd_u8 wk).1, (bd_u8 wk).2, (bd_u32 ws).1, (bd_u32 ws).2, (bd_u32 wt).1, (bd_u32 wt).2, by omega⟩
  · obtain rfl : c3 = .slice (some a) len cap := by simpa using ea
    obtain ⟨l, h1, h2, h3, h4⟩ := rd_items Mb.cells 4 (by omega) (fun _ => rfl) (fun r d => r.ok) (show Try.prog.cellsOf 41 = 4 from by kernel_rfl) hle (fun cs x h => mb_open m2 cs x h) hm
    have hcap := hw ((elems.map (·.1)).length * 32 + rest.length * 32) (by
      rw [hy]
      simp only [DataW.weights, Try.underlying24, show Try.prog.bytesOf 41 = 32 from by kernel_rfl, Nat.add_mul]
      simp)
    rw [List.length_map, h3, hrest] at hcap
    exact ⟨k, s, t, some a, len, cap, l, rfl, h1, (fun r hr => by obtain ⟨_, _, h⟩ := h4 r hr; exact h), (bd_u8 wk).1, (bd_u8 wk).2, (bd_u32 ws).1, (bd_u32 ws).2, (bd_u32 wt).1, (bd_u32 wt).2, by
      have : reachBytes = 140737488351232 := rfl
      omega⟩
end
end Go.Proofs.Ytijpfhgcdncmhaa
