/- Answers, questions and steps among the arguments. -/
import Derived.Test.YtioehogncgloiaaCM
namespace Go.Proofs.Ytioehogncgloiaa
open Go.RowKit Go.HL Go.WideShapes
set_option linter.unusedVariables false
set_option linter.unusedSimpArgs false
section
variable {H : Type} {enc : TypeId × Value → H} {W : World} {base : Nat} {sp : Nat → Bool} {held : Bool}
theorem lst5 {α : Type} (q : List α) (h : q.length = 5) : ∃ a b c d e, q = [a, b, c, d, e] := by
  match q, h with
  | [a, b, c, d, e], _ => exact ⟨a, b, c, d, e, rfl⟩
theorem lst10 {α : Type} (q : List α) (h : q.length = 10) : ∃ a b c d e f g i j k, q = [a, b, c, d, e, f, g, i, j, k] := by
  match q, h with
  | [a, b, c, d, e, f, g, i, j, k], _ => exact ⟨a, b, c, d, e, f, g, i, j, k, rfl⟩
theorem ans_open (m : Nat) (cs : List Value) (x : DataW H × List MemPlace) (h : DataW.trod enc Try.prog W base sp held m 28 cs = some x) : ∃ a : Am, cs = a.cells ∧ a.ok W := by
  obtain ⟨m1, xs, rfl, hl, hx, rfl⟩ := trod_struct Try.underlying28 h
  rw [show Try.prog.cellsOf 28 = 5 from by kernel_rfl] at hl
  obtain ⟨c0, c1, c2, c3, c4, rfl⟩ := lst5 cs hl
  obtain ⟨y0, r0, e0, hx0, rfl⟩ := mapM_cons_some hx
  obtain ⟨y1, r1, e1, hx1, rfl⟩ := mapM_cons_some hx0
  obtain ⟨y2, r2, e2, hx2, rfl⟩ := mapM_cons_some hx1
  obtain ⟨y3, r3, e3, hx3, rfl⟩ := mapM_cons_some hx2
  obtain ⟨y4, r4, e4, hx4, rfl⟩ := mapM_cons_some hx3
  obtain rfl := mapM_nil_some hx4
  clear hx hx0 hx1 hx2 hx3 hx4
  simp only [show Try.prog.cellsOf 23 = 1 from by kernel_rfl, List.drop_zero, List.drop_succ_cons, List.take_succ_cons, List.take_zero] at e0
  simp only [show Try.prog.cellsOf 4 = 1 from by kernel_rfl, List.drop_zero, List.drop_succ_cons, List.take_succ_cons, List.take_zero] at e1
  simp only [show Try.prog.cellsOf 26 = 1 from by kernel_rfl, List.drop_zero, List.drop_succ_cons, List.take_succ_cons, List.take_zero] at e2 e3 e4
  obtain ⟨rc, ea, wrc, rfl⟩ := trod_int Try.underlying23 e0
  obtain rfl : c0 = .int .u16 rc := by simpa using ea
  clear ea e0
  obtain ⟨aa, ea, rfl⟩ := trod_bool Try.underlying4 e1
  obtain rfl : c1 = .bool aa := by simpa using ea
  clear ea e1
  obtain ⟨an, ea, kan, _⟩ := recsl_open e2
  obtain rfl : c2 = an.val := by simpa using ea
  clear ea e2
  obtain ⟨au, ea, kau, _⟩ := recsl_open e3
  obtain rfl : c3 = au.val := by simpa using ea
  clear ea e3
  obtain ⟨ex, ea, kex, _⟩ := recsl_open e4
  obtain rfl : c4 = ex.val := by simpa using ea
  clear ea e4
  exact ⟨⟨rc, aa, an, au, ex⟩, rfl, ⟨bd_u16 wrc, kan, kau, kex⟩⟩
set_option maxRecDepth 100000 in
theorem step_open (m : Nat) (cs : List Value) (x : DataW H × List MemPlace) (h : DataW.trod enc Try.prog W base sp held m 51 cs = some x) : ∃ s : St, cs = s.cells ∧ s.ok W := by
  obtain ⟨m1, xs, rfl, hl, hx, rfl⟩ := trod_struct Try.underlying51 h
  rw [show Try.prog.cellsOf 51 = 10 from by kernel_rfl] at hl
  obtain ⟨c0, c1, c2, c3, c4, c5, c6, c7, c8, c9, rfl⟩ := lst10 cs hl
  obtain ⟨y0, r0, e0, hx0, rfl⟩ := mapM_cons_some hx
  obtain ⟨y1, r1, e1, hx1, rfl⟩ := mapM_cons_some hx0
  obtain ⟨y2, r2, e2, hx2, rfl⟩ := mapM_cons_some hx1
  obtain ⟨y3, r3, e3, hx3, rfl⟩ := mapM_cons_some hx2
  obtain rfl := mapM_nil_some hx3
  clear hx hx0 hx1 hx2 hx3
  simp only [show Try.prog.cellsOf 4 = 1 from by kernel_rfl, List.drop_zero, List.drop_succ_cons, List.take_succ_cons, List.take_zero] at e0
  simp only [show Try.prog.cellsOf 25 = 3 from by kernel_rfl, List.drop_zero, List.drop_succ_cons, List.take_succ_cons, List.take_zero] at e1
  simp only [show Try.prog.cellsOf 28 = 5 from by kernel_rfl, List.drop_zero, List.drop_succ_cons, List.take_succ_cons, List.take_zero] at e2
  simp only [show Try.prog.cellsOf 3 = 1 from by kernel_rfl, List.drop_zero, List.drop_succ_cons, List.take_succ_cons, List.take_zero] at e3
  obtain ⟨put, ea, rfl⟩ := trod_bool Try.underlying4 e0
  obtain rfl : c0 = .bool put := by simpa using ea
  clear ea e0
  obtain ⟨q, ea, kq, _⟩ := que_open _ _ _ e1
  obtain ⟨rfl, rfl, rfl⟩ : c1 = .string q.nm ∧ c2 = .int .u16 q.ty ∧ c3 = .int .u16 q.cl := by simpa [Qn.cells] using ea
  clear ea e1
  obtain ⟨a, ea, ka⟩ := ans_open _ _ _ e2
  obtain ⟨rfl, rfl, rfl, rfl, rfl⟩ : c4 = .int .u16 a.rc ∧ c5 = .bool a.aa ∧ c6 = .slice a.an.a a.an.n a.an.c ∧ c7 = .slice a.au.a a.au.n a.au.c ∧ c8 = .slice a.ex.a a.ex.n a.ex.c := by simpa [Am.cells] using ea
  clear ea e2
  obtain ⟨now, ea, wnow, rfl⟩ := trod_int Try.underlying3 e3
  obtain rfl : c9 = .int .i64 now := by simpa using ea
  clear ea e3
  exact ⟨⟨put, q, a, now⟩, rfl, ⟨kq, ka, bd_i64 wnow⟩⟩
theorem open_steps {a : Option Addr} {len cap : Nat} {d : DataW H} {ps : List MemPlace} (h : DataW.Trod enc Try.prog W base sp held 48 (.slice a len cap) d ps) : ∃ L : List St, Sts W a len cap L := by
  obtain ⟨fuel, hf⟩ := h
  rcases trod_slice Try.underlying48 hf with ⟨hcs, hx⟩ | ⟨m1, a', len', cap', elems, rest, rfl, hcs, hle, hm, hx⟩
  · simp [Value.cells] at hcs
    obtain ⟨rfl, rfl, rfl⟩ := hcs
    exact ⟨[], ⟨Rd.nil W 10, fun m hm => by cases hm⟩⟩
  · simp [Value.cells] at hcs
    obtain ⟨rfl, rfl, rfl⟩ := hcs
    obtain ⟨l, h1, h2, h3, h4⟩ := rd_items St.cells 10 (by omega) (fun _ => rfl) (fun s d => s.ok W) (show Try.prog.cellsOf 51 = 10 from by kernel_rfl) hle (fun cs x h => step_open m1 cs x h) hm
    exact ⟨l, ⟨h1, fun s hs => by obtain ⟨_, _, h5⟩ := h4 s hs; exact h5⟩⟩
theorem arr5' {α : Type} (cs : Array α) (h : cs.size = 5) : ∃ a b c d e, cs = #[a, b, c, d, e] := arr5 cs h
theorem arr3' {α : Type} (cs : Array α) (h : cs.size = 3) : ∃ a b c, cs = #[a, b, c] := by
  obtain ⟨q⟩ := cs
  match q, h with
  | [a, b, c], _ => exact ⟨a, b, c, rfl⟩
theorem open_ans {cs : Array Value} {d : DataW H} {ps : List MemPlace} (h : DataW.Trod enc Try.prog W base sp held 28 (.agg cs) d ps) : ∃ a : Am, Value.agg cs = a.val ∧ a.ok W := by
  obtain ⟨fuel, hf⟩ := h
  obtain ⟨a, h1, h2⟩ := ans_open _ _ _ hf
  refine ⟨a, ?_, h2⟩
  have h3 : cs.toList = a.cells := h1
  unfold Am.val
  rw [← Array.toArray_toList (xs := cs), h3]
  rfl
theorem open_que {cs : Array Value} {d : DataW H} {ps : List MemPlace} (h : DataW.Trod enc Try.prog W base sp held 25 (.agg cs) d ps) : ∃ q : Qn, Value.agg cs = q.val ∧ q.ok := by
  obtain ⟨fuel, hf⟩ := h
  obtain ⟨q, h1, h2, _⟩ := que_open _ _ _ hf
  refine ⟨q, ?_, h2⟩
  have h3 : cs.toList = q.cells := h1
  unfold Qn.val
  rw [← Array.toArray_toList (xs := cs), h3]
  rfl
end
end Go.Proofs.Ytioehogncgloiaa
