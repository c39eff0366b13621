/- Questions and rows of records: in memory, read among arguments. -/
import Derived.Test.YtioehogncgloiaaKA
namespace Go.Proofs.Ytioehogncgloiaa
open Go.RowKit Go.HL Go.WideShapes
set_option linter.unusedVariables false
set_option linter.unusedSimpArgs false
/-- A question. -/
structure Qn where
  nm : ByteArray
  ty : Int
  cl : Int
def Qn.cells (q : Qn) : List Value := [.string q.nm, .int .u16 q.ty, .int .u16 q.cl]
def Qn.val (q : Qn) : Value := .agg #[.string q.nm, .int .u16 q.ty, .int .u16 q.cl]
structure Qn.ok (q : Qn) : Prop where
  ty : 0 ≤ q.ty ∧ q.ty < 65536
  cl : 0 ≤ q.cl ∧ q.cl < 65536
  nm : q.nm.size ≤ maxLen
def qns (l : List Qn) : List Value := l.flatMap Qn.cells
/-- Records in memory. -/
structure Sl where
  a : Option Addr
  n : Nat
  c : Nat
  l : List Rc
def Sl.val (s : Sl) : Value := .slice s.a s.n s.c
structure Sl.ok (W : World) (s : Sl) : Prop where
  r : Rd W 12 s.a s.n s.c (rcs s.l)
  ok : ∀ r ∈ s.l, r.ok
theorem Sl.ok.below {W W' : World} {s : Sl} (h : s.ok W) (hb : Below W.heap.size W W') : s.ok W' := ⟨h.r.below hb, h.ok⟩
theorem Sl.ok.len {W : World} {s : Sl} (h : s.ok W) : s.l.length = s.n := Rd.recs h.r
/-- Questions in memory. -/
structure Ql where
  a : Option Addr
  n : Nat
  c : Nat
  l : List Qn
def Ql.val (s : Ql) : Value := .slice s.a s.n s.c
structure Ql.ok (W : World) (s : Ql) : Prop where
  r : Rd W 3 s.a s.n s.c (qns s.l)
  ok : ∀ r ∈ s.l, r.ok
theorem Ql.ok.below {W W' : World} {s : Ql} (h : s.ok W) (hb : Below W.heap.size W W') : s.ok W' := ⟨h.r.below hb, h.ok⟩
section
variable {H : Type} {enc : TypeId × Value → H} {W : World} {base : Nat} {sp : Nat → Bool} {held : Bool}
theorem lst3 {α : Type} (q : List α) (h : q.length = 3) : ∃ a b c, q = [a, b, c] := by
  match q, h with
  | [a, b, c], _ => exact ⟨a, b, c, rfl⟩
theorem que_open (m : Nat) (cs : List Value) (x : DataW H × List MemPlace) (h : DataW.trod enc Try.prog W base sp held m 25 cs = some x) :
    ∃ q : Qn, cs = q.cells ∧ q.ok ∧ q.nm.size + 1 ≤ Rows.uptoBulk x.1 := by
  obtain ⟨m1, xs, rfl, hl, hx, rfl⟩ := trod_struct Try.underlying25 h
  rw [show Try.prog.cellsOf 25 = 3 from by kernel_rfl] at hl
  obtain ⟨c0, c1, c2, rfl⟩ := lst3 cs hl
  obtain ⟨y0, r0, e0, hx0, rfl⟩ := mapM_cons_some hx
  obtain ⟨y1, r1, e1, hx1, rfl⟩ := mapM_cons_some hx0
  obtain ⟨y2, r2, e2, hx2, rfl⟩ := mapM_cons_some hx1
  obtain rfl := mapM_nil_some hx2
  clear hx hx0 hx1 hx2
  simp only [show Try.prog.cellsOf 22 = 1 from by kernel_rfl, List.drop_zero, List.drop_succ_cons, List.take_succ_cons, List.take_zero] at e0
  simp only [show Try.prog.cellsOf 23 = 1 from by kernel_rfl, List.drop_zero, List.drop_succ_cons, List.take_succ_cons, List.take_zero] at e1
  simp only [show Try.prog.cellsOf 23 = 1 from by kernel_rfl, List.drop_zero, List.drop_succ_cons, List.take_succ_cons, List.take_zero] at e2
  obtain ⟨nm, ea, wnm, rfl⟩ := trod_str Try.underlying22 e0
  obtain rfl : c0 = .string nm := by simpa using ea
  clear ea e0
  obtain ⟨ty, ea, wty, rfl⟩ := trod_int Try.underlying23 e1
  obtain rfl : c1 = .int .u16 ty := by simpa using ea
  clear ea e1
  obtain ⟨cl, ea, wcl, rfl⟩ := trod_int Try.underlying23 e2
  obtain rfl : c2 = .int .u16 cl := by simpa using ea
  clear ea e2
  refine ⟨⟨nm, ty, cl⟩, rfl, ⟨bd_u16 wty, bd_u16 wcl, wnm⟩, ?_⟩
  simp only [List.map_cons, List.map_nil, Rows.uptoBulkAll, Rows.uptoBulk, Array.length_toList]
  show nm.size + 1 ≤ _
  have e : ∀ b : ByteArray, b.data.size = b.size := fun _ => rfl
  simp only [e]
  omega
/-- A row of questions among the arguments. -/
theorem ques_open {m : Nat} {cs : List Value} {x : DataW H × List MemPlace} (h : DataW.trod enc Try.prog W base sp held m 64 cs = some x) :
    ∃ s : Ql, cs = [s.val] ∧ s.ok W ∧ s.n ≤ Rows.uptoBulk x.1 := by
  rcases trod_slice Try.underlying64 h with ⟨ea, _⟩ | ⟨m2, a, len, cap, elems, rest, _, ea, hle, hm, hy⟩
  · exact ⟨⟨none, 0, 0, []⟩, ea, ⟨Rd.nil _ _, fun r (hr : r ∈ ([] : List Qn)) => absurd hr (by simp)⟩, Nat.zero_le _⟩
  · obtain ⟨l, h1, h2, h3, h4⟩ := rd_items Qn.cells 3 (by omega) (fun _ => rfl) (fun r d => r.ok ∧ r.nm.size + 1 ≤ Rows.uptoBulk d) (show Try.prog.cellsOf 25 = 3 from by kernel_rfl) hle (que_open m2) hm
    rw [hy]
    simp only [Rows.uptoBulk]
    have hlen := bulk_len (elems.map (·.1))
    rw [List.length_map, h3] at hlen
    refine ⟨⟨some a, len, cap, l⟩, ea, ⟨h1, fun r hr => ?_⟩, by show len ≤ _; omega⟩
    obtain ⟨d, hd, k1, k2⟩ := h4 r hr
    exact k1
theorem recsl_open {m : Nat} {cs : List Value} {x : DataW H × List MemPlace} (h : DataW.trod enc Try.prog W base sp held m 26 cs = some x) :
    ∃ s : Sl, cs = [s.val] ∧ s.ok W ∧ s.n ≤ Rows.uptoBulk x.1 := by
  obtain ⟨A, n, c, l, h1, h2, h3, h4⟩ := recs_open h
  exact ⟨⟨A, n, c, l⟩, h1, ⟨h2, h4⟩, h3⟩
end
end Go.Proofs.Ytioehogncgloiaa
