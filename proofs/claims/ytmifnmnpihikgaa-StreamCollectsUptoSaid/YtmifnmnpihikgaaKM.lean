/- Messages: in memory, read among arguments. -/
import Derived.Test.YtmifnmnpihikgaaKA
namespace Go.Proofs.Ytmifnmnpihikgaa
open Go.RowKit Go.HL Go.WideShapes
set_option linter.unusedVariables false
set_option linter.unusedSimpArgs false
/-- A question. -/
structure Qn where
  nm : ByteArray
  ty : Int
  cl : Int
def Qn.cells (q : Qn) : List Value := [.string q.nm, .int .u16 q.ty, .int .u16 q.cl]
def Qn.val (q : Qn) : Value := .agg #[.string q.nm, .int .u16 q.ty, .int .u16 q.cl]
structure Qn.ok (q : Qn) : Prop where
  ty : 0 ≤ q.ty ∧ q.ty < 65536
  cl : 0 ≤ q.cl ∧ q.cl < 65536
  nm : q.nm.size ≤ maxLen
def qns (l : List Qn) : List Value := l.flatMap Qn.cells
/-- Records in memory. -/
structure Sl where
  a : Option Addr
  n : Nat
  c : Nat
  l : List Rc
def Sl.val (s : Sl) : Value := .slice s.a s.n s.c
structure Sl.ok (W : World) (s : Sl) : Prop where
  r : Rd W 12 s.a s.n s.c (rcs s.l)
  ok : ∀ r ∈ s.l, r.ok
theorem Sl.ok.below {W W' : World} {s : Sl} (h : s.ok W) (hb : Below W.heap.size W W') : s.ok W' := ⟨h.r.below hb, h.ok⟩
theorem Sl.ok.len {W : World} {s : Sl} (h : s.ok W) : s.l.length = s.n := Rd.recs h.r
/-- Questions in memory. -/
structure Ql where
  a : Option Addr
  n : Nat
  c : Nat
  l : List Qn
def Ql.val (s : Ql) : Value := .slice s.a s.n s.c
structure Ql.ok (W : World) (s : Ql) : Prop where
  r : Rd W 3 s.a s.n s.c (qns s.l)
  ok : ∀ r ∈ s.l, r.ok
theorem Ql.ok.below {W W' : World} {s : Ql} (h : s.ok W) (hb : Below W.heap.size W W') : s.ok W' := ⟨h.r.below hb, h.ok⟩
/-- A message. -/
structure Mg where
  id : Int
  reply : Bool
  op : Int
  aa : Bool
  tc : Bool
  rd : Bool
  ra : Bool
  z : Int
  rc : Int
  q : Ql
  an : Sl
  au : Sl
  ex : Sl
def Mg.cells (m : Mg) : List Value := [.int .u16 m.id, .bool m.reply, .int .u8 m.op, .bool m.aa, .bool m.tc, .bool m.rd, .bool m.ra, .int .u8 m.z, .int .u8 m.rc, .slice m.q.a m.q.n m.q.c, .slice m.an.a m.an.n m.an.c, .slice m.au.a m.au.n m.au.c, .slice m.ex.a m.ex.n m.ex.c]
def Mg.val (m : Mg) : Value := .agg #[.int .u16 m.id, .bool m.reply, .int .u8 m.op, .bool m.aa, .bool m.tc, .bool m.rd, .bool m.ra, .int .u8 m.z, .int .u8 m.rc, .slice m.q.a m.q.n m.q.c, .slice m.an.a m.an.n m.an.c, .slice m.au.a m.au.n m.au.c, .slice m.ex.a m.ex.n m.ex.c]
structure Mg.ok (W : World) (m : Mg) : Prop where
  id : 0 ≤ m.id ∧ m.id < 65536
  op : 0 ≤ m.op ∧ m.op < 256
  z : 0 ≤ m.z ∧ m.z < 256
  rc : 0 ≤ m.rc ∧ m.rc < 256
  q : m.q.ok W
  an : m.an.ok W
  au : m.au.ok W
  ex : m.ex.ok W
theorem Mg.ok.below {W W' : World} {m : Mg} (h : m.ok W) (hb : Below W.heap.size W W') : m.ok W' := ⟨h.id, h.op, h.z, h.rc, h.q.below hb, h.an.below hb, h.au.below hb, h.ex.below hb⟩
theorem sizeMsg : (Try.prog.info? 57).map (·.size) = some 13 := by kernel_rfl
section
variable {H : Type} {enc : TypeId × Value → H} {W : World} {base : Nat} {sp : Nat → Bool} {held : Bool}
theorem lst3 {α : Type} (q : List α) (h : q.length = 3) : ∃ a b c, q = [a, b, c] := by
  match q, h with
  | [a, b, c], _ => exact ⟨a, b, c, rfl⟩
theorem lst13 {α : Type} (q : List α) (h : q.length = 13) : ∃ a b c d e f g i j k l m n, q = [a, b, c, d, e, f, g, i, j, k, l, m, n] := by
  match q, h with
  | [a, b, c, d, e, f, g, i, j, k, l, m, n], _ => exact ⟨a, b, c, d, e, f, g, i, j, k, l, m, n, rfl⟩
theorem que_open (m : Nat) (cs : List Value) (x : DataW H × List MemPlace) (h : DataW.trod enc Try.prog W base sp held m 88 cs = some x) :
    ∃ q : Qn, cs = q.cells ∧ q.ok ∧ q.nm.size + 1 ≤ Rows.uptoBulk x.1 := by
  obtain ⟨m1, xs, rfl, hl, hx, rfl⟩ := trod_struct Try.underlying88 h
  rw [show Try.prog.cellsOf 88 = 3 from by kernel_rfl] at hl
  obtain ⟨c0, c1, c2, rfl⟩ := lst3 cs hl
  obtain ⟨y0, r0, e0, hx0, rfl⟩ := mapM_cons_some hx
  obtain ⟨y1, r1, e1, hx1, rfl⟩ := mapM_cons_some hx0
  obtain ⟨y2, r2, e2, hx2, rfl⟩ := mapM_cons_some hx1
  obtain rfl := mapM_nil_some hx2
  clear hx hx0 hx1 hx2
  simp only [show Try.prog.cellsOf 58 = 1 from by kernel_rfl, List.drop_zero, List.drop_succ_cons, List.take_succ_cons, List.take_zero] at e0
  simp only [show Try.prog.cellsOf 39 = 1 from by kernel_rfl, List.drop_zero, List.drop_succ_cons, List.take_succ_cons, List.take_zero] at e1
  simp only [show Try.prog.cellsOf 39 = 1 from by kernel_rfl, List.drop_zero, List.drop_succ_cons, List.take_succ_cons, List.take_zero] at e2
  obtain ⟨nm, ea, wnm, rfl⟩ := trod_str Try.underlying58 e0
  obtain rfl : c0 = .string nm := by simpa using ea
  clear ea e0
  obtain ⟨ty, ea, wty, rfl⟩ := trod_int Try.underlying39 e1
  obtain rfl : c1 = .int .u16 ty := by simpa using ea
  clear ea e1
  obtain ⟨cl, ea, wcl, rfl⟩ := trod_int Try.underlying39 e2
  obtain rfl : c2 = .int .u16 cl := by simpa using ea
  clear ea e2
  refine ⟨⟨nm, ty, cl⟩, rfl, ⟨bd_u16 wty, bd_u16 wcl, wnm⟩, ?_⟩
  simp only [List.map_cons, List.map_nil, Rows.uptoBulkAll, Rows.uptoBulk, Array.length_toList]
  show nm.size + 1 ≤ _
  have e : ∀ b : ByteArray, b.data.size = b.size := fun _ => rfl
  simp only [e]
  omega
/-- A row of questions among the arguments. -/
theorem ques_open {m : Nat} {cs : List Value} {x : DataW H × List MemPlace} (h : DataW.trod enc Try.prog W base sp held m 55 cs = some x) :
    ∃ s : Ql, cs = [s.val] ∧ s.ok W ∧ s.n ≤ Rows.uptoBulk x.1 := by
  rcases trod_slice Try.underlying55 h with ⟨ea, _⟩ | ⟨m2, a, len, cap, elems, rest, _, ea, hle, hm, hy⟩
  · exact ⟨⟨none, 0, 0, []⟩, ea, ⟨Rd.nil _ _, fun r (hr : r ∈ ([] : List Qn)) => absurd hr (by simp)⟩, Nat.zero_le _⟩
  · obtain ⟨l, h1, h2, h3, h4⟩ := rd_items Qn.cells 3 (by omega) (fun _ => rfl) (fun r d => r.ok ∧ r.nm.size + 1 ≤ Rows.uptoBulk d) (show Try.prog.cellsOf 88 = 3 from by kernel_rfl) hle (que_open m2) hm
    rw [hy]
    simp only [Rows.uptoBulk]
    have hlen := bulk_len (elems.map (·.1))
    rw [List.length_map, h3] at hlen
    refine ⟨⟨some a, len, cap, l⟩, ea, ⟨h1, fun r hr => ?_⟩, by show len ≤ _; omega⟩
    obtain ⟨d, hd, k1, k2⟩ := h4 r hr
    exact k1
theorem recsl_open {m : Nat} {cs : List Value} {x : DataW H × List MemPlace} (h : DataW.trod enc Try.prog W base sp held m 42 cs = some x) :
    ∃ s : Sl, cs = [s.val] ∧ s.ok W ∧ s.n ≤ Rows.uptoBulk x.1 := by
  obtain ⟨A, n, c, l, h1, h2, h3, h4⟩ := recs_open h
  exact ⟨⟨A, n, c, l⟩, h1, ⟨h2, h4⟩, h3⟩
set_option maxRecDepth 100000 in
theorem msg_open (m : Nat) (cs : List Value) (x : DataW H × List MemPlace) (h : DataW.trod enc Try.prog W base sp held m 57 cs = some x) :
    ∃ g : Mg, cs = g.cells ∧ g.ok W ∧ g.q.n + g.an.n + g.au.n + g.ex.n + 1 ≤ Rows.uptoBulk x.1 := by
  obtain ⟨m1, xs, rfl, hl, hx, rfl⟩ := trod_struct Try.underlying57 h
  rw [show Try.prog.cellsOf 57 = 13 from by kernel_rfl] at hl
  obtain ⟨c0, c1, c2, c3, c4, c5, c6, c7, c8, c9, c10, c11, c12, rfl⟩ := lst13 cs hl
  obtain ⟨y0, r0, e0, hx0, rfl⟩ := mapM_cons_some hx
  obtain ⟨y1, r1, e1, hx1, rfl⟩ := mapM_cons_some hx0
  obtain ⟨y2, r2, e2, hx2, rfl⟩ := mapM_cons_some hx1
  obtain ⟨y3, r3, e3, hx3, rfl⟩ := mapM_cons_some hx2
  obtain ⟨y4, r4, e4, hx4, rfl⟩ := mapM_cons_some hx3
  obtain ⟨y5, r5, e5, hx5, rfl⟩ := mapM_cons_some hx4
  obtain ⟨y6, r6, e6, hx6, rfl⟩ := mapM_cons_some hx5
  obtain ⟨y7, r7, e7, hx7, rfl⟩ := mapM_cons_some hx6
  obtain ⟨y8, r8, e8, hx8, rfl⟩ := mapM_cons_some hx7
  obtain ⟨y9, r9, e9, hx9, rfl⟩ := mapM_cons_some hx8
  obtain ⟨y10, r10, e10, hx10, rfl⟩ := mapM_cons_some hx9
  obtain ⟨y11, r11, e11, hx11, rfl⟩ := mapM_cons_some hx10
  obtain ⟨y12, r12, e12, hx12, rfl⟩ := mapM_cons_some hx11
  obtain rfl := mapM_nil_some hx12
  clear hx hx0 hx1 hx2 hx3 hx4 hx5 hx6 hx7 hx8 hx9 hx10 hx11 hx12
  simp only [show Try.prog.cellsOf 39 = 1 from by kernel_rfl, List.drop_zero, List.drop_succ_cons, List.take_succ_cons, List.take_zero] at e0
  simp only [show Try.prog.cellsOf 4 = 1 from by kernel_rfl, List.drop_zero, List.drop_succ_cons, List.take_succ_cons, List.take_zero] at e1
  simp only [show Try.prog.cellsOf 5 = 1 from by kernel_rfl, List.drop_zero, List.drop_succ_cons, List.take_succ_cons, List.take_zero] at e2
  simp only [show Try.prog.cellsOf 4 = 1 from by kernel_rfl, List.drop_zero, List.drop_succ_cons, List.take_succ_cons, List.take_zero] at e3
  simp only [show Try.prog.cellsOf 4 = 1 from by kernel_rfl, List.drop_zero, List.drop_succ_cons, List.take_succ_cons, List.take_zero] at e4
  simp only [show Try.prog.cellsOf 4 = 1 from by kernel_rfl, List.drop_zero, List.drop_succ_cons, List.take_succ_cons, List.take_zero] at e5
  simp only [show Try.prog.cellsOf 4 = 1 from by kernel_rfl, List.drop_zero, List.drop_succ_cons, List.take_succ_cons, List.take_zero] at e6
  simp only [show Try.prog.cellsOf 5 = 1 from by kernel_rfl, List.drop_zero, List.drop_succ_cons, List.take_succ_cons, List.take_zero] at e7
  simp only [show Try.prog.cellsOf 5 = 1 from by kernel_rfl, List.drop_zero, List.drop_succ_cons, List.take_succ_cons, List.take_zero] at e8
  simp only [show Try.prog.cellsOf 55 = 1 from by kernel_rfl, List.drop_zero, List.drop_succ_cons, List.take_succ_cons, List.take_zero] at e9
  simp only [show Try.prog.cellsOf 42 = 1 from by kernel_rfl, List.drop_zero, List.drop_succ_cons, List.take_succ_cons, List.take_zero] at e10
  simp only [show Try.prog.cellsOf 42 = 1 from by kernel_rfl, List.drop_zero, List.drop_succ_cons, List.take_succ_cons, List.take_zero] at e11
  simp only [show Try.prog.cellsOf 42 = 1 from by kernel_rfl, List.drop_zero, List.drop_succ_cons, List.take_succ_cons, List.take_zero] at e12
  obtain ⟨id, ea, wid, rfl⟩ := trod_int Try.underlying39 e0
  obtain rfl : c0 = .int .u16 id := by simpa using ea
  clear ea e0
  obtain ⟨reply, ea, rfl⟩ := trod_bool Try.underlying4 e1
  obtain rfl : c1 = .bool reply := by simpa using ea
  clear ea e1
  obtain ⟨op, ea, wop, rfl⟩ := trod_int Try.underlying5 e2
  obtain rfl : c2 = .int .u8 op := by simpa using ea
  clear ea e2
  obtain ⟨aa, ea, rfl⟩ := trod_bool Try.underlying4 e3
  obtain rfl : c3 = .bool aa := by simpa using ea
  clear ea e3
  obtain ⟨tc, ea, rfl⟩ := trod_bool Try.underlying4 e4
  obtain rfl : c4 = .bool tc := by simpa using ea
  clear ea e4
  obtain ⟨rd, ea, rfl⟩ := trod_bool Try.underlying4 e5
  obtain rfl : c5 = .bool rd := by simpa using ea
  clear ea e5
  obtain ⟨ra, ea, rfl⟩ := trod_bool Try.underlying4 e6
  obtain rfl : c6 = .bool ra := by simpa using ea
  clear ea e6
  obtain ⟨z, ea, wz, rfl⟩ := trod_int Try.underlying5 e7
  obtain rfl : c7 = .int .u8 z := by simpa using ea
  clear ea e7
  obtain ⟨rc, ea, wrc, rfl⟩ := trod_int Try.underlying5 e8
  obtain rfl : c8 = .int .u8 rc := by simpa using ea
  clear ea e8
  obtain ⟨q, ea, kq, bq⟩ := ques_open e9
  obtain rfl : c9 = q.val := by simpa using ea
  clear ea e9
  obtain ⟨an, ea, kan, ban⟩ := recsl_open e10
  obtain rfl : c10 = an.val := by simpa using ea
  clear ea e10
  obtain ⟨au, ea, kau, bau⟩ := recsl_open e11
  obtain rfl : c11 = au.val := by simpa using ea
  clear ea e11
  obtain ⟨ex, ea, kex, bex⟩ := recsl_open e12
  obtain rfl : c12 = ex.val := by simpa using ea
  clear ea e12
  refine ⟨⟨id, reply, op, aa, tc, rd, ra, z, rc, q, an, au, ex⟩, rfl, ⟨bd_u16 wid, bd_u8 wop, bd_u8 wz, bd_u8 wrc, kq, kan, kau, kex⟩, ?_⟩
  simp only [List.map_cons, List.map_nil, Rows.uptoBulkAll, Rows.uptoBulk]
  show q.n + an.n + au.n + ex.n + 1 ≤ _
  omega
/-- Messages in memory. -/
structure Mgs (W : World) (A : Option Addr) (n c : Nat) (L : List Mg) : Prop where
  r : Rd W 13 A n c (L.flatMap Mg.cells)
  ok : ∀ m ∈ L, m.ok W
theorem Mgs.below {W W' : World} {A : Option Addr} {n c : Nat} {L : List Mg} (h : Mgs W A n c L) (hb : Below W.heap.size W W') : Mgs W' A n c L := ⟨h.r.below hb, fun m hm => (h.ok m hm).below hb⟩
theorem Mgs.len {W : World} {A : Option Addr} {n c : Nat} {L : List Mg} (h : Mgs W A n c L) : L.length = n := by
  have h1 := h.r.len
  have : ∀ L : List Mg, (L.flatMap Mg.cells).length = L.length * 13 := fun L => by
    induction L with
    | nil => rfl
    | cons x l ih => rw [List.flatMap_cons, List.length_append, ih, List.length_cons]; simp [Mg.cells]; omega
  rw [this] at h1
  omega
theorem Mgs.at {W : World} {ad : Addr} {n c : Nat} {L : List Mg} (h : Mgs W (some ad) n c L) (i : Nat) (m : Mg) (hm : L[i]? = some m) : Cells W (ad.add (i * 13)) m.cells := fun j u hu => by
  have := h.r.cells ad rfl (i * 13 + j) u (by
    have hj : j < 13 := (List.getElem?_eq_some_iff.1 hu).1
    rw [flat_get Mg.cells 13 (by omega) (fun _ => rfl), show (i * 13 + j) / 13 = i by omega, show (i * 13 + j) % 13 = j by omega, hm]
    exact hu)
  rwa [Addr.add_add]
theorem open_msgsU {a : Option Addr} {len cap : Nat} {d : DataW H} {ps : List MemPlace} (h : DataW.Trod enc Try.prog W base sp held 41 (.slice a len cap) d ps) (hk : Rows.uptoBulk d ≤ 1048576) :
    ∃ L : List Mg, Mgs W a len cap L ∧ ∀ m ∈ L, m.q.n + m.an.n + m.au.n + m.ex.n ≤ 1048576 := by
  obtain ⟨fuel, hf⟩ := h
  rcases trod_slice Try.underlying41 hf with ⟨hcs, hx⟩ | ⟨m1, a', len', cap', elems, rest, rfl, hcs, hle, hm, hx⟩
  · simp [Value.cells] at hcs
    obtain ⟨rfl, rfl, rfl⟩ := hcs
    exact ⟨[], ⟨Rd.nil W 13, fun m hm => by cases hm⟩, fun m hm => by cases hm⟩
  · simp [Value.cells] at hcs
    obtain ⟨rfl, rfl, rfl⟩ := hcs
    obtain ⟨l, h1, h2, h3, h4⟩ := rd_items Mg.cells 13 (by omega) (fun _ => rfl) (fun g d => g.ok W ∧ g.q.n + g.an.n + g.au.n + g.ex.n + 1 ≤ Rows.uptoBulk d) (show Try.prog.cellsOf 57 = 13 from by kernel_rfl) hle (msg_open m1) hm
    refine ⟨l, ⟨h1, fun m hm => ?_⟩, fun m hm => ?_⟩
    · obtain ⟨_, _, h5, _⟩ := h4 m hm
      exact h5
    · obtain ⟨dd, hd, _, h6⟩ := h4 m hm
      have h7 := bulk_part hd
      dsimp only at hx
      rw [hx] at hk
      simp only [Rows.uptoBulk] at hk
      omega
end
end Go.Proofs.Ytmifnmnpihikgaa
