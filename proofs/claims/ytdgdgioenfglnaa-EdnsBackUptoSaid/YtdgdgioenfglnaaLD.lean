/- A message among the arguments: what its reading tells. -/
import Derived.Test.YtdgdgioenfglnaaLC
import Derived.Test.YtdgdgioenfglnaaHT
import Derived.Test.YtdgdgioenfglnaaRows
namespace Go.Proofs.Ytdgdgioenfglnaa
open Go.RowKit Go.HL Go.WideShapes
set_option linter.unusedVariables false
set_option linter.unusedSimpArgs false

theorem bulk_one {H : Type} (d : DataW H) : 1 ≤ Rows.uptoBulk d := by
  cases d with
  | lit l => cases l <;> simp [Rows.uptoBulk]
  | _ => simp [Rows.uptoBulk]
theorem bulk_part {H : Type} {d : DataW H} : ∀ {l : List (DataW H)}, d ∈ l → Rows.uptoBulk d ≤ Rows.uptoBulkAll l
  | x :: r, h => by
    simp only [Rows.uptoBulkAll]
    rcases List.mem_cons.1 h with e | e
    · subst e; omega
    · have := bulk_part e; omega
theorem bulk_len {H : Type} : ∀ (l : List (DataW H)), l.length ≤ Rows.uptoBulkAll l
  | [] => by simp [Rows.uptoBulkAll]
  | x :: r => by have := bulk_one x; have := bulk_len r; simp only [Rows.uptoBulkAll, List.length_cons]; omega
section
variable {H : Type} {enc : TypeId × Value → H} {W : World} {base : Nat} {sp : Nat → Bool} {held : Bool}
set_option maxRecDepth 100000 in
theorem rec_open (m : Nat) (cs : List Value) (x : DataW H × List MemPlace) (h : DataW.trod enc Try.prog W base sp held m 31 cs = some x) :
    ∃ r : Rc, cs = r.cells ∧ ((0 ≤ r.ty ∧ r.ty < 65536) ∧ (0 ≤ r.cl ∧ r.cl < 65536) ∧ (0 ≤ r.ttl ∧ r.ttl < 4294967296) ∧ r.raw.size + 1 ≤ Rows.uptoBulk x.1) := by
  obtain ⟨m1, xs, rfl, hl, hx, rfl⟩ := trod_struct Try.underlying31 h
  rw [show Try.prog.cellsOf 31 = 12 from by kernel_rfl] at hl
  obtain ⟨c0, c1, c2, c3, c4, c5, c6, c7, c8, c9, c10, c11, rfl⟩ := lst12 cs hl
  obtain ⟨y0, r0, e0, hx0, rfl⟩ := mapM_cons_some hx
  obtain ⟨y1, r1, e1, hx1, rfl⟩ := mapM_cons_some hx0
  obtain ⟨y2, r2, e2, hx2, rfl⟩ := mapM_cons_some hx1
  obtain ⟨y3, r3, e3, hx3, rfl⟩ := mapM_cons_some hx2
  obtain ⟨y4, r4, e4, hx4, rfl⟩ := mapM_cons_some hx3
  obtain rfl := mapM_nil_some hx4
  clear hx hx0 hx1 hx2 hx3 hx4
  simp only [show Try.prog.cellsOf 25 = 1 from by kernel_rfl, List.drop_zero, List.drop_succ_cons, List.take_succ_cons, List.take_zero] at e0
  simp only [show Try.prog.cellsOf 22 = 1 from by kernel_rfl, List.drop_zero, List.drop_succ_cons, List.take_succ_cons, List.take_zero] at e1
  simp only [show Try.prog.cellsOf 22 = 1 from by kernel_rfl, List.drop_zero, List.drop_succ_cons, List.take_succ_cons, List.take_zero] at e2
  simp only [show Try.prog.cellsOf 26 = 1 from by kernel_rfl, List.drop_zero, List.drop_succ_cons, List.take_succ_cons, List.take_zero] at e3
  simp only [show Try.prog.cellsOf 29 = 8 from by kernel_rfl, List.drop_zero, List.drop_succ_cons, List.take_succ_cons, List.take_zero] at e4
  obtain ⟨nm, ea, wnm, rfl⟩ := trod_str Try.underlying25 e0
  obtain rfl : c0 = .string nm := by simpa using ea
  clear ea e0
  obtain ⟨ty, ea, wty, rfl⟩ := trod_int Try.underlying22 e1
  obtain rfl : c1 = .int .u16 ty := by simpa using ea
  clear ea e1
  obtain ⟨cl, ea, wcl, rfl⟩ := trod_int Try.underlying22 e2
  obtain rfl : c2 = .int .u16 cl := by simpa using ea
  clear ea e2
  obtain ⟨ttl, ea, wttl, rfl⟩ := trod_int Try.underlying26 e3
  obtain rfl : c3 = .int .u32 ttl := by simpa using ea
  clear ea e3
  obtain ⟨m2, ys, rfl, hl2, hy, rfl⟩ := trod_struct Try.underlying29 e4
  clear e4
  obtain ⟨z0, q0, f0, hy0, rfl⟩ := mapM_cons_some hy
  obtain ⟨z1, q1, f1, hy1, rfl⟩ := mapM_cons_some hy0
  obtain ⟨z2, q2, f2, hy2, rfl⟩ := mapM_cons_some hy1
  obtain ⟨z3, q3, f3, hy3, rfl⟩ := mapM_cons_some hy2
  obtain rfl := mapM_nil_some hy3
  clear hy hy0 hy1 hy2 hy3
  simp only [show Try.prog.cellsOf 9 = 1 from by kernel_rfl, List.drop_zero, List.drop_succ_cons, List.take_succ_cons, List.take_zero] at f0
  simp only [show Try.prog.cellsOf 25 = 1 from by kernel_rfl, List.drop_zero, List.drop_succ_cons, List.take_succ_cons, List.take_zero] at f1
  simp only [show Try.prog.cellsOf 25 = 1 from by kernel_rfl, List.drop_zero, List.drop_succ_cons, List.take_succ_cons, List.take_zero] at f2
  simp only [show Try.prog.cellsOf 27 = 5 from by kernel_rfl, List.drop_zero, List.drop_succ_cons, List.take_succ_cons, List.take_zero] at f3
  obtain ⟨raw, ea, wraw, rfl⟩ := trod_str Try.underlying9 f0
  obtain rfl : c4 = .string raw := by simpa using ea
  clear ea f0
  obtain ⟨host, ea, whost, rfl⟩ := trod_str Try.underlying25 f1
  obtain rfl : c5 = .string host := by simpa using ea
  clear ea f1
  obtain ⟨mail, ea, wmail, rfl⟩ := trod_str Try.underlying25 f2
  obtain rfl : c6 = .string mail := by simpa using ea
  clear ea f2
  obtain ⟨m3, vs, rfl, hl3, hv, rfl⟩ := trod_array Try.underlying27 f3
  clear f3
  rw [show List.range 5 = [0, 1, 2, 3, 4] from rfl] at hv
  obtain ⟨u0, p0, g0, hv0, rfl⟩ := mapM_cons_some hv
  obtain ⟨u1, p1, g1, hv1, rfl⟩ := mapM_cons_some hv0
  obtain ⟨u2, p2, g2, hv2, rfl⟩ := mapM_cons_some hv1
  obtain ⟨u3, p3, g3, hv3, rfl⟩ := mapM_cons_some hv2
  obtain ⟨u4, p4, g4, hv4, rfl⟩ := mapM_cons_some hv3
  obtain rfl := mapM_nil_some hv4
  clear hv hv0 hv1 hv2 hv3 hv4
  simp only [show Try.prog.cellsOf 26 = 1 from by kernel_rfl, Nat.mul_one, Nat.zero_mul, Nat.one_mul, List.drop_zero, List.drop_succ_cons, List.take_succ_cons, List.take_zero] at g0
  simp only [show Try.prog.cellsOf 26 = 1 from by kernel_rfl, Nat.mul_one, Nat.zero_mul, Nat.one_mul, List.drop_zero, List.drop_succ_cons, List.take_succ_cons, List.take_zero] at g1
  simp only [show Try.prog.cellsOf 26 = 1 from by kernel_rfl, Nat.mul_one, Nat.zero_mul, Nat.one_mul, List.drop_zero, List.drop_succ_cons, List.take_succ_cons, List.take_zero] at g2
  simp only [show Try.prog.cellsOf 26 = 1 from by kernel_rfl, Nat.mul_one, Nat.zero_mul, Nat.one_mul, List.drop_zero, List.drop_succ_cons, List.take_succ_cons, List.take_zero] at g3
  simp only [show Try.prog.cellsOf 26 = 1 from by kernel_rfl, Nat.mul_one, Nat.zero_mul, Nat.one_mul, List.drop_zero, List.drop_succ_cons, List.take_succ_cons, List.take_zero] at g4
  obtain ⟨n0, ea, wn0, rfl⟩ := trod_int Try.underlying26 g0
  obtain rfl : c7 = .int .u32 n0 := by simpa using ea
  clear ea g0
  obtain ⟨n1, ea, wn1, rfl⟩ := trod_int Try.underlying26 g1
  obtain rfl : c8 = .int .u32 n1 := by simpa using ea
  clear ea g1
  obtain ⟨n2, ea, wn2, rfl⟩ := trod_int Try.underlying26 g2
  obtain rfl : c9 = .int .u32 n2 := by simpa using ea
  clear ea g2
  obtain ⟨n3, ea, wn3, rfl⟩ := trod_int Try.underlying26 g3
  obtain rfl : c10 = .int .u32 n3 := by simpa using ea
  clear ea g3
  obtain ⟨n4, ea, wn4, rfl⟩ := trod_int Try.underlying26 g4
  obtain rfl : c11 = .int .u32 n4 := by simpa using ea
  clear ea g4
  refine ⟨⟨nm, ty, cl, ttl, raw, host, mail, n0, n1, n2, n3, n4⟩, rfl, bd_u16 wty, bd_u16 wcl, bd_u32 wttl, ?_⟩
  simp only [List.map_cons, List.map_nil, Rows.uptoBulkAll, Rows.uptoBulk, Array.length_toList]
  show raw.size + 1 ≤ _
  have e : raw.data.size = raw.size := rfl
  rw [e]
  omega
set_option maxRecDepth 100000 in
theorem open_msg {cs : Array Value} {d : DataW H} {ps : List MemPlace} (hs : cs.size = Try.prog.cellsOf 46) (h : DataW.Trod enc Try.prog W base sp held 46 (.agg cs) d ps) (hk : Rows.uptoBulk d ≤ 1048576) :
    ∃ (m : Mg) (A : Option Addr) (n c : Nat) (l : List Rc), Value.agg cs = m.val A n c ∧ Rd W 12 A n c (rcs l) ∧ n ≤ 1048576 ∧ (∀ r ∈ l, r.ok) ∧ 0 ≤ m.rc ∧ m.rc < 256 := by
  rw [show Try.prog.cellsOf 46 = 13 from by kernel_rfl] at hs
  obtain ⟨c0, c1, c2, c3, c4, c5, c6, c7, c8, c9, c10, c11, c12, rfl⟩ := arr13 cs hs
  obtain ⟨fuel, hf⟩ := h
  obtain ⟨m1, xs, rfl, hl, hx, hd⟩ := trod_struct Try.underlying46 hf
  obtain ⟨rfl, _⟩ := Prod.mk.inj hd
  clear hd hf hl
  obtain ⟨y0, r0, e0, hx0, rfl⟩ := mapM_cons_some hx
  obtain ⟨y1, r1, e1, hx1, rfl⟩ := mapM_cons_some hx0
  obtain ⟨y2, r2, e2, hx2, rfl⟩ := mapM_cons_some hx1
  obtain ⟨y3, r3, e3, hx3, rfl⟩ := mapM_cons_some hx2
  obtain ⟨y4, r4, e4, hx4, rfl⟩ := mapM_cons_some hx3
  obtain ⟨y5, r5, e5, hx5, rfl⟩ := mapM_cons_some hx4
  obtain ⟨y6, r6, e6, hx6, rfl⟩ := mapM_cons_some hx5
  obtain ⟨y7, r7, e7, hx7, rfl⟩ := mapM_cons_some hx6
  obtain ⟨y8, r8, e8, hx8, rfl⟩ := mapM_cons_some hx7
  obtain ⟨y9, r9, e9, hx9, rfl⟩ := mapM_cons_some hx8
  obtain ⟨y10, r10, e10, hx10, rfl⟩ := mapM_cons_some hx9
  obtain ⟨y11, r11, e11, hx11, rfl⟩ := mapM_cons_some hx10
  obtain ⟨y12, r12, e12, hx12, rfl⟩ := mapM_cons_some hx11
  obtain rfl := mapM_nil_some hx12
  clear hx hx0 hx1 hx2 hx3 hx4 hx5 hx6 hx7 hx8 hx9 hx10 hx11 hx12
  simp only [show Try.prog.cellsOf 22 = 1 from by kernel_rfl, Value.cells, List.drop_zero, List.drop_succ_cons, List.take_succ_cons, List.take_zero] at e0
  simp only [show Try.prog.cellsOf 4 = 1 from by kernel_rfl, Value.cells, List.drop_zero, List.drop_succ_cons, List.take_succ_cons, List.take_zero] at e1
  simp only [show Try.prog.cellsOf 5 = 1 from by kernel_rfl, Value.cells, List.drop_zero, List.drop_succ_cons, List.take_succ_cons, List.take_zero] at e2
  simp only [show Try.prog.cellsOf 4 = 1 from by kernel_rfl, Value.cells, List.drop_zero, List.drop_succ_cons, List.take_succ_cons, List.take_zero] at e3
  simp only [show Try.prog.cellsOf 4 = 1 from by kernel_rfl, Value.cells, List.drop_zero, List.drop_succ_cons, List.take_succ_cons, List.take_zero] at e4
  simp only [show Try.prog.cellsOf 4 = 1 from by kernel_rfl, Value.cells, List.drop_zero, List.drop_succ_cons, List.take_succ_cons, List.take_zero] at e5
  simp only [show Try.prog.cellsOf 4 = 1 from by kernel_rfl, Value.cells, List.drop_zero, List.drop_succ_cons, List.take_succ_cons, List.take_zero] at e6
  simp only [show Try.prog.cellsOf 5 = 1 from by kernel_rfl, Value.cells, List.drop_zero, List.drop_succ_cons, List.take_succ_cons, List.take_zero] at e7
  simp only [show Try.prog.cellsOf 5 = 1 from by kernel_rfl, Value.cells, List.drop_zero, List.drop_succ_cons, List.take_succ_cons, List.take_zero] at e8
  simp only [show Try.prog.cellsOf 43 = 1 from by kernel_rfl, Value.cells, List.drop_zero, List.drop_succ_cons, List.take_succ_cons, List.take_zero] at e9
  simp only [show Try.prog.cellsOf 44 = 1 from by kernel_rfl, Value.cells, List.drop_zero, List.drop_succ_cons, List.take_succ_cons, List.take_zero] at e10
  simp only [show Try.prog.cellsOf 44 = 1 from by kernel_rfl, Value.cells, List.drop_zero, List.drop_succ_cons, List.take_succ_cons, List.take_zero] at e11
  simp only [show Try.prog.cellsOf 44 = 1 from by kernel_rfl, Value.cells, List.drop_zero, List.drop_succ_cons, List.take_succ_cons, List.take_zero] at e12
  obtain ⟨id, ea, wid, rfl⟩ := trod_int Try.underlying22 e0
  obtain rfl : c0 = .int .u16 id := by simpa using ea
  clear ea e0
  obtain ⟨reply, ea, rfl⟩ := trod_bool Try.underlying4 e1
  obtain rfl : c1 = .bool reply := by simpa using ea
  clear ea e1
  obtain ⟨op, ea, wop, rfl⟩ := trod_int Try.underlying5 e2
  obtain rfl : c2 = .int .u8 op := by simpa using ea
  clear ea e2
  obtain ⟨aa, ea, rfl⟩ := trod_bool Try.underlying4 e3
  obtain rfl : c3 = .bool aa := by simpa using ea
  clear ea e3
  obtain ⟨tc, ea, rfl⟩ := trod_bool Try.underlying4 e4
  obtain rfl : c4 = .bool tc := by simpa using ea
  clear ea e4
  obtain ⟨rd, ea, rfl⟩ := trod_bool Try.underlying4 e5
  obtain rfl : c5 = .bool rd := by simpa using ea
  clear ea e5
  obtain ⟨ra, ea, rfl⟩ := trod_bool Try.underlying4 e6
  obtain rfl : c6 = .bool ra := by simpa using ea
  clear ea e6
  obtain ⟨z, ea, wz, rfl⟩ := trod_int Try.underlying5 e7
  obtain rfl : c7 = .int .u8 z := by simpa using ea
  clear ea e7
  obtain ⟨rc, ea, wrc, rfl⟩ := trod_int Try.underlying5 e8
  obtain rfl : c8 = .int .u8 rc := by simpa using ea
  clear ea e8
  have s9 : ∃ A n c, c9 = .slice A n c := by
    rcases trod_slice Try.underlying43 e9 with ⟨ea, _⟩ | ⟨_, a, len, cap, _, _, _, ea, _⟩
    · exact ⟨none, 0, 0, by simpa using ea⟩
    · exact ⟨some a, len, cap, by simpa using ea⟩
  obtain ⟨qA, qn, qc, rfl⟩ := s9
  have s10 : ∃ A n c, c10 = .slice A n c := by
    rcases trod_slice Try.underlying44 e10 with ⟨ea, _⟩ | ⟨_, a, len, cap, _, _, _, ea, _⟩
    · exact ⟨none, 0, 0, by simpa using ea⟩
    · exact ⟨some a, len, cap, by simpa using ea⟩
  obtain ⟨aA, an, ac, rfl⟩ := s10
  have s11 : ∃ A n c, c11 = .slice A n c := by
    rcases trod_slice Try.underlying44 e11 with ⟨ea, _⟩ | ⟨_, a, len, cap, _, _, _, ea, _⟩
    · exact ⟨none, 0, 0, by simpa using ea⟩
    · exact ⟨some a, len, cap, by simpa using ea⟩
  obtain ⟨uA, un, uc, rfl⟩ := s11
  have hkk : Rows.uptoBulk y12.1 ≤ 1048576 := by
    have h2 := hk
    simp only [Rows.uptoBulk, List.map_cons, List.map_nil, Rows.uptoBulkAll] at h2
    omega
  rcases trod_slice Try.underlying44 e12 with ⟨ea, _⟩ | ⟨m2, a, len, cap, elems, rest, _, ea, hle, hm, hy⟩
  · obtain rfl : c12 = .slice none 0 0 := by simpa using ea
    exact ⟨⟨id, reply, op, aa, tc, rd, ra, z, rc, qA, qn, qc, aA, an, ac, uA, un, uc⟩, none, 0, 0, [], rfl, Rd.nil _ _, by omega, (fun r (hr : r ∈ ([] : List Rc)) => absurd hr (by simp)), (bd_u8 wrc).1, (bd_u8 wrc).2⟩
  · obtain rfl : c12 = .slice (some a) len cap := by simpa using ea
    obtain ⟨l, h1, h2, h3, h4⟩ := rd_items Rc.cells 12 (by omega) (fun _ => rfl) (fun r d => (0 ≤ r.ty ∧ r.ty < 65536) ∧ (0 ≤ r.cl ∧ r.cl < 65536) ∧ (0 ≤ r.ttl ∧ r.ttl < 4294967296) ∧ r.raw.size + 1 ≤ Rows.uptoBulk d) (show Try.prog.cellsOf 31 = 12 from by kernel_rfl) hle (rec_open m2) hm
    rw [hy] at hkk
    simp only [Rows.uptoBulk] at hkk
    have hlen := bulk_len (elems.map (·.1))
    rw [List.length_map, h3] at hlen
    refine ⟨⟨id, reply, op, aa, tc, rd, ra, z, rc, qA, qn, qc, aA, an, ac, uA, un, uc⟩, some a, len, cap, l, rfl, h1, by omega, fun r hr => ?_, (bd_u8 wrc).1, (bd_u8 wrc).2⟩
    obtain ⟨d, hd, k1, k2, k3, k4⟩ := h4 r hr
    have := bulk_part hd
    exact ⟨k1.1, k1.2, k2.1, k2.2, k3.1, k3.2, by omega⟩
end
theorem ednsFinds_walk (w : World) (m : Mg) (A : Option Addr) (n c : Nat) (l : List Rc) (hr : Rd w 12 A n c (rcs l)) (hn : n ≤ 1048576) (hok : ∀ r ∈ l, r.ok) (r0 : 0 ≤ m.rc) (r1 : m.rc < 256) :
    Calls Try.prog 5 #[m.val A n c] w (Tells w (.bool true)) := ednsFinds_core w m A n c l hr hn hok r0 r1
end Go.Proofs.Ytdgdgioenfglnaa
