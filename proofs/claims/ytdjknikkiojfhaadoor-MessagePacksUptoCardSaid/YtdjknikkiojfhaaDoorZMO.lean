import Derived.Test.YtdjknikkiojfhaaDoorZMJ
import Derived.Test.YtdjknikkiojfhaaDoorRows
/- A message among the arguments, with how great it is. -/
namespace Go.Proofs.YtdjknikkiojfhaaDoor
open Go.RowKit Go.HL
set_option linter.unusedVariables false
set_option linter.unusedSimpArgs false
section
variable {H : Type} {enc : TypeId × Value → H} {W : World} {base : Nat} {sp : Nat → Bool} {held : Bool}
theorem ques_openF {m : Nat} {cs : List Value} {x : DataW H × List MemPlace} (h : DataW.trod enc Tryd.prog W base sp held m 23 cs = some x) :
    ∃ s : Ql, cs = [s.val] ∧ s.ok W ∧ s.n ≤ Rows.uptoBulk x.1 ∧ ∀ q ∈ s.l, q.nm.size ≤ Rows.uptoBulk x.1 := by
  rcases trod_slice Tryd.underlying23 h with ⟨ea, _⟩ | ⟨m2, a, len, cap, elems, rest, _, ea, hle, hm, hy⟩
  · exact ⟨⟨none, 0, 0, []⟩, ea, ⟨Rd.nil _ _, fun r (hr : r ∈ ([] : List Qn)) => absurd hr (by simp)⟩, Nat.zero_le _, fun r (hr : r ∈ ([] : List Qn)) => absurd hr (by simp)⟩
  · obtain ⟨l, h1, h2, h3, h4⟩ := rd_items Qn.cells 3 (by omega) (fun _ => rfl) (fun r d => r.ok ∧ r.nm.size + 1 ≤ Rows.uptoBulk d) (show Tryd.prog.cellsOf 55 = 3 from by kernel_rfl) hle (que_open m2) hm
    rw [hy]
    simp only [Rows.uptoBulk]
    have hlen := bulk_len (elems.map (·.1))
    rw [List.length_map, h3] at hlen
    refine ⟨⟨some a, len, cap, l⟩, ea, ⟨h1, fun r hr => ?_⟩, by show len ≤ _; omega, fun r hr => ?_⟩
    · obtain ⟨d, hd, k1, k2⟩ := h4 r hr
      exact k1
    · obtain ⟨d, hd, k1, k2⟩ := h4 r hr
      have := bulk_part hd
      omega
theorem recsl_openF {m : Nat} {cs : List Value} {x : DataW H × List MemPlace} (h : DataW.trod enc Tryd.prog W base sp held m 24 cs = some x) :
    ∃ s : Sl, cs = [s.val] ∧ s.ok W ∧ s.n ≤ Rows.uptoBulk x.1 ∧ ∀ r ∈ s.l, r.nm.size ≤ Rows.uptoBulk x.1 ∧ r.raw.size ≤ Rows.uptoBulk x.1 ∧ r.host.size ≤ Rows.uptoBulk x.1 ∧ r.mail.size ≤ Rows.uptoBulk x.1 := by
  rcases trod_slice Tryd.underlying24 h with ⟨ea, _⟩ | ⟨m2, a, len, cap, elems, rest, _, ea, hle, hm, hy⟩
  · exact ⟨⟨none, 0, 0, []⟩, ea, ⟨Rd.nil _ _, (fun r (hr : r ∈ ([] : List Rc)) => absurd hr (by simp))⟩, Nat.zero_le _, (fun r (hr : r ∈ ([] : List Rc)) => absurd hr (by simp))⟩
  · obtain ⟨l, h1, h2, h3, h4⟩ := rd_items Rc.cells 12 (by omega) (fun _ => rfl) (fun r d => r.ok ∧ r.nm.size + r.raw.size + r.host.size + r.mail.size + 1 ≤ Rows.uptoBulk d) (show Tryd.prog.cellsOf 46 = 12 from by kernel_rfl) hle (rec_open m2) hm
    rw [hy]
    simp only [Rows.uptoBulk]
    have hlen := bulk_len (elems.map (·.1))
    rw [List.length_map, h3] at hlen
    refine ⟨⟨some a, len, cap, l⟩, ea, ⟨h1, fun r hr => ?_⟩, by show len ≤ _; omega, fun r hr => ?_⟩
    · obtain ⟨d, hd, k1, k2⟩ := h4 r hr
      exact k1
    · obtain ⟨d, hd, k1, k2⟩ := h4 r hr
      have := bulk_part hd
      omega
set_option maxRecDepth 100000 in
theorem msg_openF (m : Nat) (cs : List Value) (x : DataW H × List MemPlace) (h : DataW.trod enc Tryd.prog W base sp held m 26 cs = some x) :
    ∃ g : Mg, cs = g.cells ∧ g.ok W ∧ g.fit (Rows.uptoBulk x.1) := by
  obtain ⟨m1, xs, rfl, hl, hx, rfl⟩ := trod_struct Tryd.underlying26 h
  rw [show Tryd.prog.cellsOf 26 = 13 from by kernel_rfl] at hl
  obtain ⟨c0, c1, c2, c3, c4, c5, c6, c7, c8, c9, c10, c11, c12, rfl⟩ := lst13 cs hl
  obtain ⟨y0, r0, e0, hx0, rfl⟩ := mapM_cons_some hx
  obtain ⟨y1, r1, e1, hx1, rfl⟩ := mapM_cons_some hx0
  obtain ⟨y2, r2, e2, hx2, rfl⟩ := mapM_cons_some hx1
  obtain ⟨y3, r3, e3, hx3, rfl⟩ := mapM_cons_some hx2
  obtain ⟨y4, r4, e4, hx4, rfl⟩ := mapM_cons_some hx3
  obtain ⟨y5, r5, e5, hx5, rfl⟩ := mapM_cons_some hx4
  obtain ⟨y6, r6, e6, hx6, rfl⟩ := mapM_cons_some hx5
  obtain ⟨y7, r7, e7, hx7, rfl⟩ := mapM_cons_some hx6
  obtain ⟨y8, r8, e8, hx8, rfl⟩ := mapM_cons_some hx7
  obtain ⟨y9, r9, e9, hx9, rfl⟩ := mapM_cons_some hx8
  obtain ⟨y10, r10, e10, hx10, rfl⟩ := mapM_cons_some hx9
  obtain ⟨y11, r11, e11, hx11, rfl⟩ := mapM_cons_some hx10
  obtain ⟨y12, r12, e12, hx12, rfl⟩ := mapM_cons_some hx11
  obtain rfl := mapM_nil_some hx12
  clear hx hx0 hx1 hx2 hx3 hx4 hx5 hx6 hx7 hx8 hx9 hx10 hx11 hx12
  simp only [show Tryd.prog.cellsOf 22 = 1 from by kernel_rfl, List.drop_zero, List.drop_succ_cons, List.take_succ_cons, List.take_zero] at e0
  simp only [show Tryd.prog.cellsOf 4 = 1 from by kernel_rfl, List.drop_zero, List.drop_succ_cons, List.take_succ_cons, List.take_zero] at e1
  simp only [show Tryd.prog.cellsOf 5 = 1 from by kernel_rfl, List.drop_zero, List.drop_succ_cons, List.take_succ_cons, List.take_zero] at e2
  simp only [show Tryd.prog.cellsOf 4 = 1 from by kernel_rfl, List.drop_zero, List.drop_succ_cons, List.take_succ_cons, List.take_zero] at e3
  simp only [show Tryd.prog.cellsOf 4 = 1 from by kernel_rfl, List.drop_zero, List.drop_succ_cons, List.take_succ_cons, List.take_zero] at e4
  simp only [show Tryd.prog.cellsOf 4 = 1 from by kernel_rfl, List.drop_zero, List.drop_succ_cons, List.take_succ_cons, List.take_zero] at e5
  simp only [show Tryd.prog.cellsOf 4 = 1 from by kernel_rfl, List.drop_zero, List.drop_succ_cons, List.take_succ_cons, List.take_zero] at e6
  simp only [show Tryd.prog.cellsOf 5 = 1 from by kernel_rfl, List.drop_zero, List.drop_succ_cons, List.take_succ_cons, List.take_zero] at e7
  simp only [show Tryd.prog.cellsOf 5 = 1 from by kernel_rfl, List.drop_zero, List.drop_succ_cons, List.take_succ_cons, List.take_zero] at e8
  simp only [show Tryd.prog.cellsOf 23 = 1 from by kernel_rfl, List.drop_zero, List.drop_succ_cons, List.take_succ_cons, List.take_zero] at e9
  simp only [show Tryd.prog.cellsOf 24 = 1 from by kernel_rfl, List.drop_zero, List.drop_succ_cons, List.take_succ_cons, List.take_zero] at e10
  simp only [show Tryd.prog.cellsOf 24 = 1 from by kernel_rfl, List.drop_zero, List.drop_succ_cons, List.take_succ_cons, List.take_zero] at e11
  simp only [show Tryd.prog.cellsOf 24 = 1 from by kernel_rfl, List.drop_zero, List.drop_succ_cons, List.take_succ_cons, List.take_zero] at e12
  obtain ⟨id, ea, wid, rfl⟩ := trod_int Tryd.underlying22 e0
  obtain rfl : c0 = .int .u16 id := by simpa using ea
  clear ea e0
  obtain ⟨reply, ea, rfl⟩ := trod_bool Tryd.underlying4 e1
  obtain rfl : c1 = .bool reply := by simpa using ea
  clear ea e1
  obtain ⟨op, ea, wop, rfl⟩ := trod_int Tryd.underlying5 e2
  obtain rfl : c2 = .int .u8 op := by simpa using ea
  clear ea e2
  obtain ⟨aa, ea, rfl⟩ := trod_bool Tryd.underlying4 e3
  obtain rfl : c3 = .bool aa := by simpa using ea
  clear ea e3
  obtain ⟨tc, ea, rfl⟩ := trod_bool Tryd.underlying4 e4
  obtain rfl : c4 = .bool tc := by simpa using ea
  clear ea e4
  obtain ⟨rd, ea, rfl⟩ := trod_bool Tryd.underlying4 e5
  obtain rfl : c5 = .bool rd := by simpa using ea
  clear ea e5
  obtain ⟨ra, ea, rfl⟩ := trod_bool Tryd.underlying4 e6
  obtain rfl : c6 = .bool ra := by simpa using ea
  clear ea e6
  obtain ⟨z, ea, wz, rfl⟩ := trod_int Tryd.underlying5 e7
  obtain rfl : c7 = .int .u8 z := by simpa using ea
  clear ea e7
  obtain ⟨rc, ea, wrc, rfl⟩ := trod_int Tryd.underlying5 e8
  obtain rfl : c8 = .int .u8 rc := by simpa using ea
  clear ea e8
  obtain ⟨q, ea, kq, bq, bqs⟩ := ques_openF e9
  obtain rfl : c9 = q.val := by simpa using ea
  clear ea e9
  obtain ⟨an, ea, kan, ban, bans⟩ := recsl_openF e10
  obtain rfl : c10 = an.val := by simpa using ea
  clear ea e10
  obtain ⟨au, ea, kau, bau, baus⟩ := recsl_openF e11
  obtain rfl : c11 = au.val := by simpa using ea
  clear ea e11
  obtain ⟨ex, ea, kex, bex, bexs⟩ := recsl_openF e12
  obtain rfl : c12 = ex.val := by simpa using ea
  clear ea e12
  refine ⟨⟨id, reply, op, aa, tc, rd, ra, z, rc, q, an, au, ex⟩, rfl, ⟨bd_u16 wid, bd_u8 wop, bd_u8 wz, bd_u8 wrc, kq, kan, kau, kex⟩, ?_⟩
  simp only [List.map_cons, List.map_nil, Rows.uptoBulkAll, Rows.uptoBulk]
  refine ⟨by show q.n ≤ _; omega, fun p hp => ?_, fun x hx => by have := bqs x hx; omega, fun p hp r hr => ?_⟩
  · rcases p with _ | _ | _ | p
    · show an.n ≤ _; omega
    · show au.n ≤ _; omega
    · show ex.n ≤ _; omega
    · omega
  · rcases p with _ | _ | _ | p
    · have := bans r hr; omega
    · have := baus r hr; omega
    · have := bexs r hr; omega
    · omega
end
end Go.Proofs.YtdjknikkiojfhaaDoor
