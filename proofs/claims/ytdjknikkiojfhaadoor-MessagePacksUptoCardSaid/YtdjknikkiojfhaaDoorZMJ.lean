import Derived.Test.YtdjknikkiojfhaaDoorZMD
import Derived.Test.YtdjknikkiojfhaaDoorZPZ
/- message.Pack: the contract. -/
namespace Go.Proofs.YtdjknikkiojfhaaDoor
open Go.RowKit Go.HL Go.Maps
set_option linter.unusedVariables false
set_option linter.unusedSimpArgs false
theorem range_any {f : Nat → Bool} {n p : Nat} (h : (List.range n).any f = false) (hp : p < n) : f p = false := by
  rw [List.any_eq_false] at h
  have := h p (List.mem_range.2 hp)
  simpa using this
theorem good_of {W : World} {m : Mg} (ho : m.ok W) (hf : m.fit 140737488355328) (h : wrongV m = 0) : m.good := by
  unfold wrongV at h
  by_cases h1 : 15 < m.op ∨ 7 < m.z ∨ 15 < m.rc
  · rw [if_pos h1] at h; cases h
  rw [if_neg h1] at h
  cases h2 : longP m 3 with
  | true => rw [h2, if_pos rfl] at h; cases h
  | false =>
  cases h3 : namesP m 3 with
  | true => rw [h2, h3, if_neg (by simp), if_pos rfl] at h; cases h
  | false =>
  cases h4 : dataP m 3 with
  | true => rw [h2, h3, h4, if_neg (by simp), if_neg (by simp), if_pos rfl] at h; cases h
  | false =>
    unfold longP at h2
    unfold namesP badQ at h3
    unfold dataP at h4
    rw [Bool.or_eq_false_iff] at h2 h3
    refine ⟨by omega, by omega, by omega, by have := h2.1; simpa using this, fun p hp => by have := range_any h2.2 hp; simpa using this, fun x hx => ?_, fun p hp x hx => ?_⟩
    · have := List.any_eq_false.1 h3.1 x hx
      simpa using this
    · have e1 := range_any h3.2 hp
      have e2 := range_any h4 hp
      unfold badN at e1
      unfold badD at e2
      have g1 := List.any_eq_false.1 e1 x hx
      have g2 := List.any_eq_false.1 e2 x hx
      obtain ⟨q0, q1, q2, q3⟩ := hf.rs p hp x hx
      exact ⟨(Mg.part_ok ho p).ok x hx, by simpa using g1, by simpa using g2, q2, q3, q1⟩
/-- What packing tells. -/
def packV (m : Mg) : List UInt8 × Int := if wrongV m = 0 then (if 65535 < (msgB m).length then ([], 2) else (msgB m, 0)) else ([], wrongV m)
def PackR (w : World) (r : List UInt8 × Int) (e : Ending) (w' : World) : Prop := ∃ A n c, e = .returned (.tuple #[.slice A n c, .int .i64 r.2]) ∧ Rd w' 1 A n c (bs r.1) ∧ (r.2 ≠ 0 → A = none) ∧ Below w.heap.size w w'
set_option maxRecDepth 8000 in
theorem pack_ (w : World) (m : Mg) (ho : m.ok w) (hf : m.fit 140737488355328) (hK : Kd w) : Calls Tryd.prog 7 #[m.val] w (PackR w (packV m)) := by
  have hb := below_new w (.cells m.cells.toArray 26)
  have hm := Blk.new w 26 m.cells.toArray
  have hwr := wrong_ (w.alloc (.cells m.cells.toArray 26)) w.heap.size m hm (ho.below hb) hf (hK.below hb)
  have hby := fun (h : wrongV m = 0) (W : World) (hW : Below (w.alloc (.cells m.cells.toArray 26)).heap.size (w.alloc (.cells m.cells.toArray 26)) W) => bytes_ W w.heap.size m (hm.below hW) ((ho.below hb).below hW) (good_of ho hf h) ((hK.below hb).below hW)
  have HB := Lib.hid hb
  unfold Mg.cells at hwr hby HB
  clear hb hm
  unfold Mg.val
  by_cases h0 : wrongV m = 0
  · have HBY := Lib.hid (hby h0)
    rw [h0] at hwr
    have hp : packV m = if 65535 < (msgB m).length then ([], 2) else (msgB m, 0) := by unfold packV; rw [if_pos h0]
    obtain ⟨L, hL⟩ : ∃ L, msgB m = L := ⟨_, rfl⟩
    rw [hL] at hp HBY
    obtain ⟨R, hR⟩ : ∃ R, packV m = R := ⟨_, rfl⟩
    rw [hR] at hp ⊢
    clear hR hby h0 hL
    by_cases hl : 65535 < L.length
    · rw [if_pos hl] at hp
      have HP := Lib.hid hp
      have HL := Lib.hid hl
      clear hp hl
      go_enter Tryd.func7, Tryd.ntmps7
      go_wp2_with (first | (go_at_call 16; refine hwr.mono ?_; clear hwr; rintro e W1 ⟨rfl, hb1⟩; have HB1 := Lib.hid hb1; clear hb1) | (go_at_call 17; refine (HBY.out W1 HB1.out).mono ?_; clear HBY; rintro e W2 ⟨A2, n2, c2, rfl, hr2, hb2⟩; have hln := hr2.blen; have HR2 := Lib.hid (And.intro hr2 hb2); have hgt : (65535 : Int) < (n2 : Int) := (by have := HL.out; omega); clear hr2 hb2 hln))
      go_ret2
      refine ⟨none, 0, 0, ?_, ?_, fun _ => rfl, below_trans HB.out (below_trans HB1.out HR2.out.2)⟩
      · rw [HP.out]; rfl
      · rw [HP.out]; exact Rd.nil _ _
    · rw [if_neg hl] at hp
      have HP := Lib.hid hp
      have HL := Lib.hid hl
      clear hp hl
      go_enter Tryd.func7, Tryd.ntmps7
      go_wp2_with (first | (go_at_call 16; refine hwr.mono ?_; clear hwr; rintro e W1 ⟨rfl, hb1⟩; have HB1 := Lib.hid hb1; clear hb1) | (go_at_call 17; refine (HBY.out W1 HB1.out).mono ?_; clear HBY; rintro e W2 ⟨A2, n2, c2, rfl, hr2, hb2⟩; have hln := hr2.blen; have HR2 := Lib.hid (And.intro hr2 hb2); have hgt : ¬ (65535 : Int) < (n2 : Int) := (by have := HL.out; omega); clear hr2 hb2 hln))
      go_ret2
      refine ⟨A2, n2, c2, ?_, ?_, fun h => ?_, below_trans HB.out (below_trans HB1.out HR2.out.2)⟩
      · rw [HP.out]; rfl
      · rw [HP.out]; exact HR2.out.1
      · rw [HP.out] at h; exact absurd rfl h
  · have hp : packV m = ([], wrongV m) := by unfold packV; rw [if_neg h0]
    rw [hp]
    obtain ⟨e0, he0⟩ : ∃ x, wrongV m = x := ⟨_, rfl⟩
    rw [he0] at hwr h0 ⊢
    have hne : (e0 != 0) = true := by simpa using h0
    clear hp hby he0 h0
    go_enter Tryd.func7, Tryd.ntmps7
    go_wp2_with (first | (go_at_call 16; refine hwr.mono ?_; clear hwr; rintro e W1 ⟨rfl, hb1⟩; have HB1 := Lib.hid hb1; clear hb1))
    go_ret2
    exact ⟨none, 0, 0, rfl, Rd.nil _ _, fun _ => rfl, below_trans HB.out HB1.out⟩
end Go.Proofs.YtdjknikkiojfhaaDoor

/- own: a message in memory of its own; packing tells the same of it. -/
namespace Go.Proofs.YtdjknikkiojfhaaDoor
open Go.RowKit Go.HL Go.Maps
set_option linter.unusedVariables false
set_option linter.unusedSimpArgs false
/-- Two messages that say the same, wherever their rows lie. -/
structure Mg.like (m m' : Mg) : Prop where
  id : m'.id = m.id
  reply : m'.reply = m.reply
  op : m'.op = m.op
  aa : m'.aa = m.aa
  tc : m'.tc = m.tc
  rd : m'.rd = m.rd
  ra : m'.ra = m.ra
  z : m'.z = m.z
  rc : m'.rc = m.rc
  q : m'.q.l = m.q.l ∧ m'.q.n = m.q.n
  an : m'.an.l = m.an.l ∧ m'.an.n = m.an.n
  au : m'.au.l = m.au.l ∧ m'.au.n = m.au.n
  ex : m'.ex.l = m.ex.l ∧ m'.ex.n = m.ex.n
theorem Mg.like.part {m m' : Mg} (h : m.like m') (p : Nat) : (m'.part p).l = (m.part p).l ∧ (m'.part p).n = (m.part p).n := by
  rcases p with _ | _ | p
  · exact h.an
  · exact h.au
  · exact h.ex
theorem Mg.like.wrong {m m' : Mg} (h : m.like m') : wrongV m' = wrongV m := by
  have e1 : longP m' 3 = longP m 3 := by unfold longP; rw [h.q.2]; simp only [(h.part _).2]
  have e2 : namesP m' 3 = namesP m 3 := by unfold namesP; rw [h.q.1]; simp only [(h.part _).1]
  have e3 : dataP m' 3 = dataP m 3 := by unfold dataP; simp only [(h.part _).1]
  unfold wrongV
  rw [e1, e2, e3, h.op, h.z, h.rc]
theorem Mg.like.flags {m m' : Mg} (h : m.like m') : flagsV m' = flagsV m := by
  unfold flagsV
  rw [h.reply, h.op, h.aa, h.tc, h.rd, h.ra, h.z, h.rc]
theorem Mg.like.bytes {m m' : Mg} (h : m.like m') : msgB m' = msgB m := by
  unfold msgB headB
  rw [h.flags, h.id, h.q.1, h.q.2, h.an.1, h.an.2, h.au.1, h.au.2, h.ex.1, h.ex.2]
theorem Mg.like.pack {m m' : Mg} (h : m.like m') : packV m' = packV m := by
  unfold packV
  rw [h.wrong, h.bytes]
theorem Mg.like.fit {m m' : Mg} (h : m.like m') {B : Nat} (hf : m.fit B) : m'.fit B :=
  ⟨by rw [h.q.2]; exact hf.q, fun p hp => by rw [(h.part p).2]; exact hf.p p hp, fun x hx => hf.qs x (by rw [← h.q.1]; exact hx), fun p hp r hr => hf.rs p hp r (by rw [← (h.part p).1]; exact hr)⟩
theorem infoQue : (Tryd.prog.info? 55).map (fun i => (i.zero, i.size, i.bytes)) = some (some (.agg #[.string ⟨#[]⟩, .int .u16 0, .int .u16 0]), 3, 24) := by kernel_rfl
theorem infoRec : (Tryd.prog.info? 46).map (fun i => (i.zero, i.size, i.bytes)) = some (some Rc.zero.val, 12, 96) := by kernel_rfl
theorem qns_one (l : List Qn) : ∀ u ∈ qns l, u.oneCell' = true := by
  intro u hu
  obtain ⟨q, _, hq⟩ := List.mem_flatMap.1 hu
  simp only [Qn.cells, List.mem_cons, List.not_mem_nil, or_false] at hq
  rcases hq with rfl | rfl | rfl <;> rfl
/-- What own tells. -/
def OwnP (w : World) (m : Mg) (e : Ending) (w' : World) : Prop := ∃ m' : Mg, e = .returned m'.val ∧ m.like m' ∧ m'.ok w' ∧ Below w.heap.size w w'
def Mg.setQ (m : Mg) (q : Ql) : Mg := { m with q := q }
set_option maxRecDepth 8000 in
set_option maxHeartbeats 4000000 in
theorem own_ (w : World) (m : Mg) (ho : m.ok w) (h24 : m.q.n * 24 ≤ 140737488355328) (h96 : ∀ p, p < 3 → (m.part p).n * 96 ≤ 140737488355328) : Calls Tryd.prog 8 #[m.val] w (OwnP w m) := by
  have h0 : m.an.n * 96 ≤ 140737488355328 := h96 0 (by omega)
  have h1 : m.au.n * 96 ≤ 140737488355328 := h96 1 (by omega)
  have h2 : m.ex.n * 96 ≤ 140737488355328 := h96 2 (by omega)
  have hb1 := below_new w (.cells m.cells.toArray 26)
  have hm := Blk.new w 26 m.cells.toArray
  have hZ := Blk.new (w.alloc (.cells m.cells.toArray 26)) 26 #[.int .u16 0, .bool false, .int .u8 0, .bool false, .bool false, .bool false, .bool false, .int .u8 0, .int .u8 0, .slice none 0 0, .slice none 0 0, .slice none 0 0, .slice none 0 0]
  have hb2 := below_alloc hb1 (.cells #[.int .u16 0, .bool false, .int .u8 0, .bool false, .bool false, .bool false, .bool false, .int .u8 0, .int .u8 0, .slice none 0 0, .slice none 0 0, .slice none 0 0, .slice none 0 0] 26)
  have hm2 := hm.alloc (.cells #[.int .u16 0, .bool false, .int .u8 0, .bool false, .bool false, .bool false, .bool false, .int .u8 0, .int .u8 0, .slice none 0 0, .slice none 0 0, .slice none 0 0, .slice none 0 0] 26)
  obtain ⟨W2, hW2⟩ : ∃ x, (w.alloc (.cells m.cells.toArray 26)).alloc (.cells #[.int .u16 0, .bool false, .int .u8 0, .bool false, .bool false, .bool false, .bool false, .int .u8 0, .int .u8 0, .slice none 0 0, .slice none 0 0, .slice none 0 0, .slice none 0 0] 26) = x := ⟨_, rfl⟩
  rw [hW2] at hZ hb2 hm2
  unfold Mg.cells at hW2
  rw [World.size_alloc] at hZ
  have hs0 : w.heap.size + 2 ≤ W2.heap.size := by rw [← hW2]; simp only [World.size_alloc]; omega
  go_enter Tryd.func8, Tryd.ntmps8
  unfold Mg.val
  go_upto_region 1 with (fail)
  clear hW2
  have HM := Lib.hid hm2
  have HZ := Lib.hid hZ
  have HB := Lib.hid hb2
  have HO := Lib.hid ho
  have c9 := hm2.cell 9 _ rfl
  clear hm2 hZ hb1 hm ho hb2
  go_upto_region 2 with (at_builtin; refine wpList_app_nil W2 W2 (w.heap.size + 2) rfl _ _ 23 23 55 (.agg #[.string ⟨#[]⟩, .int .u16 0, .int .u16 0]) 3 24 rfl Tryd.underlying23 infoQue rfl (by omega) (by omega) rfl (.slice m.q.a m.q.n m.q.c) m.q.n (qns m.q.l) rfl (.slice (HO.out.q.r.below HB.out) (qns_one _)) (Below.refl _ _) hs0 (by omega) ?_; intro v0 V0 ho0 hb0 hg0; obtain ⟨A0, k0, rfl, hr0⟩ := own_rd ho0; have hM0 : Blk V0 w.heap.size 26 m.cells := (hb0.block w.heap.size (by omega)).trans HM.out; have f0 := hM0.free 9; have s0 := hM0.cell 9 _ rfl; have HO0 := Lib.hid ho0; have HG0 := Lib.hid hg0; have HBk0 := Lib.hid hb0; have HM0 := Lib.hid hM0; clear hr0 hM0 ho0 hb0 hg0 c9)
  have hM : Blk (V0.setCell ⟨w.heap.size, 9, none⟩ (.slice A0 m.q.n k0)) w.heap.size 26 (⟨m.id, m.reply, m.op, m.aa, m.tc, m.rd, m.ra, m.z, m.rc, ⟨A0, m.q.n, k0, m.q.l⟩, m.an, m.au, m.ex⟩ : Mg).cells := HM0.out.set 9 _
  have hZ : Blk (V0.setCell ⟨w.heap.size, 9, none⟩ (.slice A0 m.q.n k0)) (w.heap.size + 1) 26 _ := Blk.set_other (((HBk0.out.block (w.heap.size + 1) (by omega)).trans HZ.out : Blk V0 (w.heap.size + 1) 26 _)) 9 _ (by omega)
  have hB : Below w.heap.size w (V0.setCell ⟨w.heap.size, 9, none⟩ (.slice A0 m.q.n k0)) := Below.grown (HB.out.trans (HBk0.out.mono (by omega))) (grown_set _ _ _) (by have := HB.out.size; have := HBk0.out.size; omega) (fun j hj => by cases hj; exact Nat.le_refl _)
  have hs1 : w.heap.size + 2 ≤ (V0.setCell ⟨w.heap.size, 9, none⟩ (.slice A0 m.q.n k0)).heap.size := by have := HBk0.out.size; simp only [World.setCell, Array.size_modify]; omega
  have hO0 : (V0.setCell ⟨w.heap.size, 9, none⟩ (.slice A0 m.q.n k0)).ownsRow (w.heap.size + 2) 55 3 (.slice A0 m.q.n k0) m.q.n (qns m.q.l) := own_kept_low HO0.out (Nat.lt_of_lt_of_le (Nat.lt_succ_self _) (Nat.le_succ _)) (grown_set _ _ _)
  obtain ⟨X0, hX0⟩ : ∃ x, V0.setCell ⟨w.heap.size, 9, none⟩ (.slice A0 m.q.n k0) = x := ⟨_, rfl⟩
  rw [hX0] at hM hZ hB hs1 hO0 ⊢
  clear HO0
  have HO0 := Lib.hid hO0
  clear hO0
  clear HM0 HM HZ HB HBk0 HG0 f0 s0 hX0 hs0
  have HM := Lib.hid hM
  have HZ := Lib.hid hZ
  have HB := Lib.hid hB
  have c10 : X0.cell? ⟨w.heap.size, 10, none⟩ = some (.slice m.an.a m.an.n m.an.c) := hM.cell 10 _ rfl
  clear hM hZ hB
  go_upto_region 3 with (at_builtin; refine wpList_app_nil X0 X0 (w.heap.size + 2) rfl _ _ 24 24 46 Rc.zero.val 12 96 rfl Tryd.underlying24 infoRec rfl (by omega) (by omega) rfl (.slice m.an.a m.an.n m.an.c) m.an.n (rcs m.an.l) rfl (.slice (HO.out.an.r.below HB.out) (rcs_one _)) (Below.refl _ _) hs1 (by omega) ?_; intro v1 V1 ho1 hb1 hg1; obtain ⟨A1, k1, rfl, hr1⟩ := own_rd ho1; have hM1 : Blk V1 w.heap.size 26 (⟨m.id, m.reply, m.op, m.aa, m.tc, m.rd, m.ra, m.z, m.rc, ⟨A0, m.q.n, k0, m.q.l⟩, m.an, m.au, m.ex⟩ : Mg).cells := (hb1.block w.heap.size (by omega)).trans HM.out; have f1 := hM1.free 10; have s1 : V1.cell? ⟨w.heap.size, 10, none⟩ = some (.slice m.an.a m.an.n m.an.c) := hM1.cell 10 _ rfl; have HO1 := Lib.hid ho1; have HG1 := Lib.hid hg1; have HBk1 := Lib.hid hb1; have HM1 := Lib.hid hM1; clear hr1 hM1 ho1 hb1 hg1 c10)
  have hM : Blk (V1.setCell ⟨w.heap.size, 10, none⟩ (.slice A1 m.an.n k1)) w.heap.size 26 (⟨m.id, m.reply, m.op, m.aa, m.tc, m.rd, m.ra, m.z, m.rc, ⟨A0, m.q.n, k0, m.q.l⟩, ⟨A1, m.an.n, k1, m.an.l⟩, m.au, m.ex⟩ : Mg).cells := HM1.out.set 10 _
  have hZ : Blk (V1.setCell ⟨w.heap.size, 10, none⟩ (.slice A1 m.an.n k1)) (w.heap.size + 1) 26 _ := Blk.set_other (((HBk1.out.block (w.heap.size + 1) (by omega)).trans HZ.out : Blk V1 (w.heap.size + 1) 26 _)) 10 _ (by omega)
  have hB : Below w.heap.size w (V1.setCell ⟨w.heap.size, 10, none⟩ (.slice A1 m.an.n k1)) := Below.grown (HB.out.trans (HBk1.out.mono (by omega))) (grown_set _ _ _) (by have := HB.out.size; have := HBk1.out.size; omega) (fun j hj => by cases hj; exact Nat.le_refl _)
  have hs2 : w.heap.size + 2 ≤ (V1.setCell ⟨w.heap.size, 10, none⟩ (.slice A1 m.an.n k1)).heap.size := by have := HBk1.out.size; simp only [World.setCell, Array.size_modify]; omega
  have hO0 : (V1.setCell ⟨w.heap.size, 10, none⟩ (.slice A1 m.an.n k1)).ownsRow (w.heap.size + 2) 55 3 (.slice A0 m.q.n k0) m.q.n (qns m.q.l) := own_kept_low (HO0.out.kept HG1.out (Classical.em _)) (Nat.lt_of_lt_of_le (Nat.lt_succ_self _) (Nat.le_succ _)) (grown_set _ _ _)
  have hO1 : (V1.setCell ⟨w.heap.size, 10, none⟩ (.slice A1 m.an.n k1)).ownsRow (w.heap.size + 2) 46 12 (.slice A1 m.an.n k1) m.an.n (rcs m.an.l) := own_kept_low HO1.out (Nat.lt_of_lt_of_le (Nat.lt_succ_self _) (Nat.le_succ _)) (grown_set _ _ _)
  obtain ⟨X1, hX1⟩ : ∃ x, V1.setCell ⟨w.heap.size, 10, none⟩ (.slice A1 m.an.n k1) = x := ⟨_, rfl⟩
  rw [hX1] at hM hZ hB hs2 hO0 hO1 ⊢
  clear HO0
  have HO0 := Lib.hid hO0
  clear hO0
  clear HO1
  have HO1 := Lib.hid hO1
  clear hO1
  clear HM1 HM HZ HB HBk1 HG1 f1 s1 hX1 hs1
  have HM := Lib.hid hM
  have HZ := Lib.hid hZ
  have HB := Lib.hid hB
  have c11 : X1.cell? ⟨w.heap.size, 11, none⟩ = some (.slice m.au.a m.au.n m.au.c) := hM.cell 11 _ rfl
  clear hM hZ hB
  go_upto_region 4 with (at_builtin; refine wpList_app_nil X1 X1 (w.heap.size + 2) rfl _ _ 24 24 46 Rc.zero.val 12 96 rfl Tryd.underlying24 infoRec rfl (by omega) (by omega) rfl (.slice m.au.a m.au.n m.au.c) m.au.n (rcs m.au.l) rfl (.slice (HO.out.au.r.below HB.out) (rcs_one _)) (Below.refl _ _) hs2 (by omega) ?_; intro v2 V2 ho2 hb2 hg2; obtain ⟨A2, k2, rfl, hr2⟩ := own_rd ho2; have hM2 : Blk V2 w.heap.size 26 (⟨m.id, m.reply, m.op, m.aa, m.tc, m.rd, m.ra, m.z, m.rc, ⟨A0, m.q.n, k0, m.q.l⟩, ⟨A1, m.an.n, k1, m.an.l⟩, m.au, m.ex⟩ : Mg).cells := (hb2.block w.heap.size (by omega)).trans HM.out; have f2 := hM2.free 11; have s2 : V2.cell? ⟨w.heap.size, 11, none⟩ = some (.slice m.au.a m.au.n m.au.c) := hM2.cell 11 _ rfl; have HO2 := Lib.hid ho2; have HG2 := Lib.hid hg2; have HBk2 := Lib.hid hb2; have HM2 := Lib.hid hM2; clear hr2 hM2 ho2 hb2 hg2 c11)
  have hM : Blk (V2.setCell ⟨w.heap.size, 11, none⟩ (.slice A2 m.au.n k2)) w.heap.size 26 (⟨m.id, m.reply, m.op, m.aa, m.tc, m.rd, m.ra, m.z, m.rc, ⟨A0, m.q.n, k0, m.q.l⟩, ⟨A1, m.an.n, k1, m.an.l⟩, ⟨A2, m.au.n, k2, m.au.l⟩, m.ex⟩ : Mg).cells := HM2.out.set 11 _
  have hZ : Blk (V2.setCell ⟨w.heap.size, 11, none⟩ (.slice A2 m.au.n k2)) (w.heap.size + 1) 26 _ := Blk.set_other (((HBk2.out.block (w.heap.size + 1) (by omega)).trans HZ.out : Blk V2 (w.heap.size + 1) 26 _)) 11 _ (by omega)
  have hB : Below w.heap.size w (V2.setCell ⟨w.heap.size, 11, none⟩ (.slice A2 m.au.n k2)) := Below.grown (HB.out.trans (HBk2.out.mono (by omega))) (grown_set _ _ _) (by have := HB.out.size; have := HBk2.out.size; omega) (fun j hj => by cases hj; exact Nat.le_refl _)
  have hs3 : w.heap.size + 2 ≤ (V2.setCell ⟨w.heap.size, 11, none⟩ (.slice A2 m.au.n k2)).heap.size := by have := HBk2.out.size; simp only [World.setCell, Array.size_modify]; omega
  have hO0 : (V2.setCell ⟨w.heap.size, 11, none⟩ (.slice A2 m.au.n k2)).ownsRow (w.heap.size + 2) 55 3 (.slice A0 m.q.n k0) m.q.n (qns m.q.l) := own_kept_low (HO0.out.kept HG2.out (Classical.em _)) (Nat.lt_of_lt_of_le (Nat.lt_succ_self _) (Nat.le_succ _)) (grown_set _ _ _)
  have hO1 : (V2.setCell ⟨w.heap.size, 11, none⟩ (.slice A2 m.au.n k2)).ownsRow (w.heap.size + 2) 46 12 (.slice A1 m.an.n k1) m.an.n (rcs m.an.l) := own_kept_low (HO1.out.kept HG2.out (Classical.em _)) (Nat.lt_of_lt_of_le (Nat.lt_succ_self _) (Nat.le_succ _)) (grown_set _ _ _)
  have hO2 : (V2.setCell ⟨w.heap.size, 11, none⟩ (.slice A2 m.au.n k2)).ownsRow (w.heap.size + 2) 46 12 (.slice A2 m.au.n k2) m.au.n (rcs m.au.l) := own_kept_low HO2.out (Nat.lt_of_lt_of_le (Nat.lt_succ_self _) (Nat.le_succ _)) (grown_set _ _ _)
  obtain ⟨X2, hX2⟩ : ∃ x, V2.setCell ⟨w.heap.size, 11, none⟩ (.slice A2 m.au.n k2) = x := ⟨_, rfl⟩
  rw [hX2] at hM hZ hB hs3 hO0 hO1 hO2 ⊢
  clear HO0
  have HO0 := Lib.hid hO0
  clear hO0
  clear HO1
  have HO1 := Lib.hid hO1
  clear hO1
  clear HO2
  have HO2 := Lib.hid hO2
  clear hO2
  clear HM2 HM HZ HB HBk2 HG2 f2 s2 hX2 hs2
  have HM := Lib.hid hM
  have HZ := Lib.hid hZ
  have HB := Lib.hid hB
  have c12 : X2.cell? ⟨w.heap.size, 12, none⟩ = some (.slice m.ex.a m.ex.n m.ex.c) := hM.cell 12 _ rfl
  clear hM hZ hB
  go_upto_region 5 with (at_builtin; refine wpList_app_nil X2 X2 (w.heap.size + 2) rfl _ _ 24 24 46 Rc.zero.val 12 96 rfl Tryd.underlying24 infoRec rfl (by omega) (by omega) rfl (.slice m.ex.a m.ex.n m.ex.c) m.ex.n (rcs m.ex.l) rfl (.slice (HO.out.ex.r.below HB.out) (rcs_one _)) (Below.refl _ _) hs3 (by omega) ?_; intro v3 V3 ho3 hb3 hg3; obtain ⟨A3, k3, rfl, hr3⟩ := own_rd ho3; have hM3 : Blk V3 w.heap.size 26 (⟨m.id, m.reply, m.op, m.aa, m.tc, m.rd, m.ra, m.z, m.rc, ⟨A0, m.q.n, k0, m.q.l⟩, ⟨A1, m.an.n, k1, m.an.l⟩, ⟨A2, m.au.n, k2, m.au.l⟩, m.ex⟩ : Mg).cells := (hb3.block w.heap.size (by omega)).trans HM.out; have f3 := hM3.free 12; have s3 : V3.cell? ⟨w.heap.size, 12, none⟩ = some (.slice m.ex.a m.ex.n m.ex.c) := hM3.cell 12 _ rfl; have HO3 := Lib.hid ho3; have HG3 := Lib.hid hg3; have HBk3 := Lib.hid hb3; have HM3 := Lib.hid hM3; clear hr3 hM3 ho3 hb3 hg3 c12)
  have hM : Blk (V3.setCell ⟨w.heap.size, 12, none⟩ (.slice A3 m.ex.n k3)) w.heap.size 26 (⟨m.id, m.reply, m.op, m.aa, m.tc, m.rd, m.ra, m.z, m.rc, ⟨A0, m.q.n, k0, m.q.l⟩, ⟨A1, m.an.n, k1, m.an.l⟩, ⟨A2, m.au.n, k2, m.au.l⟩, ⟨A3, m.ex.n, k3, m.ex.l⟩⟩ : Mg).cells := HM3.out.set 12 _
  have hZ : Blk (V3.setCell ⟨w.heap.size, 12, none⟩ (.slice A3 m.ex.n k3)) (w.heap.size + 1) 26 _ := Blk.set_other (((HBk3.out.block (w.heap.size + 1) (by omega)).trans HZ.out : Blk V3 (w.heap.size + 1) 26 _)) 12 _ (by omega)
  have hB : Below w.heap.size w (V3.setCell ⟨w.heap.size, 12, none⟩ (.slice A3 m.ex.n k3)) := Below.grown (HB.out.trans (HBk3.out.mono (by omega))) (grown_set _ _ _) (by have := HB.out.size; have := HBk3.out.size; omega) (fun j hj => by cases hj; exact Nat.le_refl _)
  have hs4 : w.heap.size + 2 ≤ (V3.setCell ⟨w.heap.size, 12, none⟩ (.slice A3 m.ex.n k3)).heap.size := by have := HBk3.out.size; simp only [World.setCell, Array.size_modify]; omega
  have hO0 : (V3.setCell ⟨w.heap.size, 12, none⟩ (.slice A3 m.ex.n k3)).ownsRow (w.heap.size + 2) 55 3 (.slice A0 m.q.n k0) m.q.n (qns m.q.l) := own_kept_low (HO0.out.kept HG3.out (Classical.em _)) (Nat.lt_of_lt_of_le (Nat.lt_succ_self _) (Nat.le_succ _)) (grown_set _ _ _)
  have hO1 : (V3.setCell ⟨w.heap.size, 12, none⟩ (.slice A3 m.ex.n k3)).ownsRow (w.heap.size + 2) 46 12 (.slice A1 m.an.n k1) m.an.n (rcs m.an.l) := own_kept_low (HO1.out.kept HG3.out (Classical.em _)) (Nat.lt_of_lt_of_le (Nat.lt_succ_self _) (Nat.le_succ _)) (grown_set _ _ _)
  have hO2 : (V3.setCell ⟨w.heap.size, 12, none⟩ (.slice A3 m.ex.n k3)).ownsRow (w.heap.size + 2) 46 12 (.slice A2 m.au.n k2) m.au.n (rcs m.au.l) := own_kept_low (HO2.out.kept HG3.out (Classical.em _)) (Nat.lt_of_lt_of_le (Nat.lt_succ_self _) (Nat.le_succ _)) (grown_set _ _ _)
  have hO3 : (V3.setCell ⟨w.heap.size, 12, none⟩ (.slice A3 m.ex.n k3)).ownsRow (w.heap.size + 2) 46 12 (.slice A3 m.ex.n k3) m.ex.n (rcs m.ex.l) := own_kept_low HO3.out (Nat.lt_of_lt_of_le (Nat.lt_succ_self _) (Nat.le_succ _)) (grown_set _ _ _)
  obtain ⟨X3, hX3⟩ : ∃ x, V3.setCell ⟨w.heap.size, 12, none⟩ (.slice A3 m.ex.n k3) = x := ⟨_, rfl⟩
  rw [hX3] at hM hZ hB hs4 hO0 hO1 hO2 hO3 ⊢
  clear HO0
  have HO0 := Lib.hid hO0
  clear hO0
  clear HO1
  have HO1 := Lib.hid hO1
  clear hO1
  clear HO2
  have HO2 := Lib.hid hO2
  clear hO2
  clear HO3
  have HO3 := Lib.hid hO3
  clear hO3
  clear HM3 HM HZ HB HBk3 HG3 f3 s3 hX3 hs3
  have HM := Lib.hid hM
  have HZ := Lib.hid hZ
  have HB := Lib.hid hB
  have d0 : X3.cell? ⟨w.heap.size, 0, none⟩ = some (.int .u16 m.id) := hM.cell 0 _ rfl
  have d1 : X3.cell? ⟨w.heap.size, 1, none⟩ = some (.bool m.reply) := hM.cell 1 _ rfl
  have d2 : X3.cell? ⟨w.heap.size, 2, none⟩ = some (.int .u8 m.op) := hM.cell 2 _ rfl
  have d3 : X3.cell? ⟨w.heap.size, 3, none⟩ = some (.bool m.aa) := hM.cell 3 _ rfl
  have d4 : X3.cell? ⟨w.heap.size, 4, none⟩ = some (.bool m.tc) := hM.cell 4 _ rfl
  have d5 : X3.cell? ⟨w.heap.size, 5, none⟩ = some (.bool m.rd) := hM.cell 5 _ rfl
  have d6 : X3.cell? ⟨w.heap.size, 6, none⟩ = some (.bool m.ra) := hM.cell 6 _ rfl
  have d7 : X3.cell? ⟨w.heap.size, 7, none⟩ = some (.int .u8 m.z) := hM.cell 7 _ rfl
  have d8 : X3.cell? ⟨w.heap.size, 8, none⟩ = some (.int .u8 m.rc) := hM.cell 8 _ rfl
  have d9 : X3.cell? ⟨w.heap.size, 9, none⟩ = some (.slice A0 m.q.n k0) := hM.cell 9 _ rfl
  have d10 : X3.cell? ⟨w.heap.size, 10, none⟩ = some (.slice A1 m.an.n k1) := hM.cell 10 _ rfl
  have d11 : X3.cell? ⟨w.heap.size, 11, none⟩ = some (.slice A2 m.au.n k2) := hM.cell 11 _ rfl
  have d12 : X3.cell? ⟨w.heap.size, 12, none⟩ = some (.slice A3 m.ex.n k3) := hM.cell 12 _ rfl
  clear hM hZ hB
  go_wp2_with (refine wpList_put rfl 26 _ _ rfl (w.heap.size + 1) (⟨m.id, m.reply, m.op, m.aa, m.tc, m.rd, m.ra, m.z, m.rc, ⟨A0, m.q.n, k0, m.q.l⟩, ⟨A1, m.an.n, k1, m.an.l⟩, ⟨A2, m.au.n, k2, m.au.l⟩, ⟨A3, m.ex.n, k3, m.ex.l⟩⟩ : Mg).cells.toArray rfl rfl 26 _ HZ.out sizeMsg rfl rfl ?_)
  have hF := HZ.out.row (⟨m.id, m.reply, m.op, m.aa, m.tc, m.rd, m.ra, m.z, m.rc, ⟨A0, m.q.n, k0, m.q.l⟩, ⟨A1, m.an.n, k1, m.an.l⟩, ⟨A2, m.au.n, k2, m.au.l⟩, ⟨A3, m.ex.n, k3, m.ex.l⟩⟩ : Mg).cells.toArray
  have hg := grown_row X3 (w.heap.size + 1) (⟨m.id, m.reply, m.op, m.aa, m.tc, m.rd, m.ra, m.z, m.rc, ⟨A0, m.q.n, k0, m.q.l⟩, ⟨A1, m.an.n, k1, m.an.l⟩, ⟨A2, m.au.n, k2, m.au.l⟩, ⟨A3, m.ex.n, k3, m.ex.l⟩⟩ : Mg).cells.toArray
  have hlow : w.heap.size + 1 < w.heap.size + 2 := Nat.lt_succ_self _
  refine bodyPost_ret (v := (⟨m.id, m.reply, m.op, m.aa, m.tc, m.rd, m.ra, m.z, m.rc, ⟨A0, m.q.n, k0, m.q.l⟩, ⟨A1, m.an.n, k1, m.an.l⟩, ⟨A2, m.au.n, k2, m.au.l⟩, ⟨A3, m.ex.n, k3, m.ex.l⟩⟩ : Mg).val) (results_one rfl _ _ (w.heap.size + 1) 26 _ _ rfl hF Tryd.underlying26 rfl sizeMsg) rfl ⟨(⟨m.id, m.reply, m.op, m.aa, m.tc, m.rd, m.ra, m.z, m.rc, ⟨A0, m.q.n, k0, m.q.l⟩, ⟨A1, m.an.n, k1, m.an.l⟩, ⟨A2, m.au.n, k2, m.au.l⟩, ⟨A3, m.ex.n, k3, m.ex.l⟩⟩ : Mg), rfl, ⟨rfl, rfl, rfl, rfl, rfl, rfl, rfl, rfl, rfl, ⟨rfl, rfl⟩, ⟨rfl, rfl⟩, ⟨rfl, rfl⟩, ⟨rfl, rfl⟩⟩, ⟨HO.out.id, HO.out.op, HO.out.z, HO.out.rc, ⟨rd_own (own_kept_low HO0.out hlow hg), HO.out.q.ok⟩, ⟨rd_own (own_kept_low HO1.out hlow hg), HO.out.an.ok⟩, ⟨rd_own (own_kept_low HO2.out hlow hg), HO.out.au.ok⟩, ⟨rd_own (own_kept_low HO3.out hlow hg), HO.out.ex.ok⟩⟩, Below.grown HB.out hg HB.out.size (fun j hj => by cases hj; omega)⟩
end Go.Proofs.YtdjknikkiojfhaaDoor
