import Derived.Test.YtdjknikkiojfhaaDoorZPZ
import Derived.Deep.RegionLaw
import Derived.Deep.CutRange
/- message.bytes: the walk. -/
namespace Go.Proofs.YtdjknikkiojfhaaDoor
open Go.RowKit Go.HL Go.Maps
set_option linter.unusedVariables false
set_option linter.unusedSimpArgs false
/-- A message that may be. -/
structure Mg.good (m : Mg) : Prop where
  op : m.op ≤ 15
  z : m.z ≤ 7
  rc : m.rc ≤ 15
  q : m.q.n ≤ 4096
  p : ∀ p, p < 3 → (m.part p).n ≤ 4096
  qs : ∀ x ∈ m.q.l, isNm x.nm = true
  rs : ∀ p, p < 3 → ∀ x ∈ (m.part p).l, okD x
/-- What holds while a head is written. -/
structure Hs (W : World) (l : List UInt8) (A : Option Addr) (n c : Nat) (wr : World) : Prop where
  own : wr.ownsRow W.heap.size 5 1 (.slice A n c) n (bs l)
  B : Below W.heap.size W wr
  bd : n ≤ 12
theorem Hs.num {W wr : World} {l : List UInt8} {A : Option Addr} {n c : Nat} (h : Hs W l A n c wr) (hn : l.length ≤ 10) (v : Int) (hv : 0 ≤ v ∧ v < 65536) : Calls Tryd.prog 38 #[.slice A n c, .int .u16 v] wr fun e w' => ∃ A' n' c', e = .returned (.slice A' n' c') ∧ Hs W (l ++ be 2 v) A' n' c' w' := by
  have hr := rd_own h.own
  have hl := hr.blen
  have hz := h.B.size
  refine (put16 A n c v hv.1 hv.2 (by omega) wr (bs l) hr).mono ?_
  rintro e w5 ⟨sv, rfl, ho, hb⟩
  rw [← bs_append] at ho
  obtain ⟨A', c', rfl, -⟩ := own_rd ho
  exact ⟨A', n + 2, c', rfl, own_lower ho hz, below_trans h.B hb, by omega⟩
theorem Hs.nil (W : World) (wr : World) (hb : Below W.heap.size W wr) : Hs W [] none 0 0 wr := ⟨World.ownsRow_nil _ _ _ _, hb, by omega⟩
theorem Hs.below {W wr w' : World} {l : List UInt8} {A : Option Addr} {n c : Nat} (h : Hs W l A n c wr) (hb : Below wr.heap.size wr w') : Hs W l A n c w' := ⟨own_below h.own hb, below_trans h.B hb, h.bd⟩
theorem Hs.table {W wr : World} {l : List UInt8} {A : Option Addr} {n c : Nat} (h : Hs W l A n c wr) : Bs W (wr.heap.size + 1) wr.heap.size l [] A n c c 12 0 ((wr.alloc (.map #[] 0)).alloc (.cells #[.map (some wr.heap.size)] 119)) := by
  have hz := h.B.size
  have hb := Made.below wr
  have hG := Blk.new (wr.alloc (.map #[] 0)) 119 #[.map (some wr.heap.size)]
  rw [World.size_alloc] at hG
  exact ⟨Made.new wr, own_below h.own hb, (rd_own h.own).le, Nat.le_refl _, hG, below_trans h.B hb, by omega, hz, h.bd, by simp⟩
/-- The parts that were written. -/
def partsB (m : Mg) (p : Nat) : List UInt8 × Tb := (List.range p).foldl (fun s j => (m.part j).l.foldl encR s) (m.q.l.foldl encQ (headB m, []))
theorem partsB_s (m : Mg) (p : Nat) : partsB m (p + 1) = (m.part p).l.foldl encR (partsB m p) := by unfold partsB; rw [List.range_succ, List.foldl_append]; rfl
theorem fold_take {α β : Type} (f : β → α → β) (s : β) (l : List α) (k : Nat) (x : α) (h : l[k]? = some x) : (l.take (k + 1)).foldl f s = f ((l.take k).foldl f s) x := by
  rw [List.take_add_one, h, List.foldl_append]
  rfl
theorem idx0 (g : Nat) (w : World) : (Instr.index 66 (partsV g) (.int .i64 0)).run Tryd.prog w = .ok (.pointer (some ⟨g, 10, none⟩)) w := by kernel_rfl
theorem idx1 (g : Nat) (w : World) : (Instr.index 66 (partsV g) (.int .i64 1)).run Tryd.prog w = .ok (.pointer (some ⟨g, 11, none⟩)) w := by kernel_rfl
theorem idx2 (g : Nat) (w : World) : (Instr.index 66 (partsV g) (.int .i64 2)).run Tryd.prog w = .ok (.pointer (some ⟨g, 12, none⟩)) w := by kernel_rfl
/-- append, as one step of a region that draws. -/
theorem step_app {P : Program} {ops : Array Oper} {o : Oper} {a : Act} {K : Act → World → Prop} {Q : Exit → Act → World → Prop} {E : Prop} (w0 w : World) (base : Nat) (hgd : o.guard = none) (s x : Operand) (t tx e : TypeId) (z : Value) (size bytes : Nat)
    (ho : o.op = .call { callee := .builtin .append, args := #[s, x], argTypes := #[t, tx] })
    (ht : P.underlying t = some (.slice e)) (hinfo : (P.info? e).map (fun i => (i.zero, i.size, i.bytes)) = some (some z, size, bytes)) (hz : z.cells.size = size) (hs0 : 0 < size) (hb0 : 0 < bytes)
    (v : Value) (n : Nat) (cs : List Value) (hs : a.eval s = v) (happ : App w base e size v n cs) (y : Value) (m : Nat) (news : List Value) (hx : a.eval x = y) (hadd : Add P w size t tx y m news)
    (HB : Below base w0 w) (hbase : base ≤ w.heap.size) (hbytes : (n + m) * bytes ≤ 140737488355328)
    (hK : ∀ v1 w1, ((m = 0 ∧ v1 = v ∧ w1 = w) ∨ w1.ownsRow base e size v1 (n + m) (cs ++ news)) → (0 < m ∨ w.ownsRow base e size v n cs → w1.ownsRow base e size v1 (n + m) (cs ++ news)) → Below base w0 w1 → w.grownBy w1 v.ownBlock → K (a.put o.dst v1) w1) :
    if Region.wanted o (yielded ops a.tmps) = true then Oper.wp P o a w K Q else E := by
  have hw : Region.wanted o (yielded ops a.tmps) = true := by simp [Region.wanted, hgd]
  rw [if_pos hw]
  obtain ⟨v1, w1, hr, h1, h2, h3, h4⟩ := run_app (P := P) (w0 := w0) w base t tx e o.type z size bytes ht hinfo hz hs0 hb0 v n cs happ y m news hadd HB hbase hbytes
  unfold Oper.wp execOp
  simp only [ho, resolve, invoke, builtin, Sem.run_bind, Sem.run_pure, Result.andThen_ok, List.map_toArray, List.map_cons, List.map_nil, hs, hx, hr]
  exact hK v1 w1 h1 h2 h3 h4
/-- What holds of the rounds over a part's records. -/
def RecI (w : World) (gt bm : Nat) (s : Sl) (l : List UInt8) (tab : Tb) (p : Nat) (v i : Value) (wr : World) : Prop :=
  ∃ (k : Nat) (l1 : List UInt8) (tab1 : Tb) (A : Option Addr) (n c cc : Nat), k ≤ s.n ∧ i = .int .i64 k ∧ v = .slice A n cc ∧ Hid ((s.l.take k).foldl encR (l, tab) = (l1, tab1)) ∧ Bs w gt bm l1 tab1 A n c cc (2000000 + 1884160000 * p + 460000 * k) (2000000 + 8601600 * p + 2100 * k) wr
theorem two_one : ∀ u ∈ ([.int .u8 0, .int .u8 0] : List Value), u.oneCell' = true := by decide
def MsgR (w : World) (l : List UInt8) (e : Ending) (w' : World) : Prop := ∃ A n c, e = .returned (.slice A n c) ∧ Rd w' 1 A n c (bs l) ∧ Below w.heap.size w w'
set_option maxRecDepth 8000 in
set_option maxHeartbeats 8000000 in
theorem bytes_ (w : World) (g : Nat) (m : Mg) (hm : Blk w g 26 m.cells) (ho : m.ok w) (hg : m.good) (hK : Kd w) : Calls Tryd.prog 17 #[.pointer (some ⟨g, 0, none⟩)] w (MsgR w (msgB m)) := by
  have c0 := hm.cell 0 _ rfl
  have c9 := hm.cell 9 _ rfl
  have c10 := hm.cell 10 _ rfl
  have c11 := hm.cell 11 _ rfl
  have c12 := hm.cell 12 _ rfl
  have hid := ho.id
  have HF := fun W (hb : Below w.heap.size w W) => flags_ W g m (hm.below hb) ⟨ho.op.1, hg.op⟩ ⟨ho.z.1, hg.z⟩ ⟨ho.rc.1, hg.rc⟩
  have hfl : 0 ≤ flagsV m ∧ flagsV m < 65536 := by
    have b1 := bitV_bd m.reply
    have b2 := bitV_bd m.aa
    have b3 := bitV_bd m.tc
    have b4 := bitV_bd m.rd
    have b5 := bitV_bd m.ra
    have := ho.op.1
    have := hg.op
    have := ho.z.1
    have := hg.z
    have := ho.rc.1
    have := hg.rc
    unfold flagsV
    omega
  have hq := hg.q
  have hp0 : m.an.n ≤ 4096 := hg.p 0 (by omega)
  have hp1 : m.au.n ≤ 4096 := hg.p 1 (by omega)
  have hp2 : m.ex.n ≤ 4096 := hg.p 2 (by omega)
  have HFL := Lib.hid hfl
  obtain ⟨fl, hfe⟩ : ∃ x, flagsV m = x := ⟨_, rfl⟩
  rw [hfe] at hfl
  have HFE := Lib.hid hfe
  have HO := Lib.hid ho
  have HG := Lib.hid hg
  have HK := Lib.hid hK
  have HM := Lib.hid hm
  have HS := Lib.hid (Hs.nil w w (Below.refl _ _))
  obtain ⟨R, hR⟩ : ∃ R, MsgR w (msgB m) = R := ⟨_, rfl⟩
  rw [hR]
  have HR := Lib.hid hR
  simp only [hfe] at HF
  clear hR ho hg hK hm hfe
  go_enter Tryd.func17, Tryd.ntmps17
  go_upto_region 5 with (first
    | (go_at_call 38; refine (HS.out.num (by simp [be_length]) m.id (by omega)).mono ?_; rintro e W1 ⟨A1, n1, c1, rfl, hS1⟩; clear c0; have HS1 := Lib.hid hS1; clear hS1 HS hid)
    | (go_at_call 39; refine (HF _ HS1.out.B).mono ?_; clear HF; rintro e W2 ⟨rfl, hb2⟩; have HS2 := Lib.hid (HS1.out.below hb2); clear hb2 HS1)
    | (go_at_call 38; refine (HS2.out.num (by simp [be_length]) fl (by omega)).mono ?_; rintro e W3 ⟨A3, n3, c3, rfl, hS3⟩; have HS3 := Lib.hid hS3; clear c9; have c9 := (HM.out.below hS3.B).cell 9 _ rfl; clear hS3 HS2)
    | (go_at_call 38; refine (HS3.out.num (by simp [be_length]) (m.q.n : Int) (by omega)).mono ?_; rintro e W4 ⟨A4, n4, c4, rfl, hS4⟩; have HS4 := Lib.hid hS4; clear c9 hS4 HS3)
    | (go_at_call 26; refine (parts_ _ g).mono ?_; rintro e W5 ⟨rfl, hb5⟩; have HS5 := Lib.hid (HS4.out.below hb5); clear hb5 HS4 c10 c11 c12; have hM := HM.out.below HS5.out.B; have c9 := hM.cell 9 _ rfl; have c10 := hM.cell 10 _ rfl; have c11 := hM.cell 11 _ rfl; have c12 := hM.cell 12 _ rfl; clear hM))
  have hx0 := idx0 g
  have hx1 := idx1 g
  have hx2 := idx2 g
  refine wp_loop_rounds 4 ?_
  rw [rounds_succ]
  go_wp2_with (go_at_call 38; refine (HS5.out.num (by simp [be_length]) (m.an.n : Int) (by omega)).mono ?_; rintro e W6 ⟨A6, n6, c6, rfl, hS6⟩; clear HS5 c9 c10 c11 c12; have HS6 := Lib.hid hS6; clear hS6; have hM := HM.out.below HS6.out.B; have c9 := hM.cell 9 _ rfl; have c10 := hM.cell 10 _ rfl; have c11 := hM.cell 11 _ rfl; have c12 := hM.cell 12 _ rfl; clear hM; have HS5 := HS6; clear HS6)
  rw [rounds_succ]
  go_wp2_with (go_at_call 38; refine (HS5.out.num (by simp [be_length]) (m.au.n : Int) (by omega)).mono ?_; rintro e W6 ⟨A6, n6, c6, rfl, hS6⟩; clear HS5 c9 c10 c11 c12; have HS6 := Lib.hid hS6; clear hS6; have hM := HM.out.below HS6.out.B; have c9 := hM.cell 9 _ rfl; have c10 := hM.cell 10 _ rfl; have c11 := hM.cell 11 _ rfl; have c12 := hM.cell 12 _ rfl; clear hM; have HS5 := HS6; clear HS6)
  rw [rounds_succ]
  go_wp2_with (go_at_call 38; refine (HS5.out.num (by simp [be_length]) (m.ex.n : Int) (by omega)).mono ?_; rintro e W6 ⟨A6, n6, c6, rfl, hS6⟩; clear HS5 c9 c10 c11 c12; have HS6 := Lib.hid hS6; clear hS6; have hM := HM.out.below HS6.out.B; have c9 := hM.cell 9 _ rfl; have c10 := hM.cell 10 _ rfl; have c11 := hM.cell 11 _ rfl; have c12 := hM.cell 12 _ rfl; clear hM; have HS5 := HS6; clear HS6)
  rw [rounds_succ]
  clear hx0 hx1 hx2
  go_wp2_with (go_at_call 40; refine (new_ _).mono ?_; rintro e W9 ⟨rfl, hW9⟩; have hT := HS5.out.table; rw [← hW9] at hT; clear hW9 HS5 c9 c10 c11 c12; have HT := Lib.hid hT; have c9 := (HM.out.below hT.B).cell 9 _ rfl; clear hT)
  obtain ⟨gt, hgt⟩ : ∃ x, W6.heap.size + 1 = x := ⟨_, rfl⟩
  rw [hgt] at HT ⊢
  have HT2 : Hid (Bs w gt W6.heap.size (headB m) [] A6 n6 c6 c6 12 0 W9) := by
    have h := HT.out
    rw [← HFE.out] at h
    exact Lib.hid h
  obtain ⟨bm, hbm⟩ : ∃ x, W6.heap.size = x := ⟨_, rfl⟩
  rw [hbm] at HT2
  clear HT hgt hbm
  go_loopw [3, 51] (fun v i wr => ∃ (k : Nat) (l : List UInt8) (tab : Tb) (A : Option Addr) (n c cc : Nat), k ≤ m.q.n ∧ i = .int .i64 k ∧ v = .slice A n cc ∧ Hid ((m.q.l.take k).foldl encQ (headB m, []) = (l, tab)) ∧ Bs w gt bm l tab A n c cc (12 + 300 * k) (300 * k) wr) (fun _ i _ => m.q.n - (intOf i).toNat)
  case atStart => exact ⟨0, headB m, [], A6, n6, c6, c6, Nat.zero_le _, rfl, rfl, Lib.hid rfl, HT2.out⟩
  case round =>
    obtain ⟨k, l, tab, A, n, c, cc, hk, rfl, rfl, HE, hB⟩ := hrel
    by_cases hlt : k < m.q.n
    · obtain ⟨x, hx⟩ : ∃ x, m.q.l[k]? = some x := ⟨_, List.getElem?_eq_getElem (by rw [HO.out.q.len]; exact hlt)⟩
      have hxo := HO.out.q.ok x (List.mem_of_getElem? hx)
      have hnm := HG.out.qs x (List.mem_of_getElem? hx)
      have hst := fold_take encQ (headB m, []) m.q.l k x hx
      rw [HE.out] at hst
      have hq4 := HO.out.q.r
      cases hA : m.q.a with
      | none => have := (hq4.nil_ hA).1; omega
      | some aq =>
      rw [hA] at hq4
      have hcb : Cells wr (aq.add (k * 3)) [.string x.nm, .int .u16 x.ty, .int .u16 x.cl] := Rd.que (hq4.below (hB.B)) k x hx
      have hki : (k : Int) < (m.q.n : Int) := by omega
      have hB1 := hB.below (below_new wr (.cells #[.string x.nm, .int .u16 x.ty, .int .u16 x.cl] 55))
      have hX1 := Blk.new wr 55 #[.string x.nm, .int .u16 x.ty, .int .u16 x.cl]
      have HB := Lib.hid hB1
      have HX := Lib.hid hX1
      have HST := Lib.hid hst
      have HNM := Lib.hid hnm
      have HXO := Lib.hid hxo
      have HLT := Lib.hid hlt
      clear hB hst hxo hnm hq4 hx hA hlt HE hB1 hX1
      have hX := HX.out
      have x0 := hX.cell 0 _ rfl
      have x1 := hX.cell 1 _ rfl
      have x2 := hX.cell 2 _ rfl
      clear hX
      go_upto_region 14 with (first
        | (refine wpList_getAt rfl 55 (.tmp 53) rfl (aq.add (k * 3)) rfl [.string x.nm, .int .u16 x.ty, .int .u16 x.cl] _ hcb Tryd.underlying55 rfl sizeQue ?_)
        | (go_at_call 41; refine (HB.out.name (by omega) (by omega) x.nm HNM.out).mono ?_; rintro e W5 ⟨a5, b5, rfl, A5, n5, c5, rfl, rfl, hB5, hk5⟩; replace HB := Lib.hid hB5; replace HX := Lib.hid (hk5 _ _ _ (by decide) HX.out); clear hB5 hk5 x0 x1 x2 hcb; have hX := HX.out; have x0 := hX.cell 0 _ rfl; have x1 := hX.cell 1 _ rfl; have x2 := hX.cell 2 _ rfl; clear hX))
      replace HB := Lib.hid HB.out.drew
      replace HX := Lib.hid (show Blk W5.drew wr.heap.size 55 [.string x.nm, .int .u16 x.ty, .int .u16 x.cl] from HX.out)
      clear x0 x1 x2
      have hX := HX.out
      have x0 := hX.cell 0 _ rfl
      have x1 := hX.cell 1 _ rfl
      have x2 := hX.cell 2 _ rfl
      clear hX
      go_region_law (go_simp; go_at_call 38; refine (HB.out.num16 (by omega) _ (by first | exact HXO.out.ty | exact HXO.out.cl)).mono ?_; rintro e W6 ⟨A6, n6, c6, rfl, hB6, hk6⟩; replace HB := Lib.hid hB6; replace HX := Lib.hid (hk6 _ _ _ (by decide) HX.out); clear hB6 hk6 x0 x1 x2; have hX := HX.out; have x0 := hX.cell 0 _ rfl; have x1 := hX.cell 1 _ rfl; have x2 := hX.cell 2 _ rfl; clear hX)
      all_goals
        go_wp2
        go_roundw
        case rel => exact ⟨k + 1, _, _, _, _, _, _, HLT.out, by go_num, rfl, Lib.hid HST.out, HB.out.weak (by omega) (by omega)⟩
        case measure => simp [intOf]; omega
    · obtain rfl : k = m.q.n := by omega
      rw [List.take_of_length_le (by rw [HO.out.q.len]; omega)] at HE
      have HB0 := Lib.hid hB
      have HE0 := HE
      clear hlt HE hB HT2 c9
      go_wp2_with (go_at_call 26; refine (parts_ _ g).mono ?_; rintro e W5 ⟨rfl, hb5⟩; have HB1 := Lib.hid (HB0.out.below hb5); clear hb5 HB0)
      go_loopw [3, 73] (fun v i wr => ∃ (p : Nat) (l : List UInt8) (tab : Tb) (A : Option Addr) (n c cc : Nat), p ≤ 3 ∧ i = .int .i64 p ∧ v = .slice A n cc ∧ Hid (partsB m p = (l, tab)) ∧ Bs w gt bm l tab A n c cc (2000000 + 1884160000 * p) (2000000 + 8601600 * p) wr) (fun _ i _ => 3 - (intOf i).toNat)
      case atStart => exact ⟨0, l, tab, A, n, c, cc, by omega, rfl, rfl, Lib.hid HE0.out, HB1.out.weak (by omega) (by omega)⟩
      case round =>
        clear HB1 HE0
        obtain ⟨p, l, tab, A, n, c, cc, hp, rfl, rfl, HE, hB⟩ := hrel
        by_cases hlt : p < 3
        · have hpi : (p : Int) < 3 := by omega
          have hidx := fun w => parts_idx g p hlt w
          have hcp := (HM.out.below hB.B).cell (10 + p) _ (m.part_cell p hlt)
          have hpo := Mg.part_ok HO.out p
          have hpn := HG.out.p p hlt
          have hrs := HG.out.rs p hlt
          have hps := partsB_s m p
          rw [HE.out] at hps
          obtain ⟨s, hs⟩ : ∃ s, m.part p = s := ⟨_, rfl⟩
          rw [hs] at hcp hpo hpn hrs hps
          have HPO := Lib.hid hpo
          have HRS := Lib.hid hrs
          have HPS := Lib.hid hps
          have HB1 := Lib.hid hB
          have HLT3 := Lib.hid hlt
          have HP3 := Lib.hid hp
          clear hpo hrs hps hs hlt HE hB hp
          go_wp2
          clear hcp
          go_loopw [3, 80] (fun v i wr => RecI w gt bm s l tab p v i wr) (fun _ i _ => s.n - (intOf i).toNat)
          case atStart => exact ⟨0, l, tab, A, n, c, cc, Nat.zero_le _, rfl, rfl, Lib.hid rfl, HB1.out.weak (by omega) (by omega)⟩
          case round =>
            clear HB1
            obtain ⟨k, l1, tab1, A, n, c, cc, hk, rfl, rfl, HE, hB⟩ := hrel
            have hp3 := HLT3.out
            by_cases hlt : k < s.n
            · obtain ⟨x, hx⟩ : ∃ x, s.l[k]? = some x := ⟨_, List.getElem?_eq_getElem (by rw [HPO.out.len]; exact hlt)⟩
              have hxd := HRS.out x (List.mem_of_getElem? hx)
              have hst := fold_take encR (l, tab) s.l k x hx
              rw [HE.out] at hst
              have hq4 := HPO.out.r
              cases hA : s.a with
              | none => have := (hq4.nil_ hA).1; omega
              | some aq =>
              rw [hA] at hq4
              have hcb : Cells wr (aq.add (k * 12)) [.string x.nm, .int .u16 x.ty, .int .u16 x.cl, .int .u32 x.ttl, .string x.raw, .string x.host, .string x.mail, .int .u32 x.n0, .int .u32 x.n1, .int .u32 x.n2, .int .u32 x.n3, .int .u32 x.n4] := Rd.rec (hq4.below (hB.B)) k x hx
              have hki : (k : Int) < (s.n : Int) := by omega
              have hB1 := hB.below (below_new wr (.cells #[.string x.nm, .int .u16 x.ty, .int .u16 x.cl, .int .u32 x.ttl, .string x.raw, .string x.host, .string x.mail, .int .u32 x.n0, .int .u32 x.n1, .int .u32 x.n2, .int .u32 x.n3, .int .u32 x.n4] 46))
              have hX1 := Blk.new wr 46 #[.string x.nm, .int .u16 x.ty, .int .u16 x.cl, .int .u32 x.ttl, .string x.raw, .string x.host, .string x.mail, .int .u32 x.n0, .int .u32 x.n1, .int .u32 x.n2, .int .u32 x.n3, .int .u32 x.n4]
              have HB := Lib.hid hB1
              have HX := Lib.hid hX1
              have HST := Lib.hid hst
              have HXD := Lib.hid hxd
              have HLT := Lib.hid hlt
              have hll : (recB (l1, tab1) x).length = (recB (l1, tab1) x).length := rfl
              clear hB hst hxd hq4 hx hA hlt HE hB1 hX1 hll
              have hX := HX.out
              have x0 := hX.cell 0 _ rfl
              clear hX
              go_upto_region 23 with (first
                | (refine wpList_getAt rfl 46 (.tmp 82) rfl (aq.add (k * 12)) rfl [.string x.nm, .int .u16 x.ty, .int .u16 x.cl, .int .u32 x.ttl, .string x.raw, .string x.host, .string x.mail, .int .u32 x.n0, .int .u32 x.n1, .int .u32 x.n2, .int .u32 x.n3, .int .u32 x.n4] _ hcb Tryd.underlying46 rfl sizeRec ?_)
                | (go_at_call 41; refine (HB.out.name (by omega) (by omega) x.nm HXD.out.nm).mono ?_; rintro e W5 ⟨a5, b5, rfl, A5, n5, c5, rfl, rfl, hB5, hk5⟩; replace HB := Lib.hid hB5; replace HX := Lib.hid (hk5 _ _ _ (by decide) HX.out); clear hB5 hk5 x0 hcb))
              have hbx : wr.heap.size < W5.heap.size := HX.out.lt
              obtain ⟨b, hb⟩ : ∃ b, wr.heap.size = b := ⟨_, rfl⟩
              rw [hb] at HX hbx ⊢
              clear hb
              have HW5 := Lib.hid hbx
              go_cut [3, 80] from 81 to 133 (fun v i wx => i = .int .i64 (k : Int) ∧ ∃ A6 n6 c6, v = .slice A6 n6 c6 ∧ Hid (Bs w gt bm (recB (l1, tab1) x) (en false tab1 (lsOf x.nm) l1.length).2 A6 n6 c6 c6 (2000000 + 1884160000 * p + 460000 * k + 300) (2000000 + 8601600 * p + 2100 * k + 255) wx) ∧ Hid (Blk wx b 46 [.string x.nm, .int .u16 x.ty, .int .u16 x.cl, .int .u32 x.ttl, .string x.raw, .string x.host, .string x.mail, .int .u32 x.n0, .int .u32 x.n1, .int .u32 x.n2, .int .u32 x.n3, .int .u32 x.n4]))
              case first =>
                replace HB := Lib.hid HB.out.drew
                replace HX := Lib.hid (show Blk W5.drew b 46 [.string x.nm, .int .u16 x.ty, .int .u16 x.cl, .int .u32 x.ttl, .string x.raw, .string x.host, .string x.mail, .int .u32 x.n0, .int .u32 x.n1, .int .u32 x.n2, .int .u32 x.n3, .int .u32 x.n4] from HX.out)
                have hX := HX.out
                have x1 := hX.cell 1 _ rfl
                have x2 := hX.cell 2 _ rfl
                have x3 := hX.cell 3 _ rfl
                clear hX
                go_region_law (first
                  | (go_simp; go_at_call 38; refine (HB.out.num16 (by omega) _ (by first | exact HXD.out.ok.ty | exact HXD.out.ok.cl)).mono ?_; rintro e W6 ⟨A6, n6, c6, rfl, hB6, hk6⟩; replace HB := Lib.hid hB6; replace HX := Lib.hid (hk6 _ _ _ (by decide) HX.out); clear hB6 hk6 x1 x2 x3; have hX := HX.out; have x1 := hX.cell 1 _ rfl; have x2 := hX.cell 2 _ rfl; have x3 := hX.cell 3 _ rfl; clear hX)
                  | (go_simp; go_at_call 42; refine (HB.out.num32 (by omega) _ HXD.out.ok.ttl).mono ?_; rintro e W6 ⟨A6, n6, c6, rfl, hB6, hk6⟩; replace HB := Lib.hid hB6; replace HX := Lib.hid (hk6 _ _ _ (by decide) HX.out); clear hB6 hk6 x1 x2 x3; have hX := HX.out; have x1 := hX.cell 1 _ rfl; have x2 := hX.cell 2 _ rfl; have x3 := hX.cell 3 _ rfl; clear hX))
                all_goals
                  go_wp2_with fail
                  go_meet
                  exact ⟨rfl, _, _, _, rfl, Lib.hid (HB.out.weak (by omega) (by omega)), HX⟩
              case rest =>
                clear HB HX hbx HW5
                obtain ⟨rfl, A6, n6, c6, rfl, HB, HX⟩ := hcut
                have HL6 := Lib.hid HB.out.len
                go_upto_region 25 with (fail)
                go_cut [3, 13, 80] from 81 to 133 (fun v a i wx => i = .int .i64 (k : Int) ∧ a = .int .i64 (n6 : Int) ∧ ∃ A7 n7 c7 cc7, v = .slice A7 n7 cc7 ∧ Hid (Bs w gt bm (recD (l1, tab1) x).1 (recD (l1, tab1) x).2.1 A7 n7 c7 cc7 (2000000 + 1884160000 * p + 460000 * k + 460000) (2000000 + 8601600 * p + 2100 * k + 2100) wx))
                case first =>
                  have hn6 := HB.out.bd
                  have HN6 := Lib.hid hn6
                  clear hn6
                  have HBA := Lib.hid (show Bs w gt bm (recB (l1, tab1) x) (en false tab1 (lsOf x.nm) l1.length).2 A6 n6 c6 c6 (2000000 + 1884160000 * p + 460000 * k + 300) (2000000 + 8601600 * p + 2100 * k + 255) (wc.alloc (.cells #[.int .u8 0, .int .u8 0] 5)).drew from (HB.out.below (below_new _ _)).drew)
                  have HXA := Lib.hid (show Blk (wc.alloc (.cells #[.int .u8 0, .int .u8 0] 5)).drew b 46 _ from HX.out.alloc _)
                  have hXY : Blk (wc.alloc (.cells #[.int .u8 0, .int .u8 0] 5)) b 46 _ := HX.out.alloc _
                  have y1 := hXY.cell 1 _ rfl
                  have y4 := hXY.cell 4 _ rfl
                  have y5 := hXY.cell 5 _ rfl
                  have y6 := hXY.cell 6 _ rfl
                  have y7 := hXY.cell 7 _ rfl
                  have y8 := hXY.cell 8 _ rfl
                  have y9 := hXY.cell 9 _ rfl
                  have y10 := hXY.cell 10 _ rfl
                  have y11 := hXY.cell 11 _ rfl
                  clear hXY
                  have HRA := Lib.hid (show Rd (wc.alloc (.cells #[.int .u8 0, .int .u8 0] 5)).drew 1 (some ⟨wc.heap.size, 0, none⟩) 2 2 [.int .u8 0, .int .u8 0] from (two_rd wc 0 0).drew)
                  replace HB := Lib.hid HB.out.drew
                  replace HX := Lib.hid (show Blk wc.drew b 46 [.string x.nm, .int .u16 x.ty, .int .u16 x.cl, .int .u32 x.ttl, .string x.raw, .string x.host, .string x.mail, .int .u32 x.n0, .int .u32 x.n1, .int .u32 x.n2, .int .u32 x.n3, .int .u32 x.n4] from HX.out)
                  have hX := HX.out
                  have x1 := hX.cell 1 _ rfl
                  have x4 := hX.cell 4 _ rfl
                  have x5 := hX.cell 5 _ rfl
                  have x6 := hX.cell 6 _ rfl
                  have x7 := hX.cell 7 _ rfl
                  have x8 := hX.cell 8 _ rfl
                  have x9 := hX.cell 9 _ rfl
                  have x10 := hX.cell 10 _ rfl
                  have x11 := hX.cell 11 _ rfl
                  clear hX
                  go_region_law (first
                    | (refine step_app w ((wc.alloc (.cells #[.int .u8 0, .int .u8 0] 5)).drew) w.heap.size rfl _ _ 27 27 5 (.int .u8 0) 1 1 rfl Tryd.underlying27 info_u8 rfl (by omega) (by omega) (.slice A6 n6 c6) n6 (bs (recB (l1, tab1) x)) rfl (.own HBA.out.own) (.slice (some ⟨wc.heap.size, 0, none⟩) 2 2) 2 [.int .u8 0, .int .u8 0] rfl (.slice HRA.out two_one) HBA.out.B HBA.out.B.size (by have := HN6.out; omega) ?_; intro v1 w1 hv1 ho1 hb1 hg1; obtain ⟨A7, c7, rfl, hB7, hk7⟩ := HBA.out.two hg1 (by rw [bs_append]; exact ho1 (.inl (by omega))); replace HX := Lib.hid (hk7 _ _ _ (by decide) HXA.out); have HB7 := Lib.hid hB7; clear hv1 ho1 hb1 hg1 hB7 hk7 y1 y4 y5 y6 y7 y8 y9 y10 y11 x1 x4 x5 x6 x7 x8 x9 x10 x11 HB HBA HXA HRA; have hX := HX.out; have x1 := hX.cell 1 _ rfl; have x4 := hX.cell 4 _ rfl; have x5 := hX.cell 5 _ rfl; have x6 := hX.cell 6 _ rfl; have x7 := hX.cell 7 _ rfl; have x8 := hX.cell 8 _ rfl; have x9 := hX.cell 9 _ rfl; have x10 := hX.cell 10 _ rfl; have x11 := hX.cell 11 _ rfl; clear hX)
                    | (go_simp; go_at_call 43; refine (HB7.out.data (by omega) (by omega) x HXD.out (HK.out.below HB7.out.B)).mono ?_; rintro e W8 ⟨a8, b8, rfl, A8, n8, c8, cc8, rfl, rfl, hB8, hk8⟩; have HB8 := Lib.hid hB8; clear hB8 hk8))
                  all_goals
                    go_wp2_with fail
                    go_meet
                    exact ⟨rfl, rfl, _, _, _, _, rfl, Lib.hid (HB8.out.weak (by omega) (by omega))⟩
                case rest =>
                  clear HB HX
                  obtain ⟨rfl, rfl, A7, n7, c7, cc7, rfl, HB⟩ := hcut
                  have hl7 := HB.out.len
                  have hl6 := HL6.out
                  have hsz := (encs_len x.dt (formV x.ty) (recB (l1, tab1) x ++ [0, 0], (en false tab1 (lsOf x.nm) l1.length).2, 0) (fun c hc => okF_need HXD.out.dt c hc)).1
                  have hge : n6 + 2 ≤ n7 := by
                    have e : ((formV x.ty).foldl (encL x.dt) (recB (l1, tab1) x ++ [0, 0], (en false tab1 (lsOf x.nm) l1.length).2, 0)) = recD (l1, tab1) x := rfl
                    rw [e, hl7] at hsz
                    simp only [List.length_append, List.length_cons, List.length_nil] at hsz
                    omega
                  obtain ⟨g7, rfl⟩ : ∃ g7, A7 = some ⟨g7, 0, none⟩ := by
                    rcases HB.out.own.2 with ⟨hv, _⟩ | ⟨g8, cap, cur, hv, _⟩
                    · cases hv; omega
                    · cases hv; exact ⟨g8, rfl⟩
                  have f0 := own_free HB.out.own n6
                  have f1 := own_free HB.out.own (n6 + 1)
                  obtain ⟨y0, hy0⟩ : ∃ y, (bs (recD (l1, tab1) x).1)[n6]? = some y := ⟨_, List.getElem?_eq_getElem (by rw [bs_length, hl7]; omega)⟩
                  obtain ⟨y1, hy1⟩ : ∃ y, (bs (recD (l1, tab1) x).1)[n6 + 1]? = some y := ⟨_, List.getElem?_eq_getElem (by rw [bs_length, hl7]; omega)⟩
                  have s0 := own_cellj HB.out.own n6 y0 hy0
                  have s1 := own_cellj HB.out.own (n6 + 1) y1 hy1
                  clear hy0 hy1
                  have hbd := HB.out.bd
                  have HBD := Lib.hid hbd
                  have HL7 := Lib.hid hl7
                  have hi1 : (n6 : Int) < (n7 : Int) := by omega
                  have hi2 : (n6 : Int) + 1 < (n7 : Int) := by omega
                  have hi3 : n7 ≤ 12000000000 := by omega
                  have hfin := (HB.out.put n6 (byteAt (recN (l1, tab1) x) 1) (by omega)).put (n6 + 1) (byteAt (recN (l1, tab1) x) 0) (by omega)
                  rw [byteAt_toNat, byteAt_toNat, show recN (l1, tab1) x = (n7 : Int) - (n6 : Int) - 2 by unfold recN; rw [hl7, hl6], show (256 : Int) ^ 1 = 256 from rfl, show (256 : Int) ^ 0 = 1 from rfl, Int.ediv_one] at hfin
                  have HFIN := Lib.hid hfin
                  have hge' : (n6 : Int) + 2 ≤ (n7 : Int) := by omega
                  have HGE := Lib.hid hge
                  clear hl7 hl6 hsz hbd hfin hge
                  go_wp2
                  go_roundw
                  case rel =>
                    have hst := HST.out
                    have hfin := HFIN.out
                    rw [show encR (l1, tab1) x = (((recD (l1, tab1) x).1.set n6 (byteAt ((n7 : Int) - (n6 : Int) - 2) 1)).set (n6 + 1) (byteAt ((n7 : Int) - (n6 : Int) - 2) 0), (recD (l1, tab1) x).2.1) by unfold encR recN; rw [HL6.out, HL7.out]] at hst
                    have hR : RecI w gt bm s l tab p (.slice (some ⟨g7, 0, none⟩) n7 cc7) (.int .i64 ((k : Int) + 1)) ((wc.setCell ⟨g7, n6, none⟩ (.int .u8 (((n7 : Int) - (n6 : Int) - 2) / 256 % 256))).setCell ⟨g7, n6 + 1, none⟩ (.int .u8 (((n7 : Int) - (n6 : Int) - 2) % 256))) := ⟨k + 1, _, _, _, _, _, _, HLT.out, by go_num, rfl, Lib.hid hst, hfin.weak (by omega) (by omega)⟩
                    exact hR
                  case measure => simp [intOf]; omega
            · obtain rfl : k = s.n := by omega
              rw [List.take_of_length_le (by rw [HPO.out.len]; omega)] at HE
              have hps := HPS.out
              rw [HE.out] at hps
              have HPS2 := Lib.hid hps
              have HB9 := Lib.hid hB
              clear hB HE hlt hps
              go_wp2
              go_roundw
              case rel => exact ⟨p + 1, l1, tab1, A, n, c, cc, hp3, by go_num, rfl, HPS2, HB9.out.weak (by omega) (by omega)⟩
              case measure => simp [intOf]; omega
        · obtain rfl : p = 3 := by omega
          have hmb : msgB m = l := congrArg Prod.fst HE.out
          have HB9 := Lib.hid hB
          have HMB := Lib.hid hmb
          clear hB HE hlt hmb
          go_wp2
          rw [← HR.out]
          exact ⟨A, n, cc, rfl, by rw [HMB.out]; exact HB9.out.rd, HB9.out.B⟩
end Go.Proofs.YtdjknikkiojfhaaDoor
