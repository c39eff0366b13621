import Derived.Test.YtdjknikkiojfhaaDoorZMA
import Derived.Test.YtdjknikkiojfhaaDoorZRDF
import Derived.Test.YtdjknikkiojfhaaDoorZHQ
/- message.wrong: why a message may not be. -/
namespace Go.Proofs.YtdjknikkiojfhaaDoor
open Go.RowKit Go.HL Go.Maps
set_option linter.unusedVariables false
set_option linter.unusedSimpArgs false
def badQ (l : List Qn) : Bool := l.any fun q => !isNm q.nm
def badN (l : List Rc) : Bool := l.any fun r => !isNm r.nm
def badD (l : List Rc) : Bool := l.any fun r => !okF (formV r.ty) r.dt
theorem any_take {α : Type} (l : List α) (f : α → Bool) (k : Nat) (x : α) (h : l[k]? = some x) : (l.take (k + 1)).any f = ((l.take k).any f || f x) := by
  rw [List.take_add_one, h, List.any_append]
  simp
def longP (m : Mg) (p : Nat) : Bool := decide (4096 < m.q.n) || (List.range p).any fun j => decide (4096 < (m.part j).n)
def namesP (m : Mg) (p : Nat) : Bool := badQ m.q.l || (List.range p).any fun j => badN (m.part j).l
def dataP (m : Mg) (p : Nat) : Bool := (List.range p).any fun j => badD (m.part j).l
theorem longP_s (m : Mg) (p : Nat) : longP m (p + 1) = (longP m p || decide (4096 < (m.part p).n)) := by unfold longP; rw [List.range_succ, List.any_append]; simp [Bool.or_assoc]
theorem namesP_s (m : Mg) (p : Nat) : namesP m (p + 1) = (namesP m p || badN (m.part p).l) := by unfold namesP; rw [List.range_succ, List.any_append]; simp [Bool.or_assoc]
theorem dataP_s (m : Mg) (p : Nat) : dataP m (p + 1) = (dataP m p || badD (m.part p).l) := by unfold dataP; rw [List.range_succ, List.any_append]; simp
/-- Why a message may not be. -/
def wrongV (m : Mg) : Int := if 15 < m.op ∨ 7 < m.z ∨ 15 < m.rc then 61 else if longP m 3 then 2 else if namesP m 3 then 11 else if dataP m 3 then 40 else 0
theorem sizeQue : (Tryd.prog.info? 55).map (·.size) = some 3 := by kernel_rfl
theorem sizeDat : (Tryd.prog.info? 44).map (·.size) = some 8 := by kernel_rfl
theorem qns_elem : ∀ (l : List Qn) (i : Nat) (r : Qn), l[i]? = some r → ((qns l).drop (i * 3)).take 3 = r.cells
  | [], i, r, h => by simp at h
  | x :: l, 0, r, h => by
    simp only [List.getElem?_cons_zero, Option.some.injEq] at h
    subst h
    simp [qns, Qn.cells]
  | x :: l, i + 1, r, h => by
    simp only [List.getElem?_cons_succ] at h
    have e : qns (x :: l) = x.cells ++ qns l := by simp [qns]
    rw [e, show (i + 1) * 3 = 3 + i * 3 by omega, show (x.cells ++ qns l).drop (3 + i * 3) = (qns l).drop (i * 3) by rw [List.drop_append]; simp [Qn.cells]]
    exact qns_elem l i r h
theorem Rd.que {w : World} {ad : Addr} {n c : Nat} {l : List Qn} (h : Rd w 3 (some ad) n c (qns l)) (i : Nat) (r : Qn) (hr : l[i]? = some r) : Cells w (ad.add (i * 3)) r.cells := by
  have := ((h.cells ad rfl).drop (i * 3)).take 3
  rwa [qns_elem l i r hr] at this
theorem qns_len (l : List Qn) : (qns l).length = l.length * 3 := by
  induction l with
  | nil => rfl
  | cons x l ih => rw [qns, List.flatMap_cons, List.length_append]; unfold qns at ih; rw [ih]; simp [Qn.cells]; omega
theorem Ql.ok.len {W : World} {s : Ql} (h : s.ok W) : s.l.length = s.n := by
  have h1 := h.r.len
  rw [qns_len] at h1
  omega
/-- The data of a record that lies in a block. -/
theorem blk_data {w : World} {b : Nat} {t : TypeId} {x : Rc} (h : Blk w b t x.cells) : Cells w ⟨b, 4, none⟩ [.string x.raw, .string x.host, .string x.mail, .int .u32 x.n0, .int .u32 x.n1, .int .u32 x.n2, .int .u32 x.n3, .int .u32 x.n4] := fun j u hu => by
  have e : (⟨b, 4, none⟩ : Addr).add j = ⟨b, 4 + j, none⟩ := by unfold Addr.add; split <;> simp_all
  rw [e]
  refine h.cell (4 + j) u ?_
  rw [show x.cells = [.string x.nm, .int .u16 x.ty, .int .u16 x.cl, .int .u32 x.ttl] ++ [.string x.raw, .string x.host, .string x.mail, .int .u32 x.n0, .int .u32 x.n1, .int .u32 x.n2, .int .u32 x.n3, .int .u32 x.n4] from rfl, List.getElem?_append_right (by simp)]
  simpa using hu
set_option maxRecDepth 8000 in
set_option maxHeartbeats 4000000 in
theorem wrong_ (w : World) (g : Nat) (m : Mg) (hm : Blk w g 26 m.cells) (ho : m.ok w) (hfit : m.fit 140737488355328) (hK : Kd w) : Calls Tryd.prog 16 #[.pointer (some ⟨g, 0, none⟩)] w fun e w' => e = .returned (.int .i64 (wrongV m)) ∧ Below w.heap.size w w' := by
  have c2 := hm.cell 2 _ rfl
  have c7 := hm.cell 7 _ rfl
  have c8 := hm.cell 8 _ rfl
  have c9 := hm.cell 9 _ rfl
  by_cases h1 : 15 < m.op
  · rw [show wrongV m = 61 by unfold wrongV; rw [if_pos (.inl h1)]]
    go_enter Tryd.func16, Tryd.ntmps16
    go_wp2
    go_ret
    exact ⟨rfl, Below.refl _ _⟩
  by_cases h2 : 7 < m.z
  · rw [show wrongV m = 61 by unfold wrongV; rw [if_pos (.inr (.inl h2))]]
    go_enter Tryd.func16, Tryd.ntmps16
    go_wp2
    go_ret
    exact ⟨rfl, Below.refl _ _⟩
  by_cases h3 : 15 < m.rc
  · rw [show wrongV m = 61 by unfold wrongV; rw [if_pos (.inr (.inr h3))]]
    go_enter Tryd.func16, Tryd.ntmps16
    go_wp2
    go_ret
    exact ⟨rfl, Below.refl _ _⟩
  have hw : wrongV m = if longP m 3 then 2 else if namesP m 3 then 11 else if dataP m 3 then 40 else 0 := by unfold wrongV; rw [if_neg (by omega)]
  obtain ⟨R, hR⟩ : ∃ R, wrongV m = R := ⟨_, rfl⟩
  rw [hR]
  rw [hR] at hw
  have HW := Lib.hid hw
  have hql := ho.q.len
  have HQL := Lib.hid hql
  have HO := Lib.hid ho
  have HFIT := Lib.hid hfit
  have hqn := hfit.q
  have HK := Lib.hid hK
  have HM := Lib.hid hm
  obtain ⟨lg0, hlg0⟩ : ∃ x, decide (4096 < m.q.n) = x := ⟨_, rfl⟩
  have hlg1 : decide ((4096 : Int) < (m.q.n : Int)) = lg0 := by rw [← hlg0]; exact decide_eq_decide.2 (by omega)
  have HLG := Lib.hid hlg0
  clear hR hw hlg0 hql ho hK hm hfit
  go_enter Tryd.func16, Tryd.ntmps16
  go_wp2
  clear c2 c7 c8 c9 h1 h2 h3
  go_loopw [4, 42] (fun nm i wr => ∃ k : Nat, k ≤ m.q.n ∧ i = .int .i64 k ∧ nm = .bool (badQ (m.q.l.take k)) ∧ Below w.heap.size w wr) (fun _ i _ => m.q.n - (intOf i).toNat)
  case atStart => exact ⟨0, Nat.zero_le _, rfl, rfl, Below.refl _ _⟩
  case round =>
    obtain ⟨k, hk, rfl, rfl, hb⟩ := hrel
    by_cases hlt : k < m.q.n
    · obtain ⟨x, hx⟩ : ∃ x, m.q.l[k]? = some x := ⟨_, List.getElem?_eq_getElem (by rw [HQL.out]; exact hlt)⟩
      have hxo := HO.out.q.ok x (List.mem_of_getElem? hx)
      have hst : badQ (m.q.l.take (k + 1)) = (badQ (m.q.l.take k) || !isNm x.nm) := any_take _ _ _ _ hx
      have hq := HO.out.q.r
      have hxs := HFIT.out.qs x (List.mem_of_getElem? hx)
      cases hA : m.q.a with
      | none => have := (hq.nil_ hA).1; omega
      | some aq =>
      rw [hA] at hq
      have hcb : Cells wr (aq.add (k * 3)) [.string x.nm, .int .u16 x.ty, .int .u16 x.cl] := Rd.que (hq.below hb) k x hx
      have hki : (k : Int) < (m.q.n : Int) := by omega
      have HST := Lib.hid hst
      have hck := fun w => check_ w x.nm hxs
      have hb1 := hb.alloc hb.size (.cells #[.string x.nm, .int .u16 x.ty, .int .u16 x.cl] 55)
      have HB1 := Lib.hid hb1
      have HLT := Lib.hid hlt
      clear hst hxo hq hx hb1 hlt hA
      obtain ⟨nm, hnm⟩ : ∃ b, badQ (m.q.l.take k) = b := ⟨_, rfl⟩
      rw [hnm] at HST ⊢
      clear hnm
      cases nm
      · cases hn : isNm x.nm with
        | true =>
          rw [hn] at hck HST
          simp only [if_true] at hck
          have HN := Lib.hid hn
          clear hn
          go_wp2_with (first | (refine wpList_getAt rfl 55 (.tmp 44) rfl (aq.add (k * 3)) rfl [.string x.nm, .int .u16 x.ty, .int .u16 x.cl] _ hcb Tryd.underlying55 rfl sizeQue ?_) | (go_at_call 36; refine (hck _).mono ?_; clear hck; rintro e w1 ⟨rfl, hb2⟩))
          go_roundw
          case rel => exact ⟨k + 1, HLT.out, by go_num, by rw [HST.out]; rfl, below_trans HB1.out hb2⟩
          case measure => simp [intOf]; omega
        | false =>
          rw [hn] at hck HST
          simp only [if_false, Bool.false_eq_true] at hck
          have HN := Lib.hid hn
          clear hn
          go_wp2_with (first | (refine wpList_getAt rfl 55 (.tmp 44) rfl (aq.add (k * 3)) rfl [.string x.nm, .int .u16 x.ty, .int .u16 x.cl] _ hcb Tryd.underlying55 rfl sizeQue ?_) | (go_at_call 36; refine (hck _).mono ?_; clear hck; rintro e w1 ⟨rfl, hb2⟩))
          go_roundw
          case rel => exact ⟨k + 1, HLT.out, by go_num, by rw [HST.out]; rfl, below_trans HB1.out hb2⟩
          case measure => simp [intOf]; omega
      · clear hck
        go_wp2_with (first | (refine wpList_getAt rfl 55 (.tmp 44) rfl (aq.add (k * 3)) rfl [.string x.nm, .int .u16 x.ty, .int .u16 x.cl] _ hcb Tryd.underlying55 rfl sizeQue ?_))
        go_roundw
        case rel => exact ⟨k + 1, HLT.out, by go_num, by rw [HST.out]; rfl, HB1.out⟩
        case measure => simp [intOf]; omega
    · obtain rfl : k = m.q.n := by omega
      have htk : m.q.l.take m.q.n = m.q.l := List.take_of_length_le (by rw [HQL.out]; omega)
      rw [htk]
      clear htk hlt
      obtain ⟨nm0, hnm0⟩ : ∃ b, badQ m.q.l = b := ⟨_, rfl⟩
      rw [hnm0]
      have HN0 := Lib.hid hnm0
      have hpar := parts_ wr g
      have hB := hb
      clear hnm0 hb
      go_wp2_with (go_at_call 26; refine hpar.mono ?_; clear hpar; rintro e w1 ⟨rfl, hb2⟩; have HB2 := Lib.hid (below_trans hB hb2); clear hb2 hB)
      go_loopw [3, 4, 5, 56] (fun lg nm dt i wr => ∃ (p : Nat) (nb db : Bool), p ≤ 3 ∧ i = .int .i64 p ∧ lg = .bool (longP m p) ∧ nm = .bool nb ∧ dt = .bool db ∧ Hid (longP m p = false → nb = namesP m p ∧ db = dataP m p) ∧ Below w.heap.size w wr) (fun _ _ _ i _ => 3 - (intOf i).toNat)
      case atStart => exact ⟨0, nm0, false, by omega, rfl, by rw [← HLG.out]; simp [longP], rfl, rfl, Lib.hid (fun _ => ⟨by rw [← HN0.out]; simp [namesP], by simp [dataP]⟩), HB2.out⟩
      case round =>
        obtain ⟨p, nb, db, hp, rfl, rfl, rfl, rfl, HL, hb⟩ := hrel
        by_cases hlt : p < 3
        · have hpi : (p : Int) < 3 := by omega
          have hidx := fun w => parts_idx g p hlt w
          have hcp := (HM.out.below hb).cell (10 + p) _ (m.part_cell p hlt)
          obtain ⟨lg, hlg⟩ : ∃ b, longP m p = b := ⟨_, rfl⟩
          rw [hlg] at HL ⊢
          have hs1 := longP_s m p
          rw [hlg] at hs1
          have HS1 := Lib.hid hs1
          clear hs1 hlg
          have HLT3 := Lib.hid hlt
          cases lg
          · by_cases hbig : 4096 < (m.part p).n
            · have hbi : (4096 : Int) < ((m.part p).n : Int) := by omega
              have HBG := Lib.hid hbig
              clear hbig hlt
              go_wp2
              go_roundw
              case rel => exact ⟨p + 1, nb, db, HLT3.out, by go_num, by rw [HS1.out, decide_eq_true HBG.out]; rfl, rfl, rfl, Lib.hid (fun h => by rw [HS1.out, decide_eq_true HBG.out] at h; cases h), hb⟩
              case measure => simp [intOf]; omega
            · have hbi : ¬ (4096 : Int) < ((m.part p).n : Int) := by omega
              have HBG := Lib.hid hbig
              obtain ⟨hL1, hL2⟩ := HL.out rfl
              have HL1 := Lib.hid hL1
              have HL2 := Lib.hid hL2
              obtain ⟨nb0, hnb0⟩ : ∃ b, namesP m p = b := ⟨_, rfl⟩
              obtain ⟨db0, hdb0⟩ : ∃ b, dataP m p = b := ⟨_, rfl⟩
              have hpo := Mg.part_ok HO.out p
              have hpl := hpo.len
              have hrs := HFIT.out.rs p hlt
              have hSN := namesP_s m p
              have hSD := dataP_s m p
              rw [hnb0] at hSN hL1
              rw [hdb0] at hSD hL2
              subst hL1
              subst hL2
              have HSN := Lib.hid hSN
              have HSD := Lib.hid hSD
              obtain ⟨s, hs⟩ : ∃ s, m.part p = s := ⟨_, rfl⟩
              rw [hs] at hcp hbi hpo hpl hrs HBG HSN HSD HS1
              have HPO := Lib.hid hpo
              have HPL := Lib.hid hpl
              have HRS := Lib.hid hrs
              have hB := hb
              have hsn : s.n ≤ 4096 := by have := HBG.out; omega
              clear HL hnb0 hdb0 HL1 HL2 hpo hpl hrs hSN hSD hs hbig hlt hb
              go_wp2
              clear hcp hbi
              go_loopw [4, 5, 72] (fun nm dt i wr => ∃ (k : Nat) (n1 d1 : Bool), k ≤ s.n ∧ i = .int .i64 k ∧ nm = .bool n1 ∧ dt = .bool d1 ∧ Hid (n1 = (nb || badN (s.l.take k)) ∧ d1 = (db || badD (s.l.take k))) ∧ Below w.heap.size w wr) (fun _ _ i _ => s.n - (intOf i).toNat)
              case atStart => exact ⟨0, nb, db, Nat.zero_le _, rfl, rfl, rfl, Lib.hid ⟨by simp [badN], by simp [badD]⟩, hB⟩
              case round =>
                obtain ⟨k, n1, d1, hk, rfl, rfl, rfl, HE, hb⟩ := hrel
                by_cases hlt : k < s.n
                · obtain ⟨x, hx⟩ : ∃ x, s.l[k]? = some x := ⟨_, List.getElem?_eq_getElem (by rw [HPL.out]; exact hlt)⟩
                  obtain ⟨hz0, hz1, hz2, hz3⟩ := HRS.out x (List.mem_of_getElem? hx)
                  have hq := HPO.out.r
                  cases hA : s.a with
                  | none => have := (hq.nil_ hA).1; omega
                  | some aq =>
                  rw [hA] at hq
                  have hcb : Cells wr (aq.add (k * 12)) [.string x.nm, .int .u16 x.ty, .int .u16 x.cl, .int .u32 x.ttl, .string x.raw, .string x.host, .string x.mail, .int .u32 x.n0, .int .u32 x.n1, .int .u32 x.n2, .int .u32 x.n3, .int .u32 x.n4] := Rd.rec (hq.below hb) k x hx
                  have hki : (k : Int) < (s.n : Int) := by omega
                  have hsn : badN (s.l.take (k + 1)) = (badN (s.l.take k) || !isNm x.nm) := any_take _ _ _ _ hx
                  have hsd : badD (s.l.take (k + 1)) = (badD (s.l.take k) || !okF (formV x.ty) x.dt) := any_take _ _ _ _ hx
                  have hck := fun w => check_ w x.nm hz0
                  have hcd := fun w hK => checkD_ w x.dt hz2 hz3 hz1 x.ty hK
                  have hX1 := Blk.new wr 46 #[.string x.nm, .int .u16 x.ty, .int .u16 x.cl, .int .u32 x.ttl, .string x.raw, .string x.host, .string x.mail, .int .u32 x.n0, .int .u32 x.n1, .int .u32 x.n2, .int .u32 x.n3, .int .u32 x.n4]
                  have hb1 := hb.alloc hb.size (.cells #[.string x.nm, .int .u16 x.ty, .int .u16 x.cl, .int .u32 x.ttl, .string x.raw, .string x.host, .string x.mail, .int .u32 x.n0, .int .u32 x.n1, .int .u32 x.n2, .int .u32 x.n3, .int .u32 x.n4] 46)
                  have HE1 := Lib.hid (show (n1 || !isNm x.nm) = (nb || badN (s.l.take (k + 1))) ∧ (d1 || !okF (formV x.ty) x.dt) = (db || badD (s.l.take (k + 1))) by rw [HE.out.1, HE.out.2, hsn, hsd, Bool.or_assoc, Bool.or_assoc]; exact ⟨rfl, rfl⟩)
                  have HX1 := Lib.hid hX1
                  have HB1 := Lib.hid hb1
                  have HLT := Lib.hid hlt
                  have a1 := hX1.cell 1 _ rfl
                  unfold Dt.val Rc.dt at hcd
                  clear hsn hsd hX1 hb1 hlt hq hx hA hz0 hz1 hz2 hz3 HE
                  have a0 := HX1.out.cell 0 _ rfl
                  have a4 := HX1.out.cell 4 _ rfl
                  have a5 := HX1.out.cell 5 _ rfl
                  have a6 := HX1.out.cell 6 _ rfl
                  have a7 := HX1.out.cell 7 _ rfl
                  have a8 := HX1.out.cell 8 _ rfl
                  have a9 := HX1.out.cell 9 _ rfl
                  have a10 := HX1.out.cell 10 _ rfl
                  have a11 := HX1.out.cell 11 _ rfl
                  cases n1
                  · cases d1
                    · skip
                      cases hn : isNm x.nm with
                      | true =>
                        rw [hn] at hck HE1
                        simp only [if_true, if_false, Bool.false_eq_true] at hck
                        clear hn
                        cases hd : okF (formV x.ty) ⟨x.raw, x.host, x.mail, x.n0, x.n1, x.n2, x.n3, x.n4⟩ with
                        | true =>
                          have HE2 := Lib.hid (show _ ∧ _ from ⟨HE1.out.1, (show (false || !true) = (db || badD (s.l.take (k + 1))) by rw [← HE1.out.2]; rw [show x.dt = ⟨x.raw, x.host, x.mail, x.n0, x.n1, x.n2, x.n3, x.n4⟩ from rfl, hd])⟩)
                          rw [hd] at hcd
                          simp only [if_true, if_false, Bool.false_eq_true] at hcd
                          clear hd HE1
                          go_wp2_with (first | (refine wpList_getAt rfl 46 (.tmp 74) rfl (aq.add (k * 12)) rfl [.string x.nm, .int .u16 x.ty, .int .u16 x.cl, .int .u32 x.ttl, .string x.raw, .string x.host, .string x.mail, .int .u32 x.n0, .int .u32 x.n1, .int .u32 x.n2, .int .u32 x.n3, .int .u32 x.n4] _ hcb Tryd.underlying46 rfl sizeRec ?_) | (go_at_call 36; refine (hck _).mono ?_; clear hck; rintro e w1 ⟨rfl, hb2⟩; have HB2 := Lib.hid (below_trans HB1.out hb2); have hX2 := HX1.out.below hb2; clear hb2 HB1 a1 a4 a5 a6 a7 a8 a9 a10 a11; have a1 := hX2.cell 1 _ rfl; have a4 := hX2.cell 4 _ rfl; have a5 := hX2.cell 5 _ rfl; have a6 := hX2.cell 6 _ rfl; have a7 := hX2.cell 7 _ rfl; have a8 := hX2.cell 8 _ rfl; have a9 := hX2.cell 9 _ rfl; have a10 := hX2.cell 10 _ rfl; have a11 := hX2.cell 11 _ rfl; have HB1 := HB2; clear hX2 HB2) | (go_at_call 37; refine (hcd _ (HK.out.below HB1.out)).mono ?_; clear hcd; rintro e w2 ⟨rfl, hb3⟩; have HB3 := Lib.hid (below_trans HB1.out hb3); clear hb3 HB1; have HB1 := HB3; clear HB3))
                          go_roundw
                          case rel => exact ⟨k + 1, false, false, HLT.out, by go_num, rfl, rfl, Lib.hid ⟨HE2.out.1, HE2.out.2⟩, HB1.out⟩
                          case measure => simp [intOf]; omega
                        | false =>
                          have HE2 := Lib.hid (show _ ∧ _ from ⟨HE1.out.1, (show (false || !false) = (db || badD (s.l.take (k + 1))) by rw [← HE1.out.2]; rw [show x.dt = ⟨x.raw, x.host, x.mail, x.n0, x.n1, x.n2, x.n3, x.n4⟩ from rfl, hd])⟩)
                          rw [hd] at hcd
                          simp only [if_true, if_false, Bool.false_eq_true] at hcd
                          clear hd HE1
                          go_wp2_with (first | (refine wpList_getAt rfl 46 (.tmp 74) rfl (aq.add (k * 12)) rfl [.string x.nm, .int .u16 x.ty, .int .u16 x.cl, .int .u32 x.ttl, .string x.raw, .string x.host, .string x.mail, .int .u32 x.n0, .int .u32 x.n1, .int .u32 x.n2, .int .u32 x.n3, .int .u32 x.n4] _ hcb Tryd.underlying46 rfl sizeRec ?_) | (go_at_call 36; refine (hck _).mono ?_; clear hck; rintro e w1 ⟨rfl, hb2⟩; have HB2 := Lib.hid (below_trans HB1.out hb2); have hX2 := HX1.out.below hb2; clear hb2 HB1 a1 a4 a5 a6 a7 a8 a9 a10 a11; have a1 := hX2.cell 1 _ rfl; have a4 := hX2.cell 4 _ rfl; have a5 := hX2.cell 5 _ rfl; have a6 := hX2.cell 6 _ rfl; have a7 := hX2.cell 7 _ rfl; have a8 := hX2.cell 8 _ rfl; have a9 := hX2.cell 9 _ rfl; have a10 := hX2.cell 10 _ rfl; have a11 := hX2.cell 11 _ rfl; have HB1 := HB2; clear hX2 HB2) | (go_at_call 37; refine (hcd _ (HK.out.below HB1.out)).mono ?_; clear hcd; rintro e w2 ⟨rfl, hb3⟩; have HB3 := Lib.hid (below_trans HB1.out hb3); clear hb3 HB1; have HB1 := HB3; clear HB3))
                          go_roundw
                          case rel => exact ⟨k + 1, false, true, HLT.out, by go_num, rfl, rfl, Lib.hid ⟨HE2.out.1, HE2.out.2⟩, HB1.out⟩
                          case measure => simp [intOf]; omega
                      | false =>
                        rw [hn] at hck HE1
                        simp only [if_true, if_false, Bool.false_eq_true] at hck
                        clear hn
                        cases hd : okF (formV x.ty) ⟨x.raw, x.host, x.mail, x.n0, x.n1, x.n2, x.n3, x.n4⟩ with
                        | true =>
                          have HE2 := Lib.hid (show _ ∧ _ from ⟨HE1.out.1, (show (false || !true) = (db || badD (s.l.take (k + 1))) by rw [← HE1.out.2]; rw [show x.dt = ⟨x.raw, x.host, x.mail, x.n0, x.n1, x.n2, x.n3, x.n4⟩ from rfl, hd])⟩)
                          rw [hd] at hcd
                          simp only [if_true, if_false, Bool.false_eq_true] at hcd
                          clear hd HE1
                          go_wp2_with (first | (refine wpList_getAt rfl 46 (.tmp 74) rfl (aq.add (k * 12)) rfl [.string x.nm, .int .u16 x.ty, .int .u16 x.cl, .int .u32 x.ttl, .string x.raw, .string x.host, .string x.mail, .int .u32 x.n0, .int .u32 x.n1, .int .u32 x.n2, .int .u32 x.n3, .int .u32 x.n4] _ hcb Tryd.underlying46 rfl sizeRec ?_) | (go_at_call 36; refine (hck _).mono ?_; clear hck; rintro e w1 ⟨rfl, hb2⟩; have HB2 := Lib.hid (below_trans HB1.out hb2); have hX2 := HX1.out.below hb2; clear hb2 HB1 a1 a4 a5 a6 a7 a8 a9 a10 a11; have a1 := hX2.cell 1 _ rfl; have a4 := hX2.cell 4 _ rfl; have a5 := hX2.cell 5 _ rfl; have a6 := hX2.cell 6 _ rfl; have a7 := hX2.cell 7 _ rfl; have a8 := hX2.cell 8 _ rfl; have a9 := hX2.cell 9 _ rfl; have a10 := hX2.cell 10 _ rfl; have a11 := hX2.cell 11 _ rfl; have HB1 := HB2; clear hX2 HB2) | (go_at_call 37; refine (hcd _ (HK.out.below HB1.out)).mono ?_; clear hcd; rintro e w2 ⟨rfl, hb3⟩; have HB3 := Lib.hid (below_trans HB1.out hb3); clear hb3 HB1; have HB1 := HB3; clear HB3))
                          go_roundw
                          case rel => exact ⟨k + 1, true, false, HLT.out, by go_num, rfl, rfl, Lib.hid ⟨HE2.out.1, HE2.out.2⟩, HB1.out⟩
                          case measure => simp [intOf]; omega
                        | false =>
                          have HE2 := Lib.hid (show _ ∧ _ from ⟨HE1.out.1, (show (false || !false) = (db || badD (s.l.take (k + 1))) by rw [← HE1.out.2]; rw [show x.dt = ⟨x.raw, x.host, x.mail, x.n0, x.n1, x.n2, x.n3, x.n4⟩ from rfl, hd])⟩)
                          rw [hd] at hcd
                          simp only [if_true, if_false, Bool.false_eq_true] at hcd
                          clear hd HE1
                          go_wp2_with (first | (refine wpList_getAt rfl 46 (.tmp 74) rfl (aq.add (k * 12)) rfl [.string x.nm, .int .u16 x.ty, .int .u16 x.cl, .int .u32 x.ttl, .string x.raw, .string x.host, .string x.mail, .int .u32 x.n0, .int .u32 x.n1, .int .u32 x.n2, .int .u32 x.n3, .int .u32 x.n4] _ hcb Tryd.underlying46 rfl sizeRec ?_) | (go_at_call 36; refine (hck _).mono ?_; clear hck; rintro e w1 ⟨rfl, hb2⟩; have HB2 := Lib.hid (below_trans HB1.out hb2); have hX2 := HX1.out.below hb2; clear hb2 HB1 a1 a4 a5 a6 a7 a8 a9 a10 a11; have a1 := hX2.cell 1 _ rfl; have a4 := hX2.cell 4 _ rfl; have a5 := hX2.cell 5 _ rfl; have a6 := hX2.cell 6 _ rfl; have a7 := hX2.cell 7 _ rfl; have a8 := hX2.cell 8 _ rfl; have a9 := hX2.cell 9 _ rfl; have a10 := hX2.cell 10 _ rfl; have a11 := hX2.cell 11 _ rfl; have HB1 := HB2; clear hX2 HB2) | (go_at_call 37; refine (hcd _ (HK.out.below HB1.out)).mono ?_; clear hcd; rintro e w2 ⟨rfl, hb3⟩; have HB3 := Lib.hid (below_trans HB1.out hb3); clear hb3 HB1; have HB1 := HB3; clear HB3))
                          go_roundw
                          case rel => exact ⟨k + 1, true, true, HLT.out, by go_num, rfl, rfl, Lib.hid ⟨HE2.out.1, HE2.out.2⟩, HB1.out⟩
                          case measure => simp [intOf]; omega
                    · skip
                      cases hn : isNm x.nm with
                      | true =>
                        rw [hn] at hck HE1
                        simp only [if_true, if_false, Bool.false_eq_true] at hck
                        clear hn
                        have HE2 := HE1
                        clear HE1
                        clear hcd
                        go_wp2_with (first | (refine wpList_getAt rfl 46 (.tmp 74) rfl (aq.add (k * 12)) rfl [.string x.nm, .int .u16 x.ty, .int .u16 x.cl, .int .u32 x.ttl, .string x.raw, .string x.host, .string x.mail, .int .u32 x.n0, .int .u32 x.n1, .int .u32 x.n2, .int .u32 x.n3, .int .u32 x.n4] _ hcb Tryd.underlying46 rfl sizeRec ?_) | (go_at_call 36; refine (hck _).mono ?_; clear hck; rintro e w1 ⟨rfl, hb2⟩; have HB2 := Lib.hid (below_trans HB1.out hb2); have hX2 := HX1.out.below hb2; clear hb2 HB1 a1 a4 a5 a6 a7 a8 a9 a10 a11; have a1 := hX2.cell 1 _ rfl; have a4 := hX2.cell 4 _ rfl; have a5 := hX2.cell 5 _ rfl; have a6 := hX2.cell 6 _ rfl; have a7 := hX2.cell 7 _ rfl; have a8 := hX2.cell 8 _ rfl; have a9 := hX2.cell 9 _ rfl; have a10 := hX2.cell 10 _ rfl; have a11 := hX2.cell 11 _ rfl; have HB1 := HB2; clear hX2 HB2))
                        go_roundw
                        case rel => exact ⟨k + 1, false, true, HLT.out, by go_num, rfl, rfl, Lib.hid ⟨HE2.out.1, HE2.out.2⟩, HB1.out⟩
                        case measure => simp [intOf]; omega
                      | false =>
                        rw [hn] at hck HE1
                        simp only [if_true, if_false, Bool.false_eq_true] at hck
                        clear hn
                        have HE2 := HE1
                        clear HE1
                        clear hcd
                        go_wp2_with (first | (refine wpList_getAt rfl 46 (.tmp 74) rfl (aq.add (k * 12)) rfl [.string x.nm, .int .u16 x.ty, .int .u16 x.cl, .int .u32 x.ttl, .string x.raw, .string x.host, .string x.mail, .int .u32 x.n0, .int .u32 x.n1, .int .u32 x.n2, .int .u32 x.n3, .int .u32 x.n4] _ hcb Tryd.underlying46 rfl sizeRec ?_) | (go_at_call 36; refine (hck _).mono ?_; clear hck; rintro e w1 ⟨rfl, hb2⟩; have HB2 := Lib.hid (below_trans HB1.out hb2); have hX2 := HX1.out.below hb2; clear hb2 HB1 a1 a4 a5 a6 a7 a8 a9 a10 a11; have a1 := hX2.cell 1 _ rfl; have a4 := hX2.cell 4 _ rfl; have a5 := hX2.cell 5 _ rfl; have a6 := hX2.cell 6 _ rfl; have a7 := hX2.cell 7 _ rfl; have a8 := hX2.cell 8 _ rfl; have a9 := hX2.cell 9 _ rfl; have a10 := hX2.cell 10 _ rfl; have a11 := hX2.cell 11 _ rfl; have HB1 := HB2; clear hX2 HB2))
                        go_roundw
                        case rel => exact ⟨k + 1, true, true, HLT.out, by go_num, rfl, rfl, Lib.hid ⟨HE2.out.1, HE2.out.2⟩, HB1.out⟩
                        case measure => simp [intOf]; omega
                  · cases d1
                    · skip
                      cases hd : okF (formV x.ty) ⟨x.raw, x.host, x.mail, x.n0, x.n1, x.n2, x.n3, x.n4⟩ with
                      | true =>
                        have HE2 := Lib.hid (show _ ∧ _ from ⟨HE1.out.1, (show (false || !true) = (db || badD (s.l.take (k + 1))) by rw [← HE1.out.2]; rw [show x.dt = ⟨x.raw, x.host, x.mail, x.n0, x.n1, x.n2, x.n3, x.n4⟩ from rfl, hd])⟩)
                        rw [hd] at hcd
                        simp only [if_true, if_false, Bool.false_eq_true] at hcd
                        clear hd HE1
                        clear hck
                        go_wp2_with (first | (refine wpList_getAt rfl 46 (.tmp 74) rfl (aq.add (k * 12)) rfl [.string x.nm, .int .u16 x.ty, .int .u16 x.cl, .int .u32 x.ttl, .string x.raw, .string x.host, .string x.mail, .int .u32 x.n0, .int .u32 x.n1, .int .u32 x.n2, .int .u32 x.n3, .int .u32 x.n4] _ hcb Tryd.underlying46 rfl sizeRec ?_) | (go_at_call 37; refine (hcd _ (HK.out.below HB1.out)).mono ?_; clear hcd; rintro e w2 ⟨rfl, hb3⟩; have HB3 := Lib.hid (below_trans HB1.out hb3); clear hb3 HB1; have HB1 := HB3; clear HB3))
                        go_roundw
                        case rel => exact ⟨k + 1, true, false, HLT.out, by go_num, rfl, rfl, Lib.hid ⟨HE2.out.1, HE2.out.2⟩, HB1.out⟩
                        case measure => simp [intOf]; omega
                      | false =>
                        have HE2 := Lib.hid (show _ ∧ _ from ⟨HE1.out.1, (show (false || !false) = (db || badD (s.l.take (k + 1))) by rw [← HE1.out.2]; rw [show x.dt = ⟨x.raw, x.host, x.mail, x.n0, x.n1, x.n2, x.n3, x.n4⟩ from rfl, hd])⟩)
                        rw [hd] at hcd
                        simp only [if_true, if_false, Bool.false_eq_true] at hcd
                        clear hd HE1
                        clear hck
                        go_wp2_with (first | (refine wpList_getAt rfl 46 (.tmp 74) rfl (aq.add (k * 12)) rfl [.string x.nm, .int .u16 x.ty, .int .u16 x.cl, .int .u32 x.ttl, .string x.raw, .string x.host, .string x.mail, .int .u32 x.n0, .int .u32 x.n1, .int .u32 x.n2, .int .u32 x.n3, .int .u32 x.n4] _ hcb Tryd.underlying46 rfl sizeRec ?_) | (go_at_call 37; refine (hcd _ (HK.out.below HB1.out)).mono ?_; clear hcd; rintro e w2 ⟨rfl, hb3⟩; have HB3 := Lib.hid (below_trans HB1.out hb3); clear hb3 HB1; have HB1 := HB3; clear HB3))
                        go_roundw
                        case rel => exact ⟨k + 1, true, true, HLT.out, by go_num, rfl, rfl, Lib.hid ⟨HE2.out.1, HE2.out.2⟩, HB1.out⟩
                        case measure => simp [intOf]; omega
                    · skip
                      have HE2 := HE1
                      clear HE1
                      clear hck
                      clear hcd
                      go_wp2_with (first | (refine wpList_getAt rfl 46 (.tmp 74) rfl (aq.add (k * 12)) rfl [.string x.nm, .int .u16 x.ty, .int .u16 x.cl, .int .u32 x.ttl, .string x.raw, .string x.host, .string x.mail, .int .u32 x.n0, .int .u32 x.n1, .int .u32 x.n2, .int .u32 x.n3, .int .u32 x.n4] _ hcb Tryd.underlying46 rfl sizeRec ?_))
                      go_roundw
                      case rel => exact ⟨k + 1, true, true, HLT.out, by go_num, rfl, rfl, Lib.hid ⟨HE2.out.1, HE2.out.2⟩, HB1.out⟩
                      case measure => simp [intOf]; omega
                · obtain rfl : k = s.n := by omega
                  rw [List.take_of_length_le (by rw [HPL.out]; omega)] at HE
                  have HEE := HE
                  clear HE hlt
                  have hbb := hb
                  clear hb
                  go_wp2
                  go_roundw
                  case rel => exact ⟨p + 1, n1, d1, HLT3.out, by go_num, by rw [HS1.out, decide_eq_false HBG.out]; rfl, rfl, rfl, Lib.hid (fun _ => ⟨by rw [HSN.out]; exact HEE.out.1, by rw [HSD.out]; exact HEE.out.2⟩), hbb⟩
                  case measure => simp [intOf]; omega
          · clear hlt
            go_wp2
            go_roundw
            case rel => exact ⟨p + 1, nb, db, HLT3.out, by go_num, by rw [HS1.out]; rfl, rfl, rfl, Lib.hid (fun h => by rw [HS1.out] at h; cases h), hb⟩
            case measure => simp [intOf]; omega
        · obtain rfl : p = 3 := by omega
          clear hlt
          obtain ⟨lg, hlg⟩ : ∃ b, longP m 3 = b := ⟨_, rfl⟩
          have hwo := HW.out
          rw [hlg] at hwo HL ⊢
          cases lg
          · obtain ⟨hn1, hd1⟩ := HL.out rfl
            rw [← hn1, ← hd1] at hwo
            have hwo2 := Lib.hid hwo
            clear hwo hn1 hd1 HL HW hlg
            cases nb
            · cases db
              · go_wp2
                go_ret
                exact ⟨by rw [hwo2.out]; rfl, hb⟩
              · go_wp2
                go_ret
                exact ⟨by rw [hwo2.out]; rfl, hb⟩
            · go_wp2
              go_ret
              exact ⟨by rw [hwo2.out]; rfl, hb⟩
          · have hwo2 := Lib.hid hwo
            clear hwo HL HW hlg
            go_wp2
            go_ret
            exact ⟨by rw [hwo2.out]; rfl, hb⟩
end Go.Proofs.YtdjknikkiojfhaaDoor
