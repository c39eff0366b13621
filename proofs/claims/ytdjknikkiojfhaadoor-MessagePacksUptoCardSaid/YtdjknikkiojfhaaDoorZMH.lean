import Derived.Test.YtdjknikkiojfhaaDoorZMG
import Derived.Deep.RegionLaw
import Derived.Deep.CutRange
/- hearsayref06.Bytes: the walk. -/
namespace Go.Proofs.YtdjknikkiojfhaaDoor
open Go.RowKit Go.HL Go.Maps
set_option linter.unusedVariables false
set_option linter.unusedSimpArgs false
theorem Hs.rnum {W wr : World} {l : List UInt8} {A : Option Addr} {n c : Nat} (h : Hs W l A n c wr) (hn : l.length ≤ 10) (v : Int) (hv : 0 ≤ v ∧ v < 65536) : Calls Tryd.prog 47 #[.slice A n c, .int .u32 v, .int .i64 2] wr fun e w' => ∃ A' n' c', e = .returned (.slice A' n' c') ∧ Hs W (l ++ be 2 v) A' n' c' w' ∧ Below wr.heap.size wr w' := by
  have hr := rd_own h.own
  have hl := hr.blen
  have hz := h.B.size
  refine (rput A n c v 2 (by omega) (by omega) (by omega) (by omega) wr (bs l) hr (bs_one _)).mono ?_
  rintro e w5 ⟨sv, rfl, ho, hb⟩
  rw [← bs_append] at ho
  obtain ⟨A', c', rfl, -⟩ := own_rd ho
  exact ⟨A', n + 2, c', rfl, ⟨own_lower ho hz, below_trans h.B hb, by omega⟩, hb⟩
theorem Hs.rtable {W wr : World} {l : List UInt8} {A : Option Addr} {n c : Nat} (h : Hs W l A n c wr) : Rb W wr.heap.size l [] A n c 12 0 (wr.alloc (.cells #[.slice none 0 0, .slice none 0 0] 95)) := by
  have hz := h.B.size
  have hb := below_new wr (.cells #[.slice none 0 0, .slice none 0 0] 95)
  have hG := Blk.new wr 95 #[.slice none 0 0, .slice none 0 0]
  exact ⟨⟨_, _, ⟨hG, World.ownsRow_nil _ _ _ _, World.ownsRow_nil _ _ _ _⟩⟩, own_below h.own hb, below_trans h.B hb, hz, (fun p hp => by cases hp), h.bd, Nat.le_refl _⟩
/-- What holds of the rounds over a part's records; of the rounds over the parts. -/
def RrI (W1 : World) (rt : Nat) (m : Mg) (P : Nat) (s : Sl) (l : List UInt8) (tab : Tb) (p : Nat) (v i : Value) (wr : World) : Prop :=
  ∃ (k : Nat) (l1 : List UInt8) (tab1 : Tb) (A : Option Addr) (n c : Nat), k ≤ s.n ∧ i = .int .i64 k ∧ v = .slice A n c ∧ Hid ((s.l.take k).foldl encR (l, tab) = (l1, tab1)) ∧ Rb W1 rt l1 tab1 A n c (2000000 + 1884160000 * p + 460000 * k) (2000000 + 8601600 * p + 2100 * k) wr ∧ Blk wr P 24 (partsL m)
def PrI (W1 : World) (rt : Nat) (m : Mg) (P : Nat) (v i : Value) (wr : World) : Prop :=
  ∃ (p : Nat) (l : List UInt8) (tab : Tb) (A : Option Addr) (n c : Nat), p ≤ 3 ∧ i = .int .i64 p ∧ v = .slice A n c ∧ Hid (partsB m p = (l, tab)) ∧ Rb W1 rt l tab A n c (2000000 + 1884160000 * p) (2000000 + 8601600 * p) wr ∧ Blk wr P 24 (partsL m)
set_option maxRecDepth 100000 in
set_option maxHeartbeats 8000000 in
theorem rbytes_ (w : World) (m : Mg) (ho : m.ok w) (hfit : m.fit 100000000) (hg : m.good) : Calls Tryd.prog 19 #[m.val] w (MsgR w (msgB m)) := by
  have hb1 := below_new w (.cells m.cells.toArray 26)
  have hm := Blk.new w 26 m.cells.toArray
  obtain ⟨W1, hW1⟩ : ∃ x, w.alloc (.cells m.cells.toArray 26) = x := ⟨_, rfl⟩
  rw [hW1] at hb1 hm
  have hO1 := ho.below hb1
  have HB1 := Lib.hid hb1
  have HM := Lib.hid hm
  have HO := Lib.hid hO1
  have HFIT := Lib.hid hfit
  have HG := Lib.hid hg
  have hop := ho.op
  have hz := ho.z
  have hrc := ho.rc
  have hop2 := hg.op
  have hz2 := hg.z
  have hrc2 := hg.rc
  obtain ⟨R, hR⟩ : ∃ R, MsgR w (msgB m) = R := ⟨_, rfl⟩
  rw [hR]
  have HR := Lib.hid hR
  obtain ⟨g, hgg⟩ : ∃ x, w.heap.size = x := ⟨_, rfl⟩
  rw [hgg] at HM
  have c1 := HM.out.cell 1 _ rfl
  have c2 := HM.out.cell 2 _ rfl
  have c3 := HM.out.cell 3 _ rfl
  have c4 := HM.out.cell 4 _ rfl
  have c5 := HM.out.cell 5 _ rfl
  have c6 := HM.out.cell 6 _ rfl
  have c7 := HM.out.cell 7 _ rfl
  have c8 := HM.out.cell 8 _ rfl
  unfold Mg.cells at hW1
  clear hb1 hm hO1 ho hfit hg hR
  unfold Mg.val
  go_enter Tryd.func19, Tryd.ntmps19
  go_upto_region 1 with (fail)
  try rw [hW1, hgg]
  clear hW1 hgg
  go_cut [3] from 14 (fun v wx => v = .int .u32 (flagsV m) ∧ Below W1.heap.size W1 wx)
  case first =>
    go_quiet ((go_at_call 46; exact Calls.quiet_of_same (bit_ _ _)))
    have b1 := bitV_bd m.reply
    have b2 := bitV_bd m.aa
    have b3 := bitV_bd m.tc
    have b4 := bitV_bd m.rd
    have b5 := bitV_bd m.ra
    have hv : (bitV m.reply * 32768 % 4294967296 + m.op * 2048 + bitV m.aa * 1024 + bitV m.tc * 512 + bitV m.rd * 256 + bitV m.ra * 128) % 4294967296 + m.z * 16 + m.rc = flagsV m := by unfold flagsV; omega
    have HV := Lib.hid hv
    clear hv
    go_wp2_with fail
    go_meet
    exact ⟨by rw [← HV.out], below_drewN (Below.refl _ _) _⟩
  case rest =>
    obtain ⟨rfl, hbc⟩ := hcut
    have HS := Lib.hid (Hs.nil W1 wc hbc)
    have hfl : 0 ≤ flagsV m ∧ flagsV m < 65536 := by
      have b1 := bitV_bd m.reply
      have b2 := bitV_bd m.aa
      have b3 := bitV_bd m.tc
      have b4 := bitV_bd m.rd
      have b5 := bitV_bd m.ra
      unfold flagsV
      omega
    obtain ⟨fl, hfe⟩ : ∃ x, flagsV m = x := ⟨_, rfl⟩
    rw [hfe] at hfl ⊢
    have HFE := Lib.hid hfe
    have c0 := (HM.out.below hbc).cell 0 _ rfl
    have hid := HO.out.id
    have hq := HG.out.q
    have hp0 : m.an.n ≤ 4096 := HG.out.p 0 (by omega)
    have hp1 : m.au.n ≤ 4096 := HG.out.p 1 (by omega)
    have hp2 : m.ex.n ≤ 4096 := HG.out.p 2 (by omega)
    clear hbc hfe hop hz hrc hop2 hz2 hrc2 c1 c2 c3 c4 c5 c6 c7 c8
    go_upto_region 5 with (go_at_call 47; refine (HS.out.rnum (by simp [be_length]) _ (by omega)).mono ?_; rintro e W6 ⟨A6, n6, c6, rfl, hS6, hb6⟩; replace HS := Lib.hid hS6; clear hS6 hb6; (try clear c0); (try clear c9 c10 c11 c12); have hM := HM.out.below HS.out.B; have c9 := hM.cell 9 _ rfl; have c10 := hM.cell 10 _ rfl; have c11 := hM.cell 11 _ rfl; have c12 := hM.cell 12 _ rfl; clear hM)
    go_upto_region 6 with (fail)
    have hP := Blk.new W6 24 (partsL m).toArray
    have hS := HS.out.below (below_new W6 (.cells (partsL m).toArray 24))
    obtain ⟨W7, hW7⟩ : ∃ x, W6.alloc (.cells (partsL m).toArray 24) = x := ⟨_, rfl⟩
    rw [hW7] at hP hS
    unfold partsL at hW7
    rw [hW7]
    obtain ⟨P, hPe⟩ : ∃ x, W6.heap.size = x := ⟨_, rfl⟩
    rw [hPe] at hP ⊢
    replace HS := Lib.hid hS
    have HP := Lib.hid hP
    clear hS hP hW7 hPe c9 c10 c11 c12
    have hP := HP.out
    have p0 := hP.cell 0 _ rfl
    have p1 := hP.cell 1 _ rfl
    have p2 := hP.cell 2 _ rfl
    clear hP
    go_wp2
    refine wp_loop_rounds 4 ?_
    rw [rounds_succ]
    go_wp2_with (go_at_call 47; refine (HS.out.rnum (by simp [be_length]) _ (by omega)).mono ?_; rintro e W6 ⟨A6, n6, c6, rfl, hS6, hb6⟩; replace HS := Lib.hid hS6; replace HP := Lib.hid (HP.out.below hb6); clear hS6 hb6 p0 p1 p2; have hP := HP.out; have p0 := hP.cell 0 _ rfl; have p1 := hP.cell 1 _ rfl; have p2 := hP.cell 2 _ rfl; clear hP)
    rw [rounds_succ]
    go_wp2_with (go_at_call 47; refine (HS.out.rnum (by simp [be_length]) _ (by omega)).mono ?_; rintro e W6 ⟨A6, n6, c6, rfl, hS6, hb6⟩; replace HS := Lib.hid hS6; replace HP := Lib.hid (HP.out.below hb6); clear hS6 hb6 p0 p1 p2; have hP := HP.out; have p0 := hP.cell 0 _ rfl; have p1 := hP.cell 1 _ rfl; have p2 := hP.cell 2 _ rfl; clear hP)
    rw [rounds_succ]
    go_wp2_with (go_at_call 47; refine (HS.out.rnum (by simp [be_length]) _ (by omega)).mono ?_; rintro e W6 ⟨A6, n6, c6, rfl, hS6, hb6⟩; replace HS := Lib.hid hS6; replace HP := Lib.hid (HP.out.below hb6); clear hS6 hb6 p0 p1 p2; have hP := HP.out; have p0 := hP.cell 0 _ rfl; have p1 := hP.cell 1 _ rfl; have p2 := hP.cell 2 _ rfl; clear hP)
    rw [rounds_succ]
    clear p0 p1 p2
    go_wp2
    have HT := Lib.hid HS.out.rtable
    have HPT := Lib.hid (HP.out.alloc (.cells #[.slice none 0 0, .slice none 0 0] 95))
    obtain ⟨W9, hW9⟩ : ∃ x, W6.alloc (.cells #[.slice none 0 0, .slice none 0 0] 95) = x := ⟨_, rfl⟩
    rw [hW9] at HT HPT ⊢
    obtain ⟨rt, hrt⟩ : ∃ x, W6.heap.size = x := ⟨_, rfl⟩
    rw [hrt] at HT ⊢
    have HT2 : Hid (Rb W1 rt (headB m) [] A6 n6 c6 12 0 W9) := by
      have h := HT.out
      rw [← HFE.out] at h
      exact Lib.hid h
    replace HP := HPT
    clear HT HPT hW9 hrt HS
    go_loopw [4, 8] (fun v i wr => ∃ (k : Nat) (l : List UInt8) (tab : Tb) (A : Option Addr) (n c : Nat), k ≤ m.q.n ∧ i = .int .i64 k ∧ v = .slice A n c ∧ Hid ((m.q.l.take k).foldl encQ (headB m, []) = (l, tab)) ∧ Rb W1 rt l tab A n c (12 + 300 * k) (300 * k) wr ∧ Blk wr P 24 (partsL m)) (fun _ i _ => m.q.n - (intOf i).toNat)
    case atStart => exact ⟨0, headB m, [], A6, n6, c6, Nat.zero_le _, rfl, rfl, Lib.hid rfl, HT2.out, HP.out⟩
    case round =>
      clear HP HT2
      obtain ⟨k, l, tab, A, n, c, hk, rfl, rfl, HE, hB, hP⟩ := hrel
      have c9 := (HM.out.below hB.B).cell 9 _ rfl
      by_cases hlt : k < m.q.n
      · obtain ⟨x, hx⟩ : ∃ x, m.q.l[k]? = some x := ⟨_, List.getElem?_eq_getElem (by rw [HO.out.q.len]; exact hlt)⟩
        have hxo := HO.out.q.ok x (List.mem_of_getElem? hx)
        have hty := hxo.ty
        have hcl := hxo.cl
        have hnm := HG.out.qs x (List.mem_of_getElem? hx)
        have hst := fold_take encQ (headB m, []) m.q.l k x hx
        rw [HE.out] at hst
        have hq4 := HO.out.q.r
        cases hA : m.q.a with
        | none => have := (hq4.nil_ hA).1; omega
        | some aq =>
        rw [hA] at hq4 c9
        have HA := Lib.hid hA
        have HQR := Lib.hid hq4
        have HX := Lib.hid hx
        have hki : (k : Int) < (m.q.n : Int) := by omega
        have HB := Lib.hid hB
        have HP := Lib.hid hP
        have HST := Lib.hid hst
        have HNM := Lib.hid hnm
        have HLT := Lib.hid hlt
        clear hB hP hst hxo hnm hq4 hx hA hlt HE c9
        have hcb := Rd.que (HQR.out.below HB.out.B) k x HX.out
        have l0 := hcb 0 _ rfl
        rw [Addr.add_zero'] at l0
        have l1 := cells_at hcb 0 _ rfl
        have l2 := cells_at hcb 1 _ rfl
        have c9 := (HM.out.below HB.out.B).cell 9 _ rfl
        rw [HA.out] at c9
        clear hcb
        go_wp2_with (first
          | (go_at_call 48; refine (HB.out.name (by omega) (by omega) x.nm HNM.out).mono ?_; rintro e W5 ⟨a5, b5, rfl, A5, n5, c5, rfl, rfl, hB5, hk5⟩; replace HB := Lib.hid hB5; replace HP := Lib.hid (hk5 _ _ _ (by decide) (by decide) (by decide) (by decide) HP.out); clear hB5 hk5 l0 l1 l2 c9; have hcb := Rd.que (HQR.out.below HB.out.B) k x HX.out; have l0 := hcb 0 _ rfl; rw [Addr.add_zero'] at l0; have l1 := cells_at hcb 0 _ rfl; have l2 := cells_at hcb 1 _ rfl; have c9 := (HM.out.below HB.out.B).cell 9 _ rfl; rw [HA.out] at c9; clear hcb)
          | (go_at_call 47; (with_reducible refine (HB.out.num2 (by omega) _ (by omega)).mono ?_); rintro e W5 ⟨A5, n5, c5, rfl, hB5, hk5⟩; replace HB := Lib.hid hB5; replace HP := Lib.hid (hk5 _ _ _ (by decide) (by decide) (by decide) (by decide) HP.out); clear hB5 hk5 l0 l1 l2 c9; have hcb := Rd.que (HQR.out.below HB.out.B) k x HX.out; have l0 := hcb 0 _ rfl; rw [Addr.add_zero'] at l0; have l1 := cells_at hcb 0 _ rfl; have l2 := cells_at hcb 1 _ rfl; have c9 := (HM.out.below HB.out.B).cell 9 _ rfl; rw [HA.out] at c9; clear hcb))
        go_roundw
        case rel => exact ⟨k + 1, _, _, _, _, _, HLT.out, by go_num, rfl, Lib.hid HST.out, HB.out.weak (by omega) (by omega), HP.out⟩
        case measure => simp [intOf]; omega
      · obtain rfl : k = m.q.n := by omega
        rw [List.take_of_length_le (by rw [HO.out.q.len]; omega)] at HE
        have HB0 := Lib.hid hB
        have HP := Lib.hid hP
        have HE0 := HE
        clear hlt HE hB hP
        go_wp2
        clear c9
        go_loopw [4, 9] (fun v i wr => PrI W1 rt m P v i wr) (fun _ i _ => 3 - (intOf i).toNat)
        case atStart => exact ⟨0, l, tab, A, n, c, by omega, rfl, rfl, Lib.hid HE0.out, HB0.out.weak (by omega) (by omega), HP.out⟩
        case round =>
          clear HB0 HE0 HP
          obtain ⟨p, l, tab, A, n, c, hp, rfl, rfl, HE, hB, hP⟩ := hrel
          by_cases hlt : p < 3
          · have hpi : (p : Int) < 3 := by omega
            have hpo := Mg.part_ok HO.out p
            have hpn := HG.out.p p hlt
            have hrs := HG.out.rs p hlt
            have hrw := HFIT.out.rs p hlt
            have hps := partsB_s m p
            rw [HE.out] at hps
            obtain ⟨s, hs⟩ : ∃ s, m.part p = s := ⟨_, rfl⟩
            have HCP := Lib.hid (show (partsL m)[p]? = some (.slice s.a s.n s.c) by rw [← hs]; exact partsL_get m p hlt)
            rw [hs] at hpo hpn hrs hps hrw
            have HPO := Lib.hid hpo
            have HRS := Lib.hid hrs
            have HRW := Lib.hid hrw
            have HPS := Lib.hid hps
            have HB1' := Lib.hid hB
            have HP1 := Lib.hid hP
            have HLT3 := Lib.hid hlt
            have HP3 := Lib.hid hp
            clear hpo hrs hps hs hlt HE hB hp hrw hP
            go_wp2
            go_loopw [4, 10] (fun v i wr => RrI W1 rt m P s l tab p v i wr) (fun _ i _ => s.n - (intOf i).toNat)
            case atStart => exact ⟨0, l, tab, A, n, c, Nat.zero_le _, rfl, rfl, Lib.hid rfl, HB1'.out.weak (by omega) (by omega), HP1.out⟩
            case round =>
              clear HB1' HP1
              obtain ⟨k, l1, tab1, A, n, c, hk, rfl, rfl, HE, hB, hP⟩ := hrel
              have hp3 := HLT3.out
              have p0 := hP.cell p _ HCP.out
              by_cases hlt : k < s.n
              · obtain ⟨x, hx⟩ : ∃ x, s.l[k]? = some x := ⟨_, List.getElem?_eq_getElem (by rw [HPO.out.len]; exact hlt)⟩
                have hxd := HRS.out x (List.mem_of_getElem? hx)
                have hxr := (HRW.out x (List.mem_of_getElem? hx)).2.1
                have hty := hxd.ok.ty
                have hcl := hxd.ok.cl
                have httl := hxd.ok.ttl
                have hst := fold_take encR (l, tab) s.l k x hx
                rw [HE.out] at hst
                have hq4 := HPO.out.r
                cases hA : s.a with
                | none => have := (hq4.nil_ hA).1; omega
                | some aq =>
                rw [hA] at hq4 p0
                have hcb : Cells wr (aq.add (k * 12)) [.string x.nm, .int .u16 x.ty, .int .u16 x.cl, .int .u32 x.ttl, .string x.raw, .string x.host, .string x.mail, .int .u32 x.n0, .int .u32 x.n1, .int .u32 x.n2, .int .u32 x.n3, .int .u32 x.n4] := Rd.rec (hq4.below (hB.B)) k x hx
                have hki : (k : Int) < (s.n : Int) := by omega
                have hB1 := hB.below (below_new wr (.cells #[.string x.nm, .int .u16 x.ty, .int .u16 x.cl, .int .u32 x.ttl, .string x.raw, .string x.host, .string x.mail, .int .u32 x.n0, .int .u32 x.n1, .int .u32 x.n2, .int .u32 x.n3, .int .u32 x.n4] 46))
                have hX1 := Blk.new wr 46 #[.string x.nm, .int .u16 x.ty, .int .u16 x.cl, .int .u32 x.ttl, .string x.raw, .string x.host, .string x.mail, .int .u32 x.n0, .int .u32 x.n1, .int .u32 x.n2, .int .u32 x.n3, .int .u32 x.n4]
                have HP := Lib.hid (hP.alloc (.cells #[.string x.nm, .int .u16 x.ty, .int .u16 x.cl, .int .u32 x.ttl, .string x.raw, .string x.host, .string x.mail, .int .u32 x.n0, .int .u32 x.n1, .int .u32 x.n2, .int .u32 x.n3, .int .u32 x.n4] 46))
                have HB := Lib.hid hB1
                have HX := Lib.hid hX1
                have HST := Lib.hid hst
                have HXD := Lib.hid hxd
                have HXR := Lib.hid hxr
                have HLT := Lib.hid hlt
                clear hB hP hst hxd hq4 hx hA hlt HE hB1 hX1 hxr
                have hX := HX.out
                have x0 := hX.cell 0 _ rfl
                have x1 := hX.cell 1 _ rfl
                have x2 := hX.cell 2 _ rfl
                have x3 := hX.cell 3 _ rfl
                clear hX
                go_upto_region 28 with (first
                  | (refine wpList_getAt rfl 46 (.tmp 141) rfl (aq.add (k * 12)) rfl [.string x.nm, .int .u16 x.ty, .int .u16 x.cl, .int .u32 x.ttl, .string x.raw, .string x.host, .string x.mail, .int .u32 x.n0, .int .u32 x.n1, .int .u32 x.n2, .int .u32 x.n3, .int .u32 x.n4] _ hcb Tryd.underlying46 rfl sizeRec ?_)
                  | (go_at_call 48; refine (HB.out.name (by omega) (by omega) x.nm HXD.out.nm).mono ?_; rintro e W5 ⟨a5, b5, rfl, A5, n5, c5, rfl, rfl, hB5, hk5⟩; replace HB := Lib.hid hB5; replace HP := Lib.hid (hk5 _ _ _ (by decide) (by decide) (by decide) (by decide) HP.out); replace HX := Lib.hid (hk5 _ _ _ (by decide) (by decide) (by decide) (by decide) HX.out); clear hB5 hk5 x0 x1 x2 x3 p0 hcb; have hX := HX.out; have x0 := hX.cell 0 _ rfl; have x1 := hX.cell 1 _ rfl; have x2 := hX.cell 2 _ rfl; have x3 := hX.cell 3 _ rfl; clear hX)
                  | (go_at_call 47; (with_reducible refine (HB.out.num2 (by omega) _ (by omega)).mono ?_); rintro e W5 ⟨A5, n5, c5, rfl, hB5, hk5⟩; replace HB := Lib.hid hB5; replace HP := Lib.hid (hk5 _ _ _ (by decide) (by decide) (by decide) (by decide) HP.out); replace HX := Lib.hid (hk5 _ _ _ (by decide) (by decide) (by decide) (by decide) HX.out); clear hB5 hk5 x0 x1 x2 x3; have hX := HX.out; have x0 := hX.cell 0 _ rfl; have x1 := hX.cell 1 _ rfl; have x2 := hX.cell 2 _ rfl; have x3 := hX.cell 3 _ rfl; clear hX)
                  | (go_at_call 47; (with_reducible refine (HB.out.num4 (by omega) _ (by omega)).mono ?_); rintro e W5 ⟨A5, n5, c5, rfl, hB5, hk5⟩; replace HB := Lib.hid hB5; replace HP := Lib.hid (hk5 _ _ _ (by decide) (by decide) (by decide) (by decide) HP.out); replace HX := Lib.hid (hk5 _ _ _ (by decide) (by decide) (by decide) (by decide) HX.out); clear hB5 hk5 x0 x1 x2 x3; have hX := HX.out; have x0 := hX.cell 0 _ rfl; have x1 := hX.cell 1 _ rfl; have x2 := hX.cell 2 _ rfl; have x3 := hX.cell 3 _ rfl; clear hX))
                clear x0 x1 x2 x3
                have hbx : wr.heap.size < W5.heap.size := HX.out.lt
                obtain ⟨b, hb⟩ : ∃ b, wr.heap.size = b := ⟨_, rfl⟩
                rw [hb] at HX hbx ⊢
                clear hb hbx
                have HBq := Lib.hid (show Rb W1 rt (recB (l1, tab1) x) (en false tab1 (lsOf x.nm) l1.length).2 A5 n5 c5 (2000000 + 1884160000 * p + 460000 * k + 300) (2000000 + 8601600 * p + 2100 * k + 255) W5 from HB.out.weak (by omega) (by omega))
                have HL6 := Lib.hid HBq.out.len
                clear HB
                go_upto_region 29 with (fail)
                go_cut [4] from 127 to 196 (fun v wx => ∃ A7 n7 c7, v = .slice A7 n7 c7 ∧ Hid (Rb W1 rt (recD (l1, tab1) x).1 (recD (l1, tab1) x).2.1 A7 n7 c7 (2000000 + 1884160000 * p + 460000 * k + 460000) (2000000 + 8601600 * p + 2100 * k + 2100) wx) ∧ Hid (Blk wx P 24 (partsL m)))
                case first =>
                  have HN6 := Lib.hid HBq.out.bd
                  have HBA := Lib.hid (show Rb W1 rt (recB (l1, tab1) x) (en false tab1 (lsOf x.nm) l1.length).2 A5 n5 c5 (2000000 + 1884160000 * p + 460000 * k + 300) (2000000 + 8601600 * p + 2100 * k + 255) (W5.alloc (.cells #[.int .u8 0, .int .u8 0] 5)).drew from (HBq.out.below (below_new _ _)).drew)
                  have HXA := Lib.hid (show Blk (W5.alloc (.cells #[.int .u8 0, .int .u8 0] 5)).drew b 46 [.string x.nm, .int .u16 x.ty, .int .u16 x.cl, .int .u32 x.ttl, .string x.raw, .string x.host, .string x.mail, .int .u32 x.n0, .int .u32 x.n1, .int .u32 x.n2, .int .u32 x.n3, .int .u32 x.n4] from HX.out.alloc _)
                  have HPA := Lib.hid (show Blk (W5.alloc (.cells #[.int .u8 0, .int .u8 0] 5)).drew P 24 (partsL m) from HP.out.alloc _)
                  have hXY : Blk (W5.alloc (.cells #[.int .u8 0, .int .u8 0] 5)) b 46 [.string x.nm, .int .u16 x.ty, .int .u16 x.cl, .int .u32 x.ttl, .string x.raw, .string x.host, .string x.mail, .int .u32 x.n0, .int .u32 x.n1, .int .u32 x.n2, .int .u32 x.n3, .int .u32 x.n4] := HX.out.alloc _
                  have y1 := hXY.cell 1 _ rfl
                  have y4 := hXY.cell 4 _ rfl
                  have y5 := hXY.cell 5 _ rfl
                  have y6 := hXY.cell 6 _ rfl
                  have y7 := hXY.cell 7 _ rfl
                  have y8 := hXY.cell 8 _ rfl
                  have y9 := hXY.cell 9 _ rfl
                  have y10 := hXY.cell 10 _ rfl
                  have y11 := hXY.cell 11 _ rfl
                  clear hXY
                  have HRA := Lib.hid (show Rd (W5.alloc (.cells #[.int .u8 0, .int .u8 0] 5)).drew 1 (some ⟨W5.heap.size, 0, none⟩) 2 2 [.int .u8 0, .int .u8 0] from (two_rd W5 0 0).drew)
                  replace HX := Lib.hid (show Blk W5.drew b 46 [.string x.nm, .int .u16 x.ty, .int .u16 x.cl, .int .u32 x.ttl, .string x.raw, .string x.host, .string x.mail, .int .u32 x.n0, .int .u32 x.n1, .int .u32 x.n2, .int .u32 x.n3, .int .u32 x.n4] from HX.out)
                  have hX := HX.out
                  have x1 := hX.cell 1 _ rfl
                  have x4 := hX.cell 4 _ rfl
                  have x5 := hX.cell 5 _ rfl
                  have x6 := hX.cell 6 _ rfl
                  have x7 := hX.cell 7 _ rfl
                  have x8 := hX.cell 8 _ rfl
                  have x9 := hX.cell 9 _ rfl
                  have x10 := hX.cell 10 _ rfl
                  have x11 := hX.cell 11 _ rfl
                  clear hX
                  go_region_law (first
                    | (refine step_app W1 (W5.alloc (.cells #[.int .u8 0, .int .u8 0] 5)).drew W1.heap.size rfl _ _ 27 27 5 (.int .u8 0) 1 1 rfl Tryd.underlying27 info_u8 rfl (by omega) (by omega) (.slice A5 n5 c5) n5 (bs (recB (l1, tab1) x)) rfl (.own HBA.out.own) (.slice (some ⟨W5.heap.size, 0, none⟩) 2 2) 2 [.int .u8 0, .int .u8 0] rfl (.slice HRA.out two_one) HBA.out.B HBA.out.B.size (by have := HN6.out; omega) ?_; intro v1 w1 hv1 ho1 hb1 hg1; obtain ⟨A7, c7, rfl, hB7, hk7⟩ := HBA.out.two hg1 (by rw [bs_append]; exact ho1 (.inl (by omega))); replace HX := Lib.hid (hk7 _ _ _ (by decide) (by decide) (by decide) (by decide) HXA.out); have HP7 := Lib.hid (hk7 _ _ _ (by decide) (by decide) (by decide) (by decide) HPA.out); have HB7 := Lib.hid hB7; clear hv1 ho1 hb1 hg1 hB7 hk7 y1 y4 y5 y6 y7 y8 y9 y10 y11 x1 x4 x5 x6 x7 x8 x9 x10 x11 HBA HXA HPA HRA; have hX := HX.out; have x1 := hX.cell 1 _ rfl; have x4 := hX.cell 4 _ rfl; have x5 := hX.cell 5 _ rfl; have x6 := hX.cell 6 _ rfl; have x7 := hX.cell 7 _ rfl; have x8 := hX.cell 8 _ rfl; have x9 := hX.cell 9 _ rfl; have x10 := hX.cell 10 _ rfl; have x11 := hX.cell 11 _ rfl; clear hX)
                    | (go_simp; go_at_call 49; refine (HB7.out.data (by omega) (by omega) x HXD.out HXR.out).mono ?_; rintro e W8 ⟨a8, b8, rfl, A8, n8, c8, rfl, rfl, hB8, hk8⟩; have HB8 := Lib.hid hB8; have HP8 := Lib.hid (hk8 _ _ _ (by decide) (by decide) (by decide) (by decide) HP7.out); clear hB8 hk8))
                  all_goals
                    go_wp2_with fail
                    go_meet
                    exact ⟨_, _, _, rfl, Lib.hid (HB8.out.weak (by omega) (by omega)), HP8⟩
                case rest =>
                  clear HX HBq HP
                  obtain ⟨A7, n7, c7, rfl, HB, HP⟩ := hcut
                  have hl7 := HB.out.len
                  have hl6 := HL6.out
                  have hsz := (encs_len x.dt (formV x.ty) (recB (l1, tab1) x ++ [0, 0], (en false tab1 (lsOf x.nm) l1.length).2, 0) (fun c hc => okF_need HXD.out.dt c hc)).1
                  have hge : n5 + 2 ≤ n7 := by
                    have e : ((formV x.ty).foldl (encL x.dt) (recB (l1, tab1) x ++ [0, 0], (en false tab1 (lsOf x.nm) l1.length).2, 0)) = recD (l1, tab1) x := rfl
                    rw [e, hl7] at hsz
                    simp only [List.length_append, List.length_cons, List.length_nil] at hsz
                    omega
                  obtain ⟨g7, rfl⟩ : ∃ g7, A7 = some ⟨g7, 0, none⟩ := by
                    rcases HB.out.own.2 with ⟨hv, _⟩ | ⟨g8, cap, cur, hv, _⟩
                    · cases hv; omega
                    · cases hv; exact ⟨g8, rfl⟩
                  have f0 := own_free HB.out.own n5
                  have f1 := own_free HB.out.own (n5 + 1)
                  obtain ⟨y0, hy0⟩ : ∃ y, (bs (recD (l1, tab1) x).1)[n5]? = some y := ⟨_, List.getElem?_eq_getElem (by rw [bs_length, hl7]; omega)⟩
                  obtain ⟨y1, hy1⟩ : ∃ y, (bs (recD (l1, tab1) x).1)[n5 + 1]? = some y := ⟨_, List.getElem?_eq_getElem (by rw [bs_length, hl7]; omega)⟩
                  have s0 := own_cellj HB.out.own n5 y0 hy0
                  have s1 := own_cellj HB.out.own (n5 + 1) y1 hy1
                  clear hy0 hy1
                  have hbd := HB.out.bd
                  have HL7 := Lib.hid hl7
                  have hi1 : (n5 : Int) < (n7 : Int) := by omega
                  have hi2 : (n5 : Int) + 1 < (n7 : Int) := by omega
                  have hi3 : n7 ≤ 12000000000 := by omega
                  obtain ⟨hfa, hka⟩ := HB.out.put n5 (byteAt (recN (l1, tab1) x) 1) (by omega)
                  obtain ⟨hfin, hkb⟩ := hfa.put (n5 + 1) (byteAt (recN (l1, tab1) x) 0) (by omega)
                  have hpf := (hka.trans hkb) _ _ _ (by decide) (by decide) (by decide) (by decide) HP.out
                  rw [byteAt_toNat, byteAt_toNat, show recN (l1, tab1) x = (n7 : Int) - (n5 : Int) - 2 by unfold recN; rw [hl7, hl6], show (256 : Int) ^ 1 = 256 from rfl, show (256 : Int) ^ 0 = 1 from rfl, Int.ediv_one] at hfin hpf
                  have HFIN := Lib.hid hfin
                  have HPF := Lib.hid hpf
                  have hge' : (n5 : Int) + 2 ≤ (n7 : Int) := by omega
                  clear hl7 hl6 hsz hbd hfin hge hpf hka hkb hfa
                  go_wp2
                  go_roundw
                  case rel =>
                    have hst := HST.out
                    have hfin := HFIN.out
                    have hpf := HPF.out
                    rw [show encR (l1, tab1) x = (((recD (l1, tab1) x).1.set n5 (byteAt ((n7 : Int) - (n5 : Int) - 2) 1)).set (n5 + 1) (byteAt ((n7 : Int) - (n5 : Int) - 2) 0), (recD (l1, tab1) x).2.1) by unfold encR recN; rw [HL6.out, HL7.out]] at hst
                    have hR : RrI W1 rt m P s l tab p (.slice (some ⟨g7, 0, none⟩) n7 c7) (.int .i64 ((k : Int) + 1)) ((wc.setCell ⟨g7, n5, none⟩ (.int .u8 (((n7 : Int) - (n5 : Int) - 2) / 256 % 256))).setCell ⟨g7, n5 + 1, none⟩ (.int .u8 (((n7 : Int) - (n5 : Int) - 2) % 256))) := ⟨k + 1, _, _, _, _, _, HLT.out, by go_num, rfl, Lib.hid hst, hfin.weak (by omega) (by omega), hpf⟩
                    first | exact hR | (repeat (first | exact ⟨hR, rfl⟩ | apply Exists.intro))
                  case measure => simp [intOf]; omega
              · obtain rfl : k = s.n := by omega
                rw [List.take_of_length_le (by rw [HPO.out.len]; omega)] at HE
                have hps := HPS.out
                rw [HE.out] at hps
                have HPS2 := Lib.hid hps
                have HB9 := Lib.hid hB
                have HP9 := Lib.hid hP
                clear hB HE hlt hps hP
                go_wp2
                go_roundw
                case rel =>
                  have hR : PrI W1 rt m P (.slice A n c) (.int .i64 ((p : Int) + 1)) wr := ⟨p + 1, l1, tab1, A, n, c, hp3, by go_num, rfl, HPS2, HB9.out.weak (by omega) (by omega), HP9.out⟩
                  first | exact hR | (repeat (first | exact ⟨hR, rfl⟩ | apply Exists.intro))
                case measure => simp [intOf]; omega
          · obtain rfl : p = 3 := by omega
            have hmb : msgB m = l := congrArg Prod.fst HE.out
            have HB9 := Lib.hid hB
            have HMB := Lib.hid hmb
            clear hB HE hlt hmb hP
            go_wp2
            first
              | (rw [← HR.out]; exact ⟨A, n, c, rfl, by rw [HMB.out]; exact HB9.out.rd, below_trans HB1.out HB9.out.B⟩)
              | (go_ret; rw [← HR.out]; exact ⟨A, n, c, rfl, by rw [HMB.out]; exact HB9.out.rd, below_trans HB1.out HB9.out.B⟩)
end Go.Proofs.YtdjknikkiojfhaaDoor
