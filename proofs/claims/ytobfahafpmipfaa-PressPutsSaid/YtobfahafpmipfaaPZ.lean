/- hearsayref03's put: contract, by a walk: the same as the code's row. -/
import Derived.Test.YtobfahafpmipfaaPY
namespace Go.Proofs.Ytobfahafpmipfaa
open Go.RowKit Go.HL
set_option linter.unusedVariables false
set_option linter.unusedSimpArgs false
theorem own_n {w : World} {base n m c size : Nat} {e : TypeId} {A : Option Addr} {cs : List Value} (h : w.ownsRow base e size (.slice A n c) m cs) : n = m := by
  obtain ⟨A1, c1, e1, _⟩ := own_rd h
  cases e1
  rfl
theorem chg_fresh {rt : Nat} {W X X' : World} {row : Option Nat} (h : Chg rt W X) (hs : rt ≤ W.heap.size) (hg : X.grownBy X' row) (hr : ∀ k, row = some k → W.heap.size ≤ k) : Chg rt W X' := by
  refine ⟨h.1.grown hg (Nat.le_trans hs h.1.size) (fun k hk => Nat.le_trans hs (hr k hk)), fun k c f hk => ?_⟩
  have hlt := (Array.getElem?_eq_some_iff.1 hk).1
  rw [hg.block k (Nat.lt_of_lt_of_le hlt h.1.size) (fun e => by have := hr k e.symm; omega)]
  exact h.2 k c f hk
theorem RefT.grow {X X' : World} {rt : Nat} {vn vp : Value} {tab : Tb} (h : RefT X rt vn vp tab) {base n size : Nat} {v : Value} {cs : List Value} (ho : X.ownsRow base 5 size v n cs) (hb : rt < base) (hg : X.grownBy X' v.ownBlock) : RefT X' rt vn vp tab :=
  ⟨(hg.block rt h.lt (fun e => by have := own_base ho rt e.symm; omega)).trans h.box, own_kept_other h.rn ho (by decide) hg, own_kept_other h.rp ho (by decide) hg⟩
theorem look_skip {t t' : Tb} {m : List UInt8} (h : ∀ p ∈ t', m.length < p.1.length) : HL.look (t ++ t') m = HL.look t m := by
  unfold HL.look
  rw [List.find?_append]
  have : t'.find? (fun p => p.1 == m) = none := by
    rw [List.find?_eq_none]
    intro p hp e
    have h1 := h p hp
    have h2 : p.1 = m := by simpa using e
    rw [h2] at h1
    omega
  rw [this, Option.or_none]
/-- What the document's put tells. -/
def RefR (W : World) (rt : Nat) (plain : Bool) (l : List UInt8) (ls : List (List UInt8)) (tab : Tb) (a b : Value) (w' : World) : Prop :=
  b = .int .i64 0 ∧ w'.ownsRow W.heap.size 5 1 a (l.length + (en plain tab ls l.length).1.length) (bs (l ++ (en plain tab ls l.length).1)) ∧ ∃ vn' vp', RefT w' rt vn' vp' (en plain tab ls l.length).2 ∧ Chg rt W w'
theorem rput_two (w : World) (p b s : Value) (R : Value → Value → World → Prop) (h : Calls Try.prog 26 #[p, b, s, .bool false] w (Two R)) : Calls Try.prog 17 #[p, b, s] w (Two R) := by
  go_enter Try.func17, Try.ntmps17
  go_wp2_with (go_at_call 26; refine h.mono ?_; clear h; rintro e w1 ⟨x, y, rfl, hR⟩)
  go_ret2
  exact ⟨x, y, rfl, hR⟩
theorem rplain_two (w : World) (p b s : Value) (R : Value → Value → World → Prop) (h : Calls Try.prog 26 #[p, b, s, .bool true] w (Two R)) : Calls Try.prog 15 #[p, b, s] w (Two R) := by
  go_enter Try.func15, Try.ntmps15
  go_wp2_with (go_at_call 26; refine h.mono ?_; clear h; rintro e w1 ⟨x, y, rfl, hR⟩)
  go_ret2
  exact ⟨x, y, rfl, hR⟩
def PutI (W : World) (plain : Bool) (l : List UInt8) (ls : List (List UInt8)) (tab : Tb) (v vn vp i : Value) (wr : World) : Prop :=
  ∃ (j : Nat) (nw : Tb) (out : List UInt8) (pre : List ByteArray), i = .int .i64 j ∧ j ≤ ls.length ∧ wr.ownsRow W.heap.size 5 1 v (l.length + out.length) (bs (l ++ out)) ∧ wr.ownsRow W.heap.size 23 1 vn nw.length (tnm nw) ∧ wr.ownsRow W.heap.size 3 1 vp nw.length (tpl nw) ∧
    RowP plain l ls tab pre out (ls.drop j) (tab ++ nw) ∧ (∀ p ∈ nw, (gl (ls.drop j)).length < p.1.length) ∧ nw.length ≤ j ∧ Below W.heap.size W wr
theorem strs_drop (ls : List (List UInt8)) (i : Nat) : (strs ls).drop i = strs (ls.drop i) := by simp [strs]
theorem rput_bad (W : World) (rt : Addr) (A : Option Addr) (n c : Nat) (s : ByteArray) (plain : Bool) (hs : s.size ≤ 140737488355328) (hno : isNm s = false) :
    Calls Try.prog 26 #[.pointer (some rt), .slice A n c, .string s, .bool plain] W (Two (NoneB W 11)) := by
  have hsp := split_ W s hs
  unfold SplitP at hsp
  rw [hno] at hsp
  go_enter Try.func26, Try.ntmps26
  go_wp2_with (go_at_call 32; refine hsp.mono ?_; clear hsp; rintro e w1 ⟨A1, n1, c1, rfl, hh, hb⟩; clear hh)
  go_ret2
  exact ⟨_, _, rfl, rfl, rfl, hb⟩
theorem two_rd (W : World) (a b : Int) : Rd (W.alloc (.cells #[.int .u8 a, .int .u8 b] 5)) 1 (some ⟨W.heap.size, 0, none⟩) 2 2 [.int .u8 a, .int .u8 b] :=
  ⟨rfl, fun h => (by cases h), Nat.le_refl _, fun ad had => by cases had; exact World.news_of_block (cs := #[.int .u8 a, .int .u8 b]) (t := 5) (fr := (0, 0)) (heap_alloc_new W _)⟩
theorem be_two (p y1 y2 : Nat) (h1 : p / 256 = y1) (h2 : p % 256 = y2) (hp : p ≤ 16383) : bs (be 2 (49152 + (p : Int))) = [.int .u8 (192 + (y1 : Int)), .int .u8 (y2 : Int)] := by
  have e0 := byteAt_toNat (49152 + (p : Int)) 0
  have e1 := byteAt_toNat (49152 + (p : Int)) 1
  show [B (byteAt (49152 + (p : Int)) 1), B (byteAt (49152 + (p : Int)) 0)] = _
  rw [B, B]
  congr 1
  · congr 1; omega
  · congr 1; congr 1; omega
set_option maxRecDepth 8000 in
set_option maxHeartbeats 4000000 in
theorem rput_ok (W : World) (rt : Nat) (vn vp : Value) (tab : Tb) (h : RefT W rt vn vp tab) (hl : tab.length ≤ 500000) (hbd : ∀ p ∈ tab, p.2 ≤ 16383) (A : Option Addr) (n c : Nat) (l : List UInt8) (hr : Rd W 1 A n c (bs l)) (hn : n ≤ 1000000) (ls : List (List UInt8)) (hok : okL ls) (h255 : (gl ls).length ≤ 255) (plain : Bool) :
    Calls Try.prog 26 #[.pointer (some ⟨rt, 0, none⟩), .slice A n c, .string (str (gl ls)), .bool plain] W (Two (RefR W rt plain l ls tab)) := by
  have hbl := hr.blen
  have hsp := split_ W (str (gl ls)) (by rw [str_size]; omega)
  unfold SplitP at hsp
  rw [isNm_gl hok, decide_eq_true h255, str_toList, labsT_gl ls hok] at hsp
  have hrl := h.lt
  have HT := Lib.hid h
  have HR := Lib.hid hr
  obtain ⟨s, hs⟩ : ∃ s, str (gl ls) = s := ⟨_, rfl⟩
  rw [hs] at hsp ⊢
  have hcnt := gl_count ls
  clear h hr hs
  go_enter Try.func26, Try.ntmps26
  go_wp2_with (first | (go_at_call 32; refine hsp.mono ?_; clear hsp; rintro e w1 ⟨A1, n1, c1, rfl, hh, hb1⟩; obtain ⟨ls', e1, ho1⟩ := hh rfl; cases e1; obtain rfl := own_n ho1; clear hh; have HO1 := Lib.hid ho1; clear ho1) | (at_builtin; refine wpList_app_nil W w1 W.heap.size rfl _ _ 22 22 5 (.int .u8 0) 1 1 rfl Try.underlying22 info_u8 rfl (by omega) (by omega) rfl (.slice A n c) n (bs l) rfl (.slice (HR.out.below hb1) (bs_one _)) hb1 hb1.size (by omega) ?_; intro v2 w2 ho2 hb2 hg2; have HO2 := Lib.hid ho2; have HO12 := Lib.hid (own_below HO1.out (Below.mk hg2.os hg2.tape hg2.output hg2.size (fun i hi => hg2.block i hi (by simp)))); clear ho2 hg2))
  go_loopw [12, 13, 14, 15] (fun v vn vp i wr => PutI W plain l ls tab v vn vp i wr ∧ wr.ownsRow W.heap.size 9 1 (.slice A1 ls.length c1) ls.length (strs ls)) (fun _ _ _ i _ => ls.length - (intOf i).toNat)
  case atStart => exact ⟨⟨0, [], [], [], rfl, Nat.zero_le _, (by rw [List.length_nil, Nat.add_zero, List.append_nil, hbl]; exact HO2.out), World.ownsRow_nil _ _ _ _, World.ownsRow_nil _ _ _ _, ⟨by simp, hok, by simp, by simp, by simp⟩, (fun p hp => by cases hp), Nat.le_refl _, hb2⟩, HO12.out⟩
  case round =>
    obtain ⟨⟨j, nw, out, pre, rfl, hj, hov, hon, hop, hP, hnw, hnl, hb⟩, hol⟩ := hrel
    obtain ⟨Av, cv, rfl, hrv⟩ := own_rd hov
    obtain ⟨An, cn, rfl, hrn⟩ := own_rd hon
    obtain ⟨Ap, cp, rfl, hrp⟩ := own_rd hop
    have HOV := Lib.hid hov
    have HON := Lib.hid hon
    have HOP := Lib.hid hop
    have HOL := Lib.hid hol
    have HP := Lib.hid hP
    have HNW := Lib.hid hnw
    have HTW := Lib.hid (HT.out.below hb)
    have hz := hb.size
    have hlen := hP.len
    have hgp := gl_pos (ls.drop j)
    clear hov hon hop hol hP hnw hrv hrn hrp
    obtain ⟨m0, hm0⟩ : ∃ m0, l.length + out.length = m0 := ⟨_, rfl⟩
    have hm0b : m0 ≤ 1000255 := by omega
    by_cases hlt : j < ls.length
    · have hi1 : (j : Int) < (ls.length : Int) := by omega
      have hi0 : (0 : Int) ≤ (j : Int) := by omega
      obtain ⟨x, r, hxr⟩ : ∃ x r, ls.drop j = x :: r := ⟨_, _, List.drop_eq_getElem_cons hlt⟩
      have hxj : ls[j]? = some x := by
        have := congrArg (fun q => q[0]?) hxr
        simpa using this
      have hr1 : ls.drop (j + 1) = r := by
        have := congrArg List.tail hxr
        simpa using this
      have hokx := hok x (List.mem_of_getElem? hxj)
      have hcut := (rd_own HOL.out).cutS j (ls.length - j) c1 (by omega) (by have := (rd_own HOL.out).le; omega) (Nat.le_refl _)
      rw [Nat.mul_one, Nat.mul_one, strs_drop, hxr, List.take_of_length_le (by have := congrArg List.length hxr; rw [List.length_drop] at this; simp [strs]; simp at this; omega)] at hcut
      have HCUT := Lib.hid hcut
      have hokr : okL (x :: r) := by have := HP.out.ok; rwa [hxr] at this
      have hg255 : (gl (x :: r)).length ≤ 255 := by rw [hxr] at hlen; omega
      have hgl := gl_len x r
      have hlk : HL.look (tab ++ nw) (gl (x :: r)) = HL.look tab (gl (x :: r)) := look_skip (fun p hp => by have := HNW.out p hp; rwa [hxr] at this)
      have HXR := Lib.hid hxr
      have HR1 := Lib.hid hr1
      have HLK := Lib.hid hlk
      rw [hxr] at hlen
      have HFI := fun W' (hW' : Below wr.heap.size wr W') => find_ W' rt vn vp tab (gl (x :: r)) (HTW.out.below hW') (by omega)
      have HGL := fun W' (hr' : Rd W' 1 (cutS A1 j c1 1) (ls.length - j) (c1 - j) (strs (x :: r))) => glue_ W' _ _ _ (x :: r) hr' hokr hg255
      obtain ⟨nm, hnm⟩ : ∃ nm, str (gl (x :: r)) = nm := ⟨_, rfl⟩
      rw [hnm] at HFI HGL
      have HGL := Lib.hid HGL
      have HNM := Lib.hid hnm
      obtain ⟨a1, rfl⟩ : ∃ a1, A1 = some a1 := by
        cases A1 with
        | none => have := ((rd_own HOL.out).nil_ rfl).1; omega
        | some a1 => exact ⟨a1, rfl⟩
      have HCX := Lib.hid (fun W' (hW' : Below wr.heap.size wr W') => (((rd_own HOL.out).below hW').cells a1 rfl j (.string (str x)) (by simp [strs, hxj]) : W'.cell? (a1.add j) = some (.string (str x))))
      have c0 := HCX.out wr (Below.refl _ _)
      obtain ⟨xs, hxs⟩ : ∃ xs, str x = xs := ⟨_, rfl⟩
      have hxsz : xs.size = x.length := by rw [← hxs, str_size]
      rw [hxs] at HCX c0
      have HXS := Lib.hid hxs
      have HSX := Lib.hid (show (strs ls)[j]? = some (.string (str x)) by simp [strs, hxj])
      clear hxr hr1 hlk hnm hcut hxs hxj
      cases hlook : HL.look tab (gl (x :: r)) with
      | some p =>
        have hp16 := look_lt hbd hlook
        have hli : lookI tab (gl (x :: r)) = (p : Int) := by unfold lookI; rw [hlook]
        rw [hli] at HFI
        have HFI := Lib.hid HFI
        have HLO := Lib.hid hlook
        clear hli hlook
        have hp0 : (0 : Int) ≤ (p : Int) := by omega
        have hp1 : ¬ (p : Int) < 0 := by omega
        cases plain with
        | false =>
          have htd : Int.tdiv (p : Int) 256 = ((p / 256 : Nat) : Int) := by rw [Int.tdiv_eq_ediv_of_nonneg hp0]; rfl
          have htm : Int.tmod (p : Int) 256 = ((p % 256 : Nat) : Int) := by rw [Int.tmod_eq_emod_of_nonneg hp0]; rfl
          have q1 : p / 256 ≤ 63 := by omega
          have q2 : p % 256 < 256 := by omega
          obtain ⟨y1, hy1⟩ : ∃ y1, p / 256 = y1 := ⟨_, rfl⟩
          obtain ⟨y2, hy2⟩ : ∃ y2, p % 256 = y2 := ⟨_, rfl⟩
          rw [hy1] at htd q1
          rw [hy2] at htm q2
          have hw1 : IntKind.u8.wrap (192 + (y1 : Int)) = 192 + (y1 : Int) := wraps_u8 _ (by omega) (by omega)
          have hw2 : IntKind.u8.wrap (y2 : Int) = (y2 : Int) := wraps_u8 _ (by omega) (by omega)
          have HY := Lib.hid (And.intro hy1 hy2)
          clear hy1 hy2
          rw [hm0] at HOV ⊢
          go_wp2_with (first | (refine wpList_cutL rfl 52 9 (.tmp 33) (.tmp 34) rfl Try.underlying52 (size := 1) (by kernel_rfl) (some a1) ls.length c1 rfl rfl j rfl (by omega) ?_) | (go_at_call 23; refine (HGL.out _ HCUT.out).mono ?_; clear HGL; rintro e w3 ⟨rfl, hb3⟩; have c3 := HCX.out w3 hb3; have hz3 := hb3.size) | (go_at_call 33; refine (HFI.out _ hb3).mono ?_; clear HFI; rintro e w4 ⟨rfl, rfl⟩) | (go_at_call 34; refine (keep_ w3 rt vn vp tab nw (HTW.out.below hb3) (by omega) (by omega) An Ap cn cp (own_lower (own_below HON.out hb3) (by omega)) (own_lower (own_below HOP.out hb3) (by omega))).mono ?_; rintro e w5 ⟨rfl, vn5, vp5, hT5, hC5⟩; have HT5 := Lib.hid hT5; have HC5 := Lib.hid hC5; have hov5 := hC5.own (own_below HOV.out hb3); have HOV5 := Lib.hid hov5; have hz5 := hC5.1.size; clear hT5 hC5 hov5) | (at_builtin; refine wpList_app (w0 := w5.alloc (.cells #[.int .u8 (192 + (y1 : Int)), .int .u8 (y2 : Int)] 5)) (w5.alloc (.cells #[.int .u8 (192 + (y1 : Int)), .int .u8 (y2 : Int)] 5)) W.heap.size rfl _ _ 22 22 5 (.int .u8 0) 1 1 rfl Try.underlying22 info_u8 rfl (by omega) (by omega) (.slice Av m0 cv) m0 (bs (l ++ out)) rfl (.own (HOV5.out.alloc _)) (.slice (some ⟨w5.heap.size, 0, none⟩) 2 2) 2 [.int .u8 (192 + (y1 : Int)), .int .u8 (y2 : Int)] rfl (.slice (two_rd w5 _ _) (by intro u hu; simp at hu; rcases hu with rfl | rfl <;> rfl)) (Below.refl _ _) (by rw [World.size_alloc]; omega) (by omega) ?_; intro v6 w6 _ ho6' hb6 hg6; have ho6 := ho6' (.inl (by omega)); have HO6 := Lib.hid ho6; have HG6 := Lib.hid hg6; clear ho6' ho6 hb6 hg6))
          go_ret2
          have hen : en false tab ls l.length = (out ++ be 2 (49152 + (p : Int)), tab ++ nw) := by
            rw [HP.out.en, HXR.out, HL.en, HLK.out, HLO.out]
            rfl
          refine ⟨_, _, rfl, ?_⟩
          unfold RefR
          rw [hen]
          refine ⟨rfl, ?_, vn5, vp5, ?_, ?_⟩
          · have e2 : bs (be 2 (49152 + (p : Int))) = [.int .u8 (192 + (y1 : Int)), .int .u8 (y2 : Int)] := be_two p y1 y2 HY.out.1 HY.out.2 (by omega)
            rw [← List.append_assoc, bs_app, e2, List.length_append, ← Nat.add_assoc, hm0]
            exact own_lower HO6.out (by omega)
          · exact (HT5.out.below (below_new w5 _)).grow (HOV5.out.alloc _) (by omega) HG6.out
          · exact chg_fresh (((chg_below hb (by omega)).trans (chg_below hb3 (by omega))).trans (HC5.out.trans (chg_below (below_new w5 _) (by omega)))) (by omega) HG6.out (fun k hk => own_base (HOV5.out.alloc (.cells #[] 5)) k hk)
        | true =>
          have HGX := Lib.hid (show (strs ls)[j]? = some (.string (str x)) from HSX.out)
          have hwx : IntKind.u8.wrap (x.length : Int) = (x.length : Int) := wraps_u8 _ (by omega) (by omega)
          rw [hm0] at HOV ⊢
          go_wp2_with (first | (refine wpList_cutL rfl 52 9 (.tmp 33) (.tmp 34) rfl Try.underlying52 (size := 1) (by kernel_rfl) (some a1) ls.length c1 rfl rfl j rfl (by omega) ?_) | (go_at_call 23; refine (HGL.out _ HCUT.out).mono ?_; clear HGL; rintro e w3 ⟨rfl, hb3⟩; have c3 := HCX.out w3 hb3; have hz3 := hb3.size) | (go_at_call 33; refine (HFI.out _ hb3).mono ?_; clear HFI; rintro e w4 ⟨rfl, rfl⟩; have HV3 := Lib.hid (own_below HOV.out hb3); have HN3 := Lib.hid (own_below HON.out hb3); have HP3 := Lib.hid (own_below HOP.out hb3); have HL3 := Lib.hid (own_below HOL.out hb3); have HB3 := Lib.hid (hb.trans (hb3.mono hz))) | (at_builtin; refine wpList_app1 (w0 := w3) W.heap.size rfl _ _ 22 5 (.int .u8 0) 1 rfl Try.underlying22 info_u8 rfl (by omega) (.slice Av m0 cv) m0 (bs (l ++ out)) (.int .u8 (x.length : Int)) rfl (.own HV3.out) rfl rfl (Below.refl _ _) (by omega) (by omega) ?_; intro v8 w8 ho8 hb8 hg8; have HV8 := Lib.hid ho8; have HN8 := Lib.hid (own_kept_other HN3.out HV3.out (by decide) hg8); have HP8 := Lib.hid (own_kept_other HP3.out HV3.out (by decide) hg8); have HL8 := Lib.hid (own_kept_other HL3.out HV3.out (by decide) hg8); have HB8 := Lib.hid (HB3.out.grown hg8 (by omega) (fun k hk => own_base HV3.out k hk)); have z8 := hg8.size; have c8 := (rd_own HL8.out).cells a1 rfl j (.string xs) (by rw [← HXS.out]; exact HGX.out); clear ho8 hb8 hg8) | (at_builtin; refine wpList_app (w0 := w8) w8 W.heap.size rfl _ _ 22 9 5 (.int .u8 0) 1 1 rfl Try.underlying22 info_u8 rfl (by omega) (by omega) v8 (m0 + 1) (bs (l ++ out) ++ [.int .u8 (x.length : Int)]) rfl (.own HV8.out) (.string xs) xs.size (bs xs.data.toList) rfl (.str Try.underlying9 Try.underlying22 info_u8 rfl xs) (Below.refl _ _) (by omega) (by omega) ?_; intro v9 w9 _ ho9' hb9 hg9; have ho9 := ho9' (.inr HV8.out); have HV9 := Lib.hid ho9; have HN9 := Lib.hid (own_kept_other HN8.out HV8.out (by decide) hg9); have HP9 := Lib.hid (own_kept_other HP8.out HV8.out (by decide) hg9); have HL9 := Lib.hid (own_kept_other HL8.out HV8.out (by decide) hg9); have HB9 := Lib.hid (HB8.out.grown hg9 (by omega) (fun k hk => own_base HV8.out k hk)); clear ho9' ho9 hb9 hg9))
          go_roundw
          case rel =>
            have hPx : RowP true l ls tab pre out (x :: r) (tab ++ nw) := by have := HP.out; rwa [HXR.out] at this
            have hPn := hPx.next (by rw [HLK.out, HLO.out]; rfl) (tab ++ nw) (by rw [HLK.out, HLO.out]; rfl)
            have hNL : ∀ p ∈ nw, (gl r).length < p.1.length := fun p hp => by
              have hold : p ∈ nw → (gl r).length < p.1.length := fun hp => by have := HNW.out p hp; rw [HXR.out] at this; omega
              exact hold hp
            refine ⟨⟨j + 1, nw, out ++ (UInt8.ofNat x.length :: x), _, by go_num, by omega, ?_, HN9.out, HP9.out, by rw [HR1.out]; exact hPn, by rw [HR1.out]; exact hNL, by omega, HB9.out⟩, HL9.out⟩
            have ho := HV9.out
            have ex : bs (l ++ (out ++ (UInt8.ofNat x.length :: x))) = bs (l ++ out) ++ [.int .u8 (x.length : Int)] ++ bs xs.data.toList := by
              rw [← List.append_assoc, bs_app, ← HXS.out, str_toList, List.append_assoc]
              simp only [bs, List.map_cons, List.singleton_append]
              rw [show B (UInt8.ofNat x.length) = .int .u8 (x.length : Int) by rw [B, ofNat_len (by omega)]]
            rw [ex, List.length_append, List.length_cons, show l.length + (out.length + (x.length + 1)) = m0 + 1 + xs.size by omega]
            exact ho
          case measure => simp [intOf]; omega
      | none =>
        have hli : lookI tab (gl (x :: r)) = -1 := by unfold lookI; rw [hlook]
        rw [hli] at HFI
        have HFI := Lib.hid HFI
        have HLO := Lib.hid hlook
        clear hli hlook
        by_cases hfar : m0 ≤ 16383
        · have hfar' : (m0 : Int) ≤ 16383 := by omega
          have HGX := Lib.hid (show (strs ls)[j]? = some (.string (str x)) from HSX.out)
          have hwx : IntKind.u8.wrap (x.length : Int) = (x.length : Int) := wraps_u8 _ (by omega) (by omega)
          rw [hm0] at HOV ⊢
          go_wp2_with (first | (refine wpList_cutL rfl 52 9 (.tmp 33) (.tmp 34) rfl Try.underlying52 (size := 1) (by kernel_rfl) (some a1) ls.length c1 rfl rfl j rfl (by omega) ?_) | (go_at_call 23; refine (HGL.out _ HCUT.out).mono ?_; clear HGL; rintro e w3 ⟨rfl, hb3⟩; have c3 := HCX.out w3 hb3; have hz3 := hb3.size) | (go_at_call 33; refine (HFI.out _ hb3).mono ?_; clear HFI; rintro e w4 ⟨rfl, rfl⟩; have HV3 := Lib.hid (own_below HOV.out hb3); have HN3 := Lib.hid (own_below HON.out hb3); have HP3 := Lib.hid (own_below HOP.out hb3); have HL3 := Lib.hid (own_below HOL.out hb3); have HB3 := Lib.hid (hb.trans (hb3.mono hz))) | (at_builtin; refine wpList_app1 (w0 := w3) W.heap.size rfl _ _ 34 23 (.string ByteArray.empty) 16 rfl Try.underlying34 info_nm rfl (by omega) (.slice An nw.length cn) nw.length (tnm nw) (.string nm) rfl (.own HN3.out) rfl rfl (Below.refl _ _) (by omega) (by omega) ?_; intro v6 w6 ho6 hb6 hg6; have ho6' : w6.ownsRow W.heap.size 23 1 v6 (nw ++ [(gl (x :: r), m0)]).length (tnm (nw ++ [(gl (x :: r), m0)])) := (by rw [List.length_append, tnm, List.map_append]; rw [← HNM.out] at ho6; exact ho6); have HN6 := Lib.hid ho6'; have HV6 := Lib.hid (own_kept_other HV3.out HN3.out (by decide) hg6); have HP6 := Lib.hid (own_kept_other HP3.out HN3.out (by decide) hg6); have HL6 := Lib.hid (own_kept_other HL3.out HN3.out (by decide) hg6); have HB6 := Lib.hid ((hb.trans (hb3.mono hz)).grown hg6 (by omega) (fun k hk => own_base HN3.out k hk)); have z6 := hg6.size; clear ho6 ho6' hb6 hg6) | (at_builtin; refine wpList_app1 (w0 := w6) W.heap.size rfl _ _ 35 3 (.int .i64 0) 8 rfl Try.underlying35 info_int rfl (by omega) (.slice Ap nw.length cp) nw.length (tpl nw) (.int .i64 (m0 : Int)) rfl (.own HP6.out) rfl rfl (Below.refl _ _) (by omega) (by omega) ?_; intro v7 w7 ho7 hb7 hg7; have ho7' : w7.ownsRow W.heap.size 3 1 v7 (nw ++ [(gl (x :: r), m0)]).length (tpl (nw ++ [(gl (x :: r), m0)])) := (by rw [List.length_append, tpl, List.map_append]; exact ho7); have HP7 := Lib.hid ho7'; have HV7 := Lib.hid (own_kept_other HV6.out HP6.out (by decide) hg7); have HN7 := Lib.hid (own_kept_other HN6.out HP6.out (by decide) hg7); have HL7 := Lib.hid (own_kept_other HL6.out HP6.out (by decide) hg7); have HB7 := Lib.hid (HB6.out.grown hg7 (by omega) (fun k hk => own_base HP6.out k hk)); have z7 := hg7.size; have c7 := (rd_own HL7.out).cells a1 rfl j (.string xs) (by rw [← HXS.out]; exact HGX.out); clear ho7 ho7' hb7 hg7) | (at_builtin; refine wpList_app1 (w0 := w7) W.heap.size rfl _ _ 22 5 (.int .u8 0) 1 rfl Try.underlying22 info_u8 rfl (by omega) (.slice Av m0 cv) m0 (bs (l ++ out)) (.int .u8 (x.length : Int)) rfl (.own HV7.out) rfl rfl (Below.refl _ _) (by omega) (by omega) ?_; intro v8 w8 ho8 hb8 hg8; have HV8 := Lib.hid ho8; have HN8 := Lib.hid (own_kept_other HN7.out HV7.out (by decide) hg8); have HP8 := Lib.hid (own_kept_other HP7.out HV7.out (by decide) hg8); have HL8 := Lib.hid (own_kept_other HL7.out HV7.out (by decide) hg8); have HB8 := Lib.hid (HB7.out.grown hg8 (by omega) (fun k hk => own_base HV7.out k hk)); have z8 := hg8.size; have c8 := (rd_own HL8.out).cells a1 rfl j (.string xs) (by rw [← HXS.out]; exact HGX.out); clear ho8 hb8 hg8) | (at_builtin; refine wpList_app (w0 := w8) w8 W.heap.size rfl _ _ 22 9 5 (.int .u8 0) 1 1 rfl Try.underlying22 info_u8 rfl (by omega) (by omega) v8 (m0 + 1) (bs (l ++ out) ++ [.int .u8 (x.length : Int)]) rfl (.own HV8.out) (.string xs) xs.size (bs xs.data.toList) rfl (.str Try.underlying9 Try.underlying22 info_u8 rfl xs) (Below.refl _ _) (by omega) (by omega) ?_; intro v9 w9 _ ho9' hb9 hg9; have ho9 := ho9' (.inr HV8.out); have HV9 := Lib.hid ho9; have HN9 := Lib.hid (own_kept_other HN8.out HV8.out (by decide) hg9); have HP9 := Lib.hid (own_kept_other HP8.out HV8.out (by decide) hg9); have HL9 := Lib.hid (own_kept_other HL8.out HV8.out (by decide) hg9); have HB9 := Lib.hid (HB8.out.grown hg9 (by omega) (fun k hk => own_base HV8.out k hk)); clear ho9' ho9 hb9 hg9))
          go_roundw
          case rel =>
            have hPx : RowP plain l ls tab pre out (x :: r) (tab ++ nw) := by have := HP.out; rwa [HXR.out] at this
            have hPn := hPx.next (by rw [HLK.out, HLO.out]; rfl) (tab ++ (nw ++ [(gl (x :: r), m0)])) (by rw [HLK.out, HLO.out, hm0, if_neg (by simp; omega), List.append_assoc])
            have hNL : ∀ p ∈ (nw ++ [(gl (x :: r), m0)]), (gl r).length < p.1.length := fun p hp => by
              have hold : p ∈ nw → (gl r).length < p.1.length := fun hp => by have := HNW.out p hp; rw [HXR.out] at this; omega
              rcases List.mem_append.1 hp with hp | hp
              · exact hold hp
              · rw [List.mem_singleton.1 hp]; show (gl r).length < (gl (x :: r)).length; omega
            refine ⟨⟨j + 1, (nw ++ [(gl (x :: r), m0)]), out ++ (UInt8.ofNat x.length :: x), _, by go_num, by omega, ?_, HN9.out, HP9.out, by rw [HR1.out]; exact hPn, by rw [HR1.out]; exact hNL, by (rw [List.length_append]; simp; omega), HB9.out⟩, HL9.out⟩
            have ho := HV9.out
            have ex : bs (l ++ (out ++ (UInt8.ofNat x.length :: x))) = bs (l ++ out) ++ [.int .u8 (x.length : Int)] ++ bs xs.data.toList := by
              rw [← List.append_assoc, bs_app, ← HXS.out, str_toList, List.append_assoc]
              simp only [bs, List.map_cons, List.singleton_append]
              rw [show B (UInt8.ofNat x.length) = .int .u8 (x.length : Int) by rw [B, ofNat_len (by omega)]]
            rw [ex, List.length_append, List.length_cons, show l.length + (out.length + (x.length + 1)) = m0 + 1 + xs.size by omega]
            exact ho
          case measure => simp [intOf]; omega
        · have hfar' : ¬ (m0 : Int) ≤ 16383 := by omega
          have HGX := Lib.hid (show (strs ls)[j]? = some (.string (str x)) from HSX.out)
          have hwx : IntKind.u8.wrap (x.length : Int) = (x.length : Int) := wraps_u8 _ (by omega) (by omega)
          rw [hm0] at HOV ⊢
          go_wp2_with (first | (refine wpList_cutL rfl 52 9 (.tmp 33) (.tmp 34) rfl Try.underlying52 (size := 1) (by kernel_rfl) (some a1) ls.length c1 rfl rfl j rfl (by omega) ?_) | (go_at_call 23; refine (HGL.out _ HCUT.out).mono ?_; clear HGL; rintro e w3 ⟨rfl, hb3⟩; have c3 := HCX.out w3 hb3; have hz3 := hb3.size) | (go_at_call 33; refine (HFI.out _ hb3).mono ?_; clear HFI; rintro e w4 ⟨rfl, rfl⟩; have HV3 := Lib.hid (own_below HOV.out hb3); have HN3 := Lib.hid (own_below HON.out hb3); have HP3 := Lib.hid (own_below HOP.out hb3); have HL3 := Lib.hid (own_below HOL.out hb3); have HB3 := Lib.hid (hb.trans (hb3.mono hz))) | (at_builtin; refine wpList_app1 (w0 := w3) W.heap.size rfl _ _ 22 5 (.int .u8 0) 1 rfl Try.underlying22 info_u8 rfl (by omega) (.slice Av m0 cv) m0 (bs (l ++ out)) (.int .u8 (x.length : Int)) rfl (.own HV3.out) rfl rfl (Below.refl _ _) (by omega) (by omega) ?_; intro v8 w8 ho8 hb8 hg8; have HV8 := Lib.hid ho8; have HN8 := Lib.hid (own_kept_other HN3.out HV3.out (by decide) hg8); have HP8 := Lib.hid (own_kept_other HP3.out HV3.out (by decide) hg8); have HL8 := Lib.hid (own_kept_other HL3.out HV3.out (by decide) hg8); have HB8 := Lib.hid (HB3.out.grown hg8 (by omega) (fun k hk => own_base HV3.out k hk)); have z8 := hg8.size; have c8 := (rd_own HL8.out).cells a1 rfl j (.string xs) (by rw [← HXS.out]; exact HGX.out); clear ho8 hb8 hg8) | (at_builtin; refine wpList_app (w0 := w8) w8 W.heap.size rfl _ _ 22 9 5 (.int .u8 0) 1 1 rfl Try.underlying22 info_u8 rfl (by omega) (by omega) v8 (m0 + 1) (bs (l ++ out) ++ [.int .u8 (x.length : Int)]) rfl (.own HV8.out) (.string xs) xs.size (bs xs.data.toList) rfl (.str Try.underlying9 Try.underlying22 info_u8 rfl xs) (Below.refl _ _) (by omega) (by omega) ?_; intro v9 w9 _ ho9' hb9 hg9; have ho9 := ho9' (.inr HV8.out); have HV9 := Lib.hid ho9; have HN9 := Lib.hid (own_kept_other HN8.out HV8.out (by decide) hg9); have HP9 := Lib.hid (own_kept_other HP8.out HV8.out (by decide) hg9); have HL9 := Lib.hid (own_kept_other HL8.out HV8.out (by decide) hg9); have HB9 := Lib.hid (HB8.out.grown hg9 (by omega) (fun k hk => own_base HV8.out k hk)); clear ho9' ho9 hb9 hg9))
          go_roundw
          case rel =>
            have hPx : RowP plain l ls tab pre out (x :: r) (tab ++ nw) := by have := HP.out; rwa [HXR.out] at this
            have hPn := hPx.next (by rw [HLK.out, HLO.out]; rfl) (tab ++ nw) (by rw [HLK.out, HLO.out, hm0, if_pos (by simp; omega)])
            have hNL : ∀ p ∈ nw, (gl r).length < p.1.length := fun p hp => by
              have hold : p ∈ nw → (gl r).length < p.1.length := fun hp => by have := HNW.out p hp; rw [HXR.out] at this; omega
              exact hold hp
            refine ⟨⟨j + 1, nw, out ++ (UInt8.ofNat x.length :: x), _, by go_num, by omega, ?_, HN9.out, HP9.out, by rw [HR1.out]; exact hPn, by rw [HR1.out]; exact hNL, by omega, HB9.out⟩, HL9.out⟩
            have ho := HV9.out
            have ex : bs (l ++ (out ++ (UInt8.ofNat x.length :: x))) = bs (l ++ out) ++ [.int .u8 (x.length : Int)] ++ bs xs.data.toList := by
              rw [← List.append_assoc, bs_app, ← HXS.out, str_toList, List.append_assoc]
              simp only [bs, List.map_cons, List.singleton_append]
              rw [show B (UInt8.ofNat x.length) = .int .u8 (x.length : Int) by rw [B, ofNat_len (by omega)]]
            rw [ex, List.length_append, List.length_cons, show l.length + (out.length + (x.length + 1)) = m0 + 1 + xs.size by omega]
            exact ho
          case measure => simp [intOf]; omega
    · have hge : decide ((j : Int) < (ls.length : Int)) = false := by simp; omega
      have hjl : j = ls.length := by omega
      have hen : en plain tab ls l.length = (out ++ [0], tab ++ nw) := by
        rw [HP.out.en, hjl, List.drop_length]
        rfl
      have HEN := Lib.hid hen
      clear hen
      rw [hm0] at HOV ⊢
      go_wp2_with (first | (go_at_call 34; refine (keep_ wr rt vn vp tab nw HTW.out (by omega) (by omega) An Ap cn cp (own_lower HON.out (by omega)) (own_lower HOP.out (by omega))).mono ?_; rintro e w5 ⟨rfl, vn5, vp5, hT5, hC5⟩; have HT5 := Lib.hid hT5; have HC5 := Lib.hid hC5; have hov5 := hC5.own HOV.out; have HOV5 := Lib.hid hov5; have hz5 := hC5.1.size; clear hT5 hC5 hov5) | (at_builtin; refine wpList_app1 (w0 := w5) W.heap.size rfl _ _ 22 5 (.int .u8 0) 1 rfl Try.underlying22 info_u8 rfl (by omega) (.slice Av m0 cv) m0 (bs (l ++ out)) (.int .u8 0) rfl (.own HOV5.out) rfl rfl (Below.refl _ _) (by omega) (by omega) ?_; intro v6 w6 ho6 hb6 hg6; have HO6 := Lib.hid ho6; have HG6 := Lib.hid hg6; clear ho6 hb6 hg6))
      go_ret2
      refine ⟨_, _, rfl, ?_⟩
      unfold RefR
      rw [HEN.out]
      refine ⟨rfl, ?_, vn5, vp5, ?_, ?_⟩
      · rw [← List.append_assoc, bs_app, List.length_append, ← Nat.add_assoc, hm0]
        exact own_lower HO6.out (by omega)
      · exact HT5.out.grow HOV5.out (by omega) HG6.out
      · exact chg_fresh ((chg_below hb (by omega)).trans HC5.out) (by omega) HG6.out (fun k hk => own_base HOV5.out k hk)
end Go.Proofs.Ytobfahafpmipfaa
