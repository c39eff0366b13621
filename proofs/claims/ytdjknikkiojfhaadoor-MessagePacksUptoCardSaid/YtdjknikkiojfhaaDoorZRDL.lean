import Derived.Test.YtdjknikkiojfhaaDoorZRDK
/- rdata.Put: the walk. -/
namespace Go.Proofs.YtdjknikkiojfhaaDoor
open Go.RowKit Go.HL Go.Maps
set_option linter.unusedVariables false
set_option linter.unusedSimpArgs false
theorem cellN_bd (d : Dt) (k : Nat) (h : ∀ k, k < 5 → 0 ≤ d.getN k ∧ d.getN k < 4294967296) (hk : k < 5) : 0 ≤ d.getN k ∧ d.getN k < 4294967296 := h k hk
set_option maxRecDepth 100000 in
set_option maxHeartbeats 8000000 in
theorem putD_ (W : World) (d : Dt) (hz1 : d.host.size ≤ 140737488355328) (hz2 : d.mail.size ≤ 140737488355328) (hz3 : d.raw.size ≤ 140737488355328) (t : Int) (hK : Kd W) (hok : okF (formV t) d = true) (hN : ∀ k, k < 5 → 0 ≤ d.getN k ∧ d.getN k < 4294967296)
    (gt bm : Nat) (tab : Tb) (hM : Made W gt bm tab) (A : Option Addr) (n c : Nat) (l : List UInt8) (hr : Rd W 1 A n c (bs l)) (hn : n ≤ 40000000000) (htl : tab.length ≤ 90000000) :
    Calls Tryd.prog 43 #[.slice A n c, .pointer (some ⟨gt, 0, none⟩), .int .u16 t, d.val] W (Two (PutD W bm A n l (encs d (formV t) l tab).1 (encs d (formV t) l tab).2.1)) := by
  have hgood := form_good t
  have hlen7 : (formV t).length ≤ 7 := by
    have h := forms t
    generalize formV t = f at h
    simp only [List.mem_cons, List.not_mem_nil, or_false] at h
    rcases h with rfl | rfl | rfl | rfl | rfl | rfl | rfl | rfl <;> decide
  have hneed := okF_need hok
  have hD1 := Blk.new W 44 d.cells.toArray
  have hb1 := below_new W (.cells d.cells.toArray 44)
  have hck := checkD_ (W.alloc (.cells d.cells.toArray 44)) d hz1 hz2 hz3 t (hK.below hb1)
  rw [hok, if_pos rfl] at hck
  have hform := fun W hK => form_ W t hK
  have hNN := cellN_bd d
  obtain ⟨f, hf⟩ : ∃ f, formV t = f := ⟨_, rfl⟩
  rw [hf] at hform hgood hlen7 hneed ⊢
  obtain ⟨W1, hW1⟩ : ∃ x, W.alloc (.cells d.cells.toArray 44) = x := ⟨_, rfl⟩
  rw [hW1] at hD1 hb1 hck
  have hbl := hr.blen
  have hnc := hr.le
  have HR := Lib.hid hr
  have HK := Lib.hid hK
  have HF := Lib.hid hf
  have HM := Lib.hid hM
  have HBL := Lib.hid hbl
  have d0 := hD1.cell 0 _ rfl
  have d1 := hD1.cell 1 _ rfl
  have d2 := hD1.cell 2 _ rfl
  have d3 := hD1.cell 3 _ rfl
  have d4 := hD1.cell 4 _ rfl
  have d5 := hD1.cell 5 _ rfl
  have d6 := hD1.cell 6 _ rfl
  have d7 := hD1.cell 7 _ rfl
  have HD1 := Lib.hid hD1
  have HB1 := Lib.hid hb1
  unfold Dt.cells at hW1
  obtain ⟨b, hb⟩ : ∃ x, W.heap.size = x := ⟨_, rfl⟩
  rw [hb] at d0 d1 d2 d3 d4 d5 d6 d7
  have HBB := Lib.hid hb
  obtain ⟨R, hR⟩ : ∃ R, PutD W bm A n l (encs d f l tab).1 (encs d f l tab).2.1 = R := ⟨_, rfl⟩
  rw [hR]
  have HRR := Lib.hid hR
  have hnil : decide (gt = gt) = true := by simp
  clear hR hK hf hok hM hr hbl hD1 hb1 hnil
  unfold Dt.val at hck ⊢
  go_enter Tryd.func43, Tryd.ntmps43
  go_wp2_with (first | (rw [hW1, hb]; go_at_call 37; refine hck.mono ?_; clear hck; rintro e W2 ⟨rfl, hb2⟩; clear d0 d1 d2 d3 d4 d5 d6 d7 hW1 hb; have HB2 := Lib.hid (below_trans HB1.out hb2); have HD2 := Lib.hid (HD1.out.below hb2); have hform2 := hform W2 (HK.out.below HB2.out); clear hb2) | (go_at_call 37; refine hck.mono ?_; clear hck; rintro e W2 ⟨rfl, hb2⟩; clear d0 d1 d2 d3 d4 d5 d6 d7 hW1 hb; have HB2 := Lib.hid (below_trans HB1.out hb2); have HD2 := Lib.hid (HD1.out.below hb2); have hform2 := hform W2 (HK.out.below HB2.out); clear hb2) | (go_at_call 59; refine hform2.mono ?_; clear hform2; rintro e W3 ⟨rfl, ex⟩; rw [ex]; clear ex W3))
  have hP0 := Pt.new W W2 HB2.out HD2.out HM.out (str f) A n l
  obtain ⟨S, hS⟩ : ∃ S, W2.heap.size = S := ⟨_, rfl⟩
  rw [hS] at hP0
  try rw [hS]
  have HP0 := Lib.hid hP0
  clear hP0 hS hform HD1 HB1 HD2
  go_loopw [0, 10] (fun v kv wr => ∃ (i : Nat) (l1 : List UInt8) (tab1 : Tb), i ≤ f.length ∧ kv = .int .i64 ((kOf (f.take i) : Nat) : Int) ∧ Hid ((encs d (f.take i) l tab).1 = l1 ∧ (encs d (f.take i) l tab).2.1 = tab1) ∧ Pt W S d gt bm (str f) i A n l l1 tab1 v wr) (fun _ _ wr => f.length + 1 - wr.iterPos S)
  case atStart => exact ⟨0, l, tab, Nat.zero_le _, rfl, Lib.hid ⟨rfl, rfl⟩, HP0.out⟩
  case round =>
    clear HP0
    obtain ⟨i, l1, tab1, hi, rfl, HE, hC⟩ := hrel
    have hpos : wr.iterPos S = i := by unfold World.iterPos; rw [hC.I]
    have hkk := encs_k d (f.take i) l tab
    obtain ⟨⟨L, T, k⟩, hcs⟩ : ∃ x, encs d (f.take i) l tab = x := ⟨_, rfl⟩
    obtain ⟨hE1, hE2⟩ := HE.out
    clear HE
    rw [hcs] at hkk hE1 hE2
    simp only at hkk hE1 hE2
    subst hE1
    subst hE2
    have hsz := encs_len d (f.take i) (l, tab, 0) (fun c hc => hneed c (List.mem_of_mem_take hc))
    rw [show (f.take i).foldl (encL d) (l, tab, 0) = encs d (f.take i) l tab from rfl, hcs] at hsz
    simp only at hsz
    have htk7 : (f.take i).length ≤ 7 := by rw [List.length_take]; omega
    have hLb : L.length ≤ 40001000000 := by have := HBL.out; omega
    have hTb : T.length ≤ 91000000 := by omega
    clear hsz htk7
    rw [← hkk]
    by_cases hlt : i < f.length
    · obtain ⟨c, hc⟩ : ∃ c, f[i]? = some c := ⟨_, List.getElem?_eq_getElem hlt⟩
      have htk : f.take (i + 1) = f.take i ++ [c] := by rw [List.take_add_one, hc]; rfl
      have hst : encs d (f.take (i + 1)) l tab = encL d (L, T, k) c := by rw [htk, encs_snoc, hcs]
      have hk1 : kOf (f.take (i + 1)) = k + kOf [c] := by rw [htk, kOf_app, ← hkk]
      have hk2 : kOf (f.take (i + 1)) ≤ 5 := Nat.le_trans (((List.take_sublist _ _).filter _).length_le) hgood.2.1
      have hmem : c ∈ f := List.mem_of_getElem? hc
      have hcm := hgood.2.2 c hmem
      have hnd := hneed c hmem
      have hsl : i < (str f).size := by rw [str_size]; exact hlt
      have hsc : ((str f)[i]'hsl) = c := by
        have e1 : (str f)[i]'hsl = f[i]'hlt := by rfl
        rw [e1]
        rw [List.getElem?_eq_getElem hlt] at hc
        exact Option.some.inj hc
      have hc128 : c.toNat < 128 := by
        simp only [List.mem_cons, List.not_mem_nil, or_false] at hcm
        rcases hcm with rfl | rfl | rfl | rfl | rfl | rfl | rfl | rfl | rfl <;> decide
      have hnx := fun ty => Go.Lib.run_next_ascii_at (P := Tryd.prog) wr S (str f) i ty hC.I hsl (by rw [hsc]; exact hc128)
      rw [hsc] at hnx
      have hCi := hC.iter (i + 1)
      obtain ⟨Wn, hWn⟩ : ∃ x, wr.iterAt S (str f) (i + 1) = x := ⟨_, rfl⟩
      rw [hWn] at hnx hCi
      have happ := hCi.app HR.out.full HM.out.tbl
      obtain ⟨A1, c1, rfl, hrd⟩ := happ.rd
      have hHI := Lib.hid (And.intro hpos (And.intro hst hk1))
      have Hlt := Lib.hid hlt
      have HN := Lib.hid hN
      have HC := Lib.hid hCi
      have HND := Lib.hid hnd
      have HRD := Lib.hid hrd
      have HAPP := Lib.hid happ
      have hszn := hCi.size
      clear hWn hC hc htk hst hmem hsl hsc hc128 hcs hneed hkk hpos hlt hgood hi hk1 hN hCi hnd hrd happ hNN hn htl hlen7
      simp only [List.mem_cons, List.not_mem_nil, or_false] at hcm
      rcases hcm with rfl | rfl | rfl | rfl | rfl | rfl | rfl | rfl | rfl
      · obtain ⟨hnm, hnok, hn255⟩ := lsOf_ok (HND.out.1 (.inl rfl))
        have hput := put_two Wn _ _ _ _ (two_some (row_ok Wn gt bm HC.out.M.cell HC.out.M.ne T HC.out.M.tbl A1 L.length c1 L HRD.out (by omega) (lsOf d.host) hnok hn255 (by omega) false))
        rw [← hnm] at hput
        have d1 := HC.out.D.cell 1 _ rfl
        rw [HBB.out] at d1
        clear hnok hn255 hnm
        go_wp2_with (first | (go_at_call 41; refine hput.mono ?_; clear hput; rintro e W5 ⟨a5, b5, rfl, rfl, ho5, ht5, hg5⟩; have HF5 := Lib.hid (And.intro ho5 (And.intro ht5 hg5)); clear ho5 ht5 hg5))
        obtain ⟨ho5, ht5, hg5⟩ := HF5.out
        have hF := HC.out.named hg5 ht5 (by rw [List.length_append]; exact ho5)
        obtain ⟨hpos, hst, hk1⟩ := hHI.out
        have hlt := Hlt.out
        have hp2 := hF.I
        refine ⟨⟨i + 1, _, _, hlt, ?_, Lib.hid ⟨by rw [hst]; rfl, by rw [hst]; rfl⟩, hF⟩, ?_⟩
        · rw [hk1]; exact congrArg (Value.int .i64) (by rw [show kOf [104] = 0 from rfl]; omega)
        · rw [hpos]; unfold World.iterPos; rw [hp2]; show f.length + 1 - (i + 1) < _; omega
      · obtain ⟨hnm, hnok, hn255⟩ := lsOf_ok (HND.out.1 (.inr rfl))
        have hput := plain_two Wn _ _ _ _ (two_some (row_ok Wn gt bm HC.out.M.cell HC.out.M.ne T HC.out.M.tbl A1 L.length c1 L HRD.out (by omega) (lsOf d.host) hnok hn255 (by omega) true))
        rw [← hnm] at hput
        have d1 := HC.out.D.cell 1 _ rfl
        rw [HBB.out] at d1
        clear hnok hn255 hnm
        go_wp2_with (first | (go_at_call 66; refine hput.mono ?_; clear hput; rintro e W5 ⟨a5, b5, rfl, rfl, ho5, ht5, hg5⟩; have HF5 := Lib.hid (And.intro ho5 (And.intro ht5 hg5)); clear ho5 ht5 hg5))
        obtain ⟨ho5, ht5, hg5⟩ := HF5.out
        have hF := HC.out.named hg5 ht5 (by rw [List.length_append]; exact ho5)
        obtain ⟨hpos, hst, hk1⟩ := hHI.out
        have hlt := Hlt.out
        have hp2 := hF.I
        refine ⟨⟨i + 1, _, _, hlt, ?_, Lib.hid ⟨by rw [hst]; rfl, by rw [hst]; rfl⟩, hF⟩, ?_⟩
        · rw [hk1]; exact congrArg (Value.int .i64) (by rw [show kOf [112] = 0 from rfl]; omega)
        · rw [hpos]; unfold World.iterPos; rw [hp2]; show f.length + 1 - (i + 1) < _; omega
      · obtain ⟨hnm, hnok, hn255⟩ := lsOf_ok (HND.out.2.1 rfl)
        have hput := put_two Wn _ _ _ _ (two_some (row_ok Wn gt bm HC.out.M.cell HC.out.M.ne T HC.out.M.tbl A1 L.length c1 L HRD.out (by omega) (lsOf d.mail) hnok hn255 (by omega) false))
        rw [← hnm] at hput
        have d1 := HC.out.D.cell 2 _ rfl
        rw [HBB.out] at d1
        clear hnok hn255 hnm
        go_wp2_with (first | (go_at_call 41; refine hput.mono ?_; clear hput; rintro e W5 ⟨a5, b5, rfl, rfl, ho5, ht5, hg5⟩; have HF5 := Lib.hid (And.intro ho5 (And.intro ht5 hg5)); clear ho5 ht5 hg5))
        obtain ⟨ho5, ht5, hg5⟩ := HF5.out
        have hF := HC.out.named hg5 ht5 (by rw [List.length_append]; exact ho5)
        obtain ⟨hpos, hst, hk1⟩ := hHI.out
        have hlt := Hlt.out
        have hp2 := hF.I
        refine ⟨⟨i + 1, _, _, hlt, ?_, Lib.hid ⟨by rw [hst]; rfl, by rw [hst]; rfl⟩, hF⟩, ?_⟩
        · rw [hk1]; exact congrArg (Value.int .i64) (by rw [show kOf [109] = 0 from rfl]; omega)
        · rw [hpos]; unfold World.iterPos; rw [hp2]; show f.length + 1 - (i + 1) < _; omega
      · have hk5 : k < 5 := by
          have h1 := hHI.out.2.2
          have e : kOf [115] = 1 := rfl
          omega
        have hk5i : (k : Int) < 5 := by omega
        have d1 := HC.out.D.cell (3 + k) _ (d.cellN hk5)
        rw [HBB.out] at d1
        obtain ⟨hv0, hv1⟩ := HN.out k hk5
        have hput := put16 A1 L.length c1 (d.getN k % 65536) (by omega) (by omega) (by omega) Wn (bs L) HRD.out
        unfold Puts at hput
        rw [be_mod] at hput
        obtain ⟨q, hq⟩ : ∃ q, d.getN k = q := ⟨_, rfl⟩
        rw [hq] at d1 hput hv0 hv1
        have HQ := Lib.hid hq
        clear hq
        go_wp2_with (first | (go_at_call 38; refine hput.mono ?_; clear hput; rintro e W5 ⟨a5, rfl, ho5, hb5⟩; have HF5 := Lib.hid (And.intro ho5 hb5); clear ho5 hb5))
        obtain ⟨ho5, hb5⟩ := HF5.out
        rw [← bs_append, ← HQ.out] at ho5
        have hF := HC.out.below (hb5.mono hszn) (v' := a5) (l' := L ++ be 2 (d.getN k)) (.inr (by rw [List.length_append, be_length]; exact own_lower ho5 hszn))
        obtain ⟨hpos, hst, hk1⟩ := hHI.out
        have hlt := Hlt.out
        have hp2 := hF.I
        refine ⟨⟨i + 1, _, _, hlt, ?_, Lib.hid ⟨by rw [hst]; rfl, by rw [hst]; rfl⟩, hF⟩, ?_⟩
        · rw [hk1]; exact congrArg (Value.int .i64) (by rw [show kOf [115] = 1 from rfl]; omega)
        · rw [hpos]; unfold World.iterPos; rw [hp2]; show f.length + 1 - (i + 1) < _; omega
      · have hk5 : k < 5 := by
          have h1 := hHI.out.2.2
          have e : kOf [108] = 1 := rfl
          omega
        have hk5i : (k : Int) < 5 := by omega
        have d1 := HC.out.D.cell (3 + k) _ (d.cellN hk5)
        rw [HBB.out] at d1
        obtain ⟨hv0, hv1⟩ := HN.out k hk5
        have hput := put32 A1 L.length c1 (d.getN k) (by omega) (by omega) (by omega) Wn (bs L) HRD.out
        unfold Puts at hput
        obtain ⟨q, hq⟩ : ∃ q, d.getN k = q := ⟨_, rfl⟩
        rw [hq] at d1 hput hv0 hv1
        have HQ := Lib.hid hq
        clear hq
        go_wp2_with (first | (go_at_call 42; refine hput.mono ?_; clear hput; rintro e W5 ⟨a5, rfl, ho5, hb5⟩; have HF5 := Lib.hid (And.intro ho5 hb5); clear ho5 hb5))
        obtain ⟨ho5, hb5⟩ := HF5.out
        rw [← bs_append, ← HQ.out] at ho5
        have hF := HC.out.below (hb5.mono hszn) (v' := a5) (l' := L ++ be 4 (d.getN k)) (.inr (by rw [List.length_append, be_length]; exact own_lower ho5 hszn))
        obtain ⟨hpos, hst, hk1⟩ := hHI.out
        have hlt := Hlt.out
        have hp2 := hF.I
        refine ⟨⟨i + 1, _, _, hlt, ?_, Lib.hid ⟨by rw [hst]; rfl, by rw [hst]; rfl⟩, hF⟩, ?_⟩
        · rw [hk1]; exact congrArg (Value.int .i64) (by rw [show kOf [108] = 1 from rfl]; omega)
        · rw [hpos]; unfold World.iterPos; rw [hp2]; show f.length + 1 - (i + 1) < _; omega
      · have hr5 := HND.out.2.2 (by decide) (by decide) (by decide) (by decide) (by decide)
        have d1 := HC.out.D.cell 0 _ rfl
        rw [HBB.out] at d1
        have hApp := HAPP.out
        go_wp2_with (first | (at_builtin; refine wpList_app (w0 := Wn) Wn (S + 1) rfl _ _ 27 9 5 (.int .u8 0) 1 1 rfl Tryd.underlying27 info_u8 rfl (by omega) (by omega) (.slice A1 L.length c1) L.length (bs L) rfl hApp (.string d.raw) d.raw.size (bs d.raw.data.toList) rfl (.str Tryd.underlying9 Tryd.underlying27 info_u8 rfl d.raw) (Below.refl _ _) hszn (by omega) ?_; intro v5 W5 hv5 ho5 hb5 hg5; have HF5 := Lib.hid (And.intro hv5 hb5); clear hv5 ho5 hb5 hg5))
        obtain ⟨hv5, hb5⟩ := HF5.out
        have hF := HC.out.below hb5 (v' := v5) (l' := L ++ d.raw.data.toList) (by
          rcases hv5 with ⟨h1, rfl, rfl⟩ | h1
          · have h2 : d.raw.data.toList = [] := List.eq_nil_of_length_eq_zero (by simpa using h1)
            rw [h2, List.append_nil]
            exact HC.out.V
          · refine .inr ?_
            rw [← bs_append] at h1
            rw [List.length_append, show d.raw.data.toList.length = d.raw.size by simp]
            exact h1)
        obtain ⟨hpos, hst, hk1⟩ := hHI.out
        have hlt := Hlt.out
        have hp2 := hF.I
        refine ⟨⟨i + 1, _, _, hlt, ?_, Lib.hid ⟨by rw [hst]; rfl, by rw [hst]; rfl⟩, hF⟩, ?_⟩
        · rw [hk1]; exact congrArg (Value.int .i64) (by rw [show kOf [97] = 0 from rfl]; omega)
        · rw [hpos]; unfold World.iterPos; rw [hp2]; show f.length + 1 - (i + 1) < _; omega
      · have hr5 := HND.out.2.2 (by decide) (by decide) (by decide) (by decide) (by decide)
        have d1 := HC.out.D.cell 0 _ rfl
        rw [HBB.out] at d1
        have hApp := HAPP.out
        go_wp2_with (first | (at_builtin; refine wpList_app (w0 := Wn) Wn (S + 1) rfl _ _ 27 9 5 (.int .u8 0) 1 1 rfl Tryd.underlying27 info_u8 rfl (by omega) (by omega) (.slice A1 L.length c1) L.length (bs L) rfl hApp (.string d.raw) d.raw.size (bs d.raw.data.toList) rfl (.str Tryd.underlying9 Tryd.underlying27 info_u8 rfl d.raw) (Below.refl _ _) hszn (by omega) ?_; intro v5 W5 hv5 ho5 hb5 hg5; have HF5 := Lib.hid (And.intro hv5 hb5); clear hv5 ho5 hb5 hg5))
        obtain ⟨hv5, hb5⟩ := HF5.out
        have hF := HC.out.below hb5 (v' := v5) (l' := L ++ d.raw.data.toList) (by
          rcases hv5 with ⟨h1, rfl, rfl⟩ | h1
          · have h2 : d.raw.data.toList = [] := List.eq_nil_of_length_eq_zero (by simpa using h1)
            rw [h2, List.append_nil]
            exact HC.out.V
          · refine .inr ?_
            rw [← bs_append] at h1
            rw [List.length_append, show d.raw.data.toList.length = d.raw.size by simp]
            exact h1)
        obtain ⟨hpos, hst, hk1⟩ := hHI.out
        have hlt := Hlt.out
        have hp2 := hF.I
        refine ⟨⟨i + 1, _, _, hlt, ?_, Lib.hid ⟨by rw [hst]; rfl, by rw [hst]; rfl⟩, hF⟩, ?_⟩
        · rw [hk1]; exact congrArg (Value.int .i64) (by rw [show kOf [113] = 0 from rfl]; omega)
        · rw [hpos]; unfold World.iterPos; rw [hp2]; show f.length + 1 - (i + 1) < _; omega
      · have hr5 := HND.out.2.2 (by decide) (by decide) (by decide) (by decide) (by decide)
        have d1 := HC.out.D.cell 0 _ rfl
        rw [HBB.out] at d1
        have hApp := HAPP.out
        go_wp2_with (first | (at_builtin; refine wpList_app (w0 := Wn) Wn (S + 1) rfl _ _ 27 9 5 (.int .u8 0) 1 1 rfl Tryd.underlying27 info_u8 rfl (by omega) (by omega) (.slice A1 L.length c1) L.length (bs L) rfl hApp (.string d.raw) d.raw.size (bs d.raw.data.toList) rfl (.str Tryd.underlying9 Tryd.underlying27 info_u8 rfl d.raw) (Below.refl _ _) hszn (by omega) ?_; intro v5 W5 hv5 ho5 hb5 hg5; have HF5 := Lib.hid (And.intro hv5 hb5); clear hv5 ho5 hb5 hg5))
        obtain ⟨hv5, hb5⟩ := HF5.out
        have hF := HC.out.below hb5 (v' := v5) (l' := L ++ d.raw.data.toList) (by
          rcases hv5 with ⟨h1, rfl, rfl⟩ | h1
          · have h2 : d.raw.data.toList = [] := List.eq_nil_of_length_eq_zero (by simpa using h1)
            rw [h2, List.append_nil]
            exact HC.out.V
          · refine .inr ?_
            rw [← bs_append] at h1
            rw [List.length_append, show d.raw.data.toList.length = d.raw.size by simp]
            exact h1)
        obtain ⟨hpos, hst, hk1⟩ := hHI.out
        have hlt := Hlt.out
        have hp2 := hF.I
        refine ⟨⟨i + 1, _, _, hlt, ?_, Lib.hid ⟨by rw [hst]; rfl, by rw [hst]; rfl⟩, hF⟩, ?_⟩
        · rw [hk1]; exact congrArg (Value.int .i64) (by rw [show kOf [120] = 0 from rfl]; omega)
        · rw [hpos]; unfold World.iterPos; rw [hp2]; show f.length + 1 - (i + 1) < _; omega
      · have hr5 := HND.out.2.2 (by decide) (by decide) (by decide) (by decide) (by decide)
        have d1 := HC.out.D.cell 0 _ rfl
        rw [HBB.out] at d1
        have hApp := HAPP.out
        go_wp2_with (first | (at_builtin; refine wpList_app (w0 := Wn) Wn (S + 1) rfl _ _ 27 9 5 (.int .u8 0) 1 1 rfl Tryd.underlying27 info_u8 rfl (by omega) (by omega) (.slice A1 L.length c1) L.length (bs L) rfl hApp (.string d.raw) d.raw.size (bs d.raw.data.toList) rfl (.str Tryd.underlying9 Tryd.underlying27 info_u8 rfl d.raw) (Below.refl _ _) hszn (by omega) ?_; intro v5 W5 hv5 ho5 hb5 hg5; have HF5 := Lib.hid (And.intro hv5 hb5); clear hv5 ho5 hb5 hg5))
        obtain ⟨hv5, hb5⟩ := HF5.out
        have hF := HC.out.below hb5 (v' := v5) (l' := L ++ d.raw.data.toList) (by
          rcases hv5 with ⟨h1, rfl, rfl⟩ | h1
          · have h2 : d.raw.data.toList = [] := List.eq_nil_of_length_eq_zero (by simpa using h1)
            rw [h2, List.append_nil]
            exact HC.out.V
          · refine .inr ?_
            rw [← bs_append] at h1
            rw [List.length_append, show d.raw.data.toList.length = d.raw.size by simp]
            exact h1)
        obtain ⟨hpos, hst, hk1⟩ := hHI.out
        have hlt := Hlt.out
        have hp2 := hF.I
        refine ⟨⟨i + 1, _, _, hlt, ?_, Lib.hid ⟨by rw [hst]; rfl, by rw [hst]; rfl⟩, hF⟩, ?_⟩
        · rw [hk1]; exact congrArg (Value.int .i64) (by rw [show kOf [114] = 0 from rfl]; omega)
        · rw [hpos]; unfold World.iterPos; rw [hp2]; show f.length + 1 - (i + 1) < _; omega
    · obtain rfl : i = f.length := by omega
      rw [List.take_length] at hcs
      have hend := fun ty => Go.Lib.run_next_end_at (P := Tryd.prog) wr S (str f) f.length ty hC.I (by rw [str_size]; omega)
      have HC := Lib.hid hC
      have happ := hC.app HR.out.full HM.out.tbl
      obtain ⟨A1, c1, rfl, hrd⟩ := happ.rd
      have HCS := Lib.hid hcs
      clear hC happ hrd hcs hneed hgood hpos hkk
      go_wp2
      go_ret2
      refine ⟨_, _, rfl, ?_⟩
      rw [← HRR.out, HCS.out]
      have h := HC.out
      exact ⟨rfl, h.V.imp id (fun ho => own_lower ho (by have := h.S1; omega)), h.M.tbl, h.G⟩
end Go.Proofs.YtdjknikkiojfhaaDoor
