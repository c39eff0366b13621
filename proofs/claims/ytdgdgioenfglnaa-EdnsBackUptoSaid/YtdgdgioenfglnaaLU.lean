/- edns: Set. -/
import Derived.Test.YtdgdgioenfglnaaLT
import Derived.Test.YtdgdgioenfglnaaLC
namespace Go.Proofs.Ytdgdgioenfglnaa
open Go.RowKit Go.HL
set_option linter.unusedVariables false
set_option linter.unusedSimpArgs false
theorem _root_.Go.HL.Blk.set {w : World} {g : Nat} {t : TypeId} {cs : List Value} (h : Blk w g t cs) (j : Nat) (v : Value) : Blk (w.setCell ⟨g, j, none⟩ v) g t (cs.set j v) := by
  have h' : w.heap[g]? = _ := h
  obtain ⟨hlt, h1⟩ := Array.getElem?_eq_some_iff.1 h'
  unfold Blk
  simp [World.setCell, Array.getElem?_modify, h']
theorem size_set' (w : World) (a : Addr) (v : Value) : (w.setCell a v).heap.size = w.heap.size := by simp [World.setCell]
theorem sizeMsg : (Try.prog.info? 46).map (·.size) = some 13 := by kernel_rfl
def zmsg : List Value := [.int .u16 0, .bool false, .int .u8 0, .bool false, .bool false, .bool false, .bool false, .int .u8 0, .int .u8 0, .slice none 0 0, .slice none 0 0, .slice none 0 0, .slice none 0 0]
def optRc (code sz ve fl : Int) (s : ByteArray) : Rc := ⟨⟨#[0]⟩, 41, sz, code / 16 * 16777216 + ve * 65536 + fl, s, ByteArray.empty, ByteArray.empty, 0, 0, 0, 0, 0⟩
theorem low4 (code : Int) (h0 : 0 ≤ code) (h1 : code < 65536) : bits .and .u16 code 15 % 256 = code % 16 := by
  have h := bits_mask .u16 16 (by decide) (fun n a b => by have e : (2 : Int) ^ 16 = 65536 := by decide
                                                           rw [IntKind.wrap_u16]; omega) 4 (by decide) code h0 (by have e : (2 : Int) ^ 16 = 65536 := by decide
                                                                                                                   omega)
  have e1 : ((2 : Int) ^ 4 - 1) = 15 := by decide
  have e2 : ((2 : Int) ^ 4) = 16 := by decide
  rw [e1, e2] at h
  rw [h]
  omega
/-- What Set leaves, having an OPT. -/
def SetP (w : World) (m : Mg) (l : List Rc) (code sz ve fl : Int) (s : ByteArray) (e : Ending) (w' : World) : Prop :=
  (4095 < code ∧ e = .returned (.tuple #[.agg zmsg.toArray, .int .i64 1]) ∧ Below w.heap.size w w') ∨
  (¬ 4095 < code ∧ recOk s = false ∧ e = .returned (.tuple #[.agg zmsg.toArray, .int .i64 70]) ∧ Below w.heap.size w w') ∨
  (¬ 4095 < code ∧ recOk s = true ∧ ∃ A' n' c', e = .returned (.tuple #[({ m with rc := code % 16 } : Mg).val A' n' c', .int .i64 0]) ∧ w'.ownsRow w.heap.size 31 12 (.slice A' n' c') n' (rcs (kept l ++ [optRc code sz ve fl s])) ∧ Below w.heap.size w w')
set_option maxHeartbeats 8000000 in
theorem set_ (w : World) (m : Mg) (A : Option Addr) (n c : Nat) (l : List Rc) (hr : Rd w 12 A n c (rcs l)) (hn : n ≤ 1048575) (code sz hi ve fl : Int) (s : ByteArray) (hlen : s.size ≤ 1048576) (k0 : 0 ≤ code) (k1 : code < 65536) (h0 : 0 ≤ hi) (h1 : hi < 256) (v0 : 0 ≤ ve) (v1 : ve < 256) (f0 : 0 ≤ fl) (f1 : fl < 65536) :
    Calls Try.prog 18 #[m.val A n c, .int .u16 code, .bool true, ednsV sz hi ve fl s] w (SetP w m l code sz ve fl s) := by
  unfold Mg.val ednsV
  have K4 : Blk (((w.alloc (.cells #[.int .u16 m.id, .bool m.reply, .int .u8 m.op, .bool m.aa, .bool m.tc, .bool m.rd, .bool m.ra, .int .u8 m.z, .int .u8 m.rc, .slice m.qa m.qn m.qc, .slice m.aA m.an m.ac, .slice m.uA m.un m.uc, .slice A n c] 46)).alloc (.cells #[.int .u16 sz, .int .u8 hi, .int .u8 ve, .int .u16 fl, .string s] 24)).alloc (.cells #[.int .u16 0, .bool false, .int .u8 0, .bool false, .bool false, .bool false, .bool false, .int .u8 0, .int .u8 0, .slice none 0 0, .slice none 0 0, .slice none 0 0, .slice none 0 0] 46)) w.heap.size 46 (m.cells A n c) := ((Blk.new w 46 #[.int .u16 m.id, .bool m.reply, .int .u8 m.op, .bool m.aa, .bool m.tc, .bool m.rd, .bool m.ra, .int .u8 m.z, .int .u8 m.rc, .slice m.qa m.qn m.qc, .slice m.aA m.an m.ac, .slice m.uA m.un m.uc, .slice A n c]).alloc _).alloc _
  have K7 : Blk (((w.alloc (.cells #[.int .u16 m.id, .bool m.reply, .int .u8 m.op, .bool m.aa, .bool m.tc, .bool m.rd, .bool m.ra, .int .u8 m.z, .int .u8 m.rc, .slice m.qa m.qn m.qc, .slice m.aA m.an m.ac, .slice m.uA m.un m.uc, .slice A n c] 46)).alloc (.cells #[.int .u16 sz, .int .u8 hi, .int .u8 ve, .int .u16 fl, .string s] 24)).alloc (.cells #[.int .u16 0, .bool false, .int .u8 0, .bool false, .bool false, .bool false, .bool false, .int .u8 0, .int .u8 0, .slice none 0 0, .slice none 0 0, .slice none 0 0, .slice none 0 0] 46)) (w.heap.size + 1) 24 (ednsCells sz hi ve fl s) := by
    have h := (Blk.new (w.alloc (.cells #[.int .u16 m.id, .bool m.reply, .int .u8 m.op, .bool m.aa, .bool m.tc, .bool m.rd, .bool m.ra, .int .u8 m.z, .int .u8 m.rc, .slice m.qa m.qn m.qc, .slice m.aA m.an m.ac, .slice m.uA m.un m.uc, .slice A n c] 46)) 24 #[.int .u16 sz, .int .u8 hi, .int .u8 ve, .int .u16 fl, .string s]).alloc (.cells #[.int .u16 0, .bool false, .int .u8 0, .bool false, .bool false, .bool false, .bool false, .int .u8 0, .int .u8 0, .slice none 0 0, .slice none 0 0, .slice none 0 0, .slice none 0 0] 46)
    rw [World.size_alloc] at h
    exact h
  have K8 : Blk (((w.alloc (.cells #[.int .u16 m.id, .bool m.reply, .int .u8 m.op, .bool m.aa, .bool m.tc, .bool m.rd, .bool m.ra, .int .u8 m.z, .int .u8 m.rc, .slice m.qa m.qn m.qc, .slice m.aA m.an m.ac, .slice m.uA m.un m.uc, .slice A n c] 46)).alloc (.cells #[.int .u16 sz, .int .u8 hi, .int .u8 ve, .int .u16 fl, .string s] 24)).alloc (.cells #[.int .u16 0, .bool false, .int .u8 0, .bool false, .bool false, .bool false, .bool false, .int .u8 0, .int .u8 0, .slice none 0 0, .slice none 0 0, .slice none 0 0, .slice none 0 0] 46)) (w.heap.size + 2) 46 zmsg := by
    have h := Blk.new ((w.alloc (.cells #[.int .u16 m.id, .bool m.reply, .int .u8 m.op, .bool m.aa, .bool m.tc, .bool m.rd, .bool m.ra, .int .u8 m.z, .int .u8 m.rc, .slice m.qa m.qn m.qc, .slice m.aA m.an m.ac, .slice m.uA m.un m.uc, .slice A n c] 46)).alloc (.cells #[.int .u16 sz, .int .u8 hi, .int .u8 ve, .int .u16 fl, .string s] 24)) 46 #[.int .u16 0, .bool false, .int .u8 0, .bool false, .bool false, .bool false, .bool false, .int .u8 0, .int .u8 0, .slice none 0 0, .slice none 0 0, .slice none 0 0, .slice none 0 0]
    rw [World.size_alloc, World.size_alloc] at h
    exact h
  have hb3 : Below w.heap.size w (((w.alloc (.cells #[.int .u16 m.id, .bool m.reply, .int .u8 m.op, .bool m.aa, .bool m.tc, .bool m.rd, .bool m.ra, .int .u8 m.z, .int .u8 m.rc, .slice m.qa m.qn m.qc, .slice m.aA m.an m.ac, .slice m.uA m.un m.uc, .slice A n c] 46)).alloc (.cells #[.int .u16 sz, .int .u8 hi, .int .u8 ve, .int .u16 fl, .string s] 24)).alloc (.cells #[.int .u16 0, .bool false, .int .u8 0, .bool false, .bool false, .bool false, .bool false, .int .u8 0, .int .u8 0, .slice none 0 0, .slice none 0 0, .slice none 0 0, .slice none 0 0] 46)) := below_alloc (below_alloc (below_new w _) _) _
  have hz3 : ((((w.alloc (.cells #[.int .u16 m.id, .bool m.reply, .int .u8 m.op, .bool m.aa, .bool m.tc, .bool m.rd, .bool m.ra, .int .u8 m.z, .int .u8 m.rc, .slice m.qa m.qn m.qc, .slice m.aA m.an m.ac, .slice m.uA m.un m.uc, .slice A n c] 46)).alloc (.cells #[.int .u16 sz, .int .u8 hi, .int .u8 ve, .int .u16 fl, .string s] 24)).alloc (.cells #[.int .u16 0, .bool false, .int .u8 0, .bool false, .bool false, .bool false, .bool false, .int .u8 0, .int .u8 0, .slice none 0 0, .slice none 0 0, .slice none 0 0, .slice none 0 0] 46))).heap.size = w.heap.size + 3 := by rw [World.size_alloc, World.size_alloc, World.size_alloc]
  have hr3 := hr.below hb3
  go_enter Try.func18, Try.ntmps18
  obtain ⟨B, hB⟩ : ∃ B, w.heap.size = B := ⟨_, rfl⟩
  by_cases hbig : 4095 < code
  · go_upto_region 1 with fail
    obtain ⟨W3, hW3⟩ : ∃ x, (((w.alloc (.cells #[.int .u16 m.id, .bool m.reply, .int .u8 m.op, .bool m.aa, .bool m.tc, .bool m.rd, .bool m.ra, .int .u8 m.z, .int .u8 m.rc, .slice m.qa m.qn m.qc, .slice m.aA m.an m.ac, .slice m.uA m.un m.uc, .slice A n c] 46)).alloc (.cells #[.int .u16 sz, .int .u8 hi, .int .u8 ve, .int .u16 fl, .string s] 24)).alloc (.cells #[.int .u16 0, .bool false, .int .u8 0, .bool false, .bool false, .bool false, .bool false, .int .u8 0, .int .u8 0, .slice none 0 0, .slice none 0 0, .slice none 0 0, .slice none 0 0] 46)) = x := ⟨_, rfl⟩
    rw [hW3] at K4 K7 K8 hb3 hz3 hr3 ⊢
    rw [hB] at K4 K7 K8 hz3
    clear hW3
    go_wp2_with (refine wpList_put rfl 46 (.tmp 8) _ rfl (B + 2) zmsg.toArray rfl rfl 46 zmsg K8 sizeMsg rfl rfl ?_; have K9 := K8.row zmsg.toArray; have hb9 := hb3.grown (grown_row W3 (B + 2) zmsg.toArray) (by omega) (fun j hj => by have h2 : B + 2 = j := by { injection hj }; omega))
    refine bodyPost_ret (results_rec rfl _ _ _ _ _ rfl K9 Try.underlying46 rfl sizeMsg) rfl ?_
    exact .inl ⟨hbig, rfl, hb9⟩
  by_cases h15 : 15 < code
  · skip
    go_upto_region 1 with fail
    obtain ⟨W3, hW3⟩ : ∃ x, (((w.alloc (.cells #[.int .u16 m.id, .bool m.reply, .int .u8 m.op, .bool m.aa, .bool m.tc, .bool m.rd, .bool m.ra, .int .u8 m.z, .int .u8 m.rc, .slice m.qa m.qn m.qc, .slice m.aA m.an m.ac, .slice m.uA m.un m.uc, .slice A n c] 46)).alloc (.cells #[.int .u16 sz, .int .u8 hi, .int .u8 ve, .int .u16 fl, .string s] 24)).alloc (.cells #[.int .u16 0, .bool false, .int .u8 0, .bool false, .bool false, .bool false, .bool false, .int .u8 0, .int .u8 0, .slice none 0 0, .slice none 0 0, .slice none 0 0, .slice none 0 0] 46)) = x := ⟨_, rfl⟩
    rw [hW3] at K4 K7 K8 hb3 hz3 hr3 ⊢
    rw [hB] at K4 K7 K8 hz3 hb3
    clear hW3
    have d12 := K4.cell 12 _ rfl
    go_upto_region 4 with (first | (go_at_call 26; refine (cloneR_ _ A n c l hr3 (by omega)).mono ?_; rintro e W4 ⟨u1, rfl, ho1, hb4⟩; have hz4 := hb4.size) | (go_at_call 25; refine (delFunc_ _ W3.heap.size u1 n l ho1 (by omega) hz4).mono ?_; rintro e W5 ⟨u2, rfl, ho2, hb5⟩; obtain ⟨A2, c2, rfl, _⟩ := own_rd ho2; have hz5 := hb5.size; have K4b : Blk W5 B 46 (m.cells A n c) := (hb5.block B (by omega)).trans (K4.below hb4); have K7b : Blk W5 (B + 1) 24 (ednsCells sz hi ve fl s) := (hb5.block (B + 1) (by omega)).trans (K7.below hb4); have K8b : Blk W5 (B + 2) 46 zmsg := (hb5.block (B + 2) (by omega)).trans (K8.below hb4); have d12b := K4b.cell 12 _ rfl; have f12b := K4b.free 12))
    have hnk : (kept l).length ≤ n := by
      have h1 := List.length_filter_le (fun r => !isOpt r) l
      have h2 := Rd.recs hr
      unfold kept
      omega
    have gs := grown_set W5 ⟨B, 12, none⟩ (.slice A2 (kept l).length c2)
    have K4c : Blk (W5.setCell ⟨B, 12, none⟩ (.slice A2 (kept l).length c2)) B 46 (m.cells A2 (kept l).length c2) := K4b.set 12 (.slice A2 (kept l).length c2)
    have K7c := K7b.grown gs (by simp)
    have K8c := K8b.grown gs (by simp)
    have ho6 := own_oth ho2 gs (fun k hk e => by have h1 := own_base ho2 k hk; have h2 : B = k := by { injection e }; omega)
    have hb6 := (hb3.trans ((hb4.trans hb5).mono (show B ≤ W3.heap.size by omega))).grown gs (show B ≤ W5.heap.size by omega) (fun k hk => by have h2 : B = k := by { injection hk }; omega)
    have hz6 : (W5.setCell ⟨B, 12, none⟩ (.slice A2 (kept l).length c2)).heap.size = W5.heap.size := size_set' _ _ _
    obtain ⟨N, hN⟩ : ∃ N, (kept l).length = N := ⟨_, rfl⟩
    obtain ⟨W6, hW6⟩ : ∃ x, W5.setCell ⟨B, 12, none⟩ (.slice A2 (kept l).length c2) = x := ⟨_, rfl⟩
    rw [hW6] at K4c K7c K8c ho6 hb6 hz6 ⊢
    rw [hN] at K4c ho6 hnk ⊢
    have HN := Lib.hid hN
    clear gs hW6 hN K4 K7 K8 hb3 hr3 d12 ho1 hb4 hb5 K4b K7b K8b d12b f12b ho2
    have d71 := K7c.cell 1 _ rfl
    have f71 := K7c.free 1
    go_upto_region 6 with fail
    have gs := grown_set W6 ⟨B + 1, 1, none⟩ (.int .u8 (code / 16))
    have K7d : Blk (W6.setCell ⟨B + 1, 1, none⟩ (.int .u8 (code / 16))) (B + 1) 24 (ednsCells sz (code / 16) ve fl s) := K7c.set 1 (.int .u8 (code / 16))
    have K4d := K4c.grown gs (by simp)
    have K8d := K8c.grown gs (by simp)
    have ho7 := own_oth ho6 gs (fun k hk e => by have h1 := own_base ho6 k hk; have h2 : B + 1 = k := by { injection e }; omega)
    have hb7 := hb6.grown gs (show B ≤ W6.heap.size by omega) (fun k hk => by have h2 : B + 1 = k := by { injection hk }; omega)
    have hz7 : (W6.setCell ⟨B + 1, 1, none⟩ (.int .u8 (code / 16))).heap.size = W6.heap.size := size_set' _ _ _
    obtain ⟨W7, hW7⟩ : ∃ x, W6.setCell ⟨B + 1, 1, none⟩ (.int .u8 (code / 16)) = x := ⟨_, rfl⟩
    rw [hW7] at K4d K7d K8d ho7 hb7 hz7 ⊢
    clear gs hW7 K4c K7c K8c ho6 hb6 d71 f71
    have hrec := record_ W7 sz (code / 16) ve fl s hlen (by omega) (by omega) v0 v1 f0 f1
    unfold RecP at hrec
    have hz76 : W3.heap.size ≤ W7.heap.size := by omega
    by_cases hrk : recOk s = true
    · rw [hrk] at hrec
      simp only [if_true, optRec] at hrec
      have HREC := Lib.hid hrec
      clear hrec
      go_upto_region 9 with (first | (refine wpList_get rfl 24 (.tmp 7) rfl (B + 1) rfl 24 (ednsCells sz (code / 16) ve fl s) _ K7d Try.underlying24 rfl sizeEdns ?_) | (go_at_call 7; refine HREC.out.mono ?_; rintro e W8 ⟨rfl, hb8⟩; have HB10 := Blk.new W8 31 zrec.toArray) | (refine wpList_put rfl 31 (.tmp 10) _ rfl W8.heap.size (recCells ⟨#[0]⟩ 41 sz (code / 16 * 16777216 + ve * 65536 + fl) s ⟨#[]⟩ ⟨#[]⟩ 0 0 0 0 0).toArray rfl rfl 31 zrec HB10 sizeRec rfl rfl ?_; have HB11 := HB10.row (recCells ⟨#[0]⟩ 41 sz (code / 16 * 16777216 + ve * 65536 + fl) s ⟨#[]⟩ ⟨#[]⟩ 0 0 0 0 0).toArray))
      have gr : W8.grownBy ((W8.alloc (.cells zrec.toArray 31)).setRow W8.heap.size (recCells ⟨#[0]⟩ 41 sz (code / 16 * 16777216 + ve * 65536 + fl) s ⟨#[]⟩ ⟨#[]⟩ 0 0 0 0 0).toArray) (some W8.heap.size) := (World.grownBy_alloc W8 (.cells zrec.toArray 31) (some W8.heap.size)).trans (grown_row _ _ _)
      have hz8 := hb8.size
      have K4e := (K4d.below hb8).grown gr (by simp; omega)
      have K8e := (K8d.below hb8).grown gr (by simp; omega)
      have ho8 := own_oth (own_below ho7 hb8) gr (fun k hk e => by have h1 := (ho7.lt k hk).2; have h2 : W8.heap.size = k := by { injection e }; omega)
      have hb9 := (hb7.trans (hb8.mono (show B ≤ W7.heap.size by omega))).grown gr (show B ≤ W8.heap.size by omega) (fun k hk => by have h2 : W8.heap.size = k := by { injection hk }; omega)
      have hz9 : ((W8.alloc (.cells zrec.toArray 31)).setRow W8.heap.size (recCells ⟨#[0]⟩ 41 sz (code / 16 * 16777216 + ve * 65536 + fl) s ⟨#[]⟩ ⟨#[]⟩ 0 0 0 0 0).toArray).heap.size = W8.heap.size + 1 := by simp only [World.setRow, Array.size_modify, World.size_alloc]
      show Code.wp _ _ _ _ ((W8.alloc (.cells zrec.toArray 31)).setRow W8.heap.size (recCells ⟨#[0]⟩ 41 sz (code / 16 * 16777216 + ve * 65536 + fl) s ⟨#[]⟩ ⟨#[]⟩ 0 0 0 0 0).toArray)
      obtain ⟨W9, hW9⟩ : ∃ x, ((W8.alloc (.cells zrec.toArray 31)).setRow W8.heap.size (recCells ⟨#[0]⟩ 41 sz (code / 16 * 16777216 + ve * 65536 + fl) s ⟨#[]⟩ ⟨#[]⟩ 0 0 0 0 0).toArray) = x := ⟨_, rfl⟩
      rw [hW9] at K4e K8e ho8 hb9 hz9 HB11 ⊢
      clear gr hW9 K4d K7d K8d ho7 hb7 HREC HB10
      have d12e := K4e.cell 12 _ rfl
      have hb39 : W3.heap.size ≤ W9.heap.size := by omega
      have hone : ∀ u ∈ (optRc code sz ve fl s).cells, u.oneCell' = true := fun u hu => rcs_one [optRc code sz ve fl s] u (by simpa [rcs] using hu)
      have hbox : Rd (W9.alloc (.cells (optRc code sz ve fl s).cells.toArray 31)) 12 (some ⟨W9.heap.size, 0, none⟩) 1 1 (optRc code sz ve fl s).cells := ⟨rfl, fun h => by (cases h), Nat.le_refl _, fun ad had => by cases had; exact World.news_of_block (cs := (optRc code sz ve fl s).cells.toArray) (t := 31) (fr := (0, 0)) (heap_alloc_new W9 _)⟩
      have HZ9 := Lib.hid hz9
      have hBz : B + 3 ≤ W9.heap.size := by omega
      clear hz9
      go_upto_region 10 with (first | (refine wpList_get rfl 31 (.tmp 10) rfl W8.heap.size rfl 31 [.string ⟨#[0]⟩, .int .u16 41, .int .u16 sz, .int .u32 (code / 16 * 16777216 + ve * 65536 + fl), .string s, .string ⟨#[]⟩, .string ⟨#[]⟩, .int .u32 0, .int .u32 0, .int .u32 0, .int .u32 0, .int .u32 0] _ HB11 Try.underlying31 rfl sizeRec ?_) | (refine wpList_app (w0 := W9) _ W3.heap.size rfl (.tmp 43) (.tmp 45) 44 44 31 (.agg #[.string ⟨#[]⟩, .int .u16 0, .int .u16 0, .int .u32 0, .string ⟨#[]⟩, .string ⟨#[]⟩, .string ⟨#[]⟩, .int .u32 0, .int .u32 0, .int .u32 0, .int .u32 0, .int .u32 0]) 12 96 rfl Try.underlying44 info_rec rfl (by decide) (by decide) (.slice A2 N c2) N (rcs (kept l)) rfl (.own (own_below ho8 (below_new _ _))) _ 1 (optRc code sz ve fl s).cells rfl (.slice hbox hone) ((Below.refl _ _).alloc hb39 _) (by rw [World.size_alloc]; omega) (by omega) ?_; intro v9 w10 _ ho10' hb10 hg10; have ho10 := ho10' (.inl (by decide)); clear ho10'; obtain ⟨A9, c9, rfl, _⟩ := own_rd ho10; have K4f := (K4e.alloc _).grown hg10 (fun e => by have := own_base ho8 B e.symm; omega); have K8f := (K8e.alloc _).grown hg10 (fun e => by have := own_base ho8 (B + 2) e.symm; omega); have hbf := (hb9.alloc (by omega) _).grown hg10 (by rw [World.size_alloc]; omega) (fun k hk => by have := own_base ho8 k hk; omega); have hzf := hg10.size; have d12f := K4f.cell 12 _ rfl; have f12f := K4f.free 12))
      have gs := grown_set w10 ⟨B, 12, none⟩ (.slice A9 (N + 1) c9)
      have K4g : Blk (w10.setCell ⟨B, 12, none⟩ (.slice A9 (N + 1) c9)) B 46 (m.cells A9 (N + 1) c9) := K4f.set 12 (.slice A9 (N + 1) c9)
      have K8g := K8f.grown gs (by simp)
      have ho11 := own_oth ho10 gs (fun k hk e => by have h1 := own_base ho10 k hk; have h2 : B = k := by { injection e }; omega)
      have hbg := hbf.grown gs (by rw [World.size_alloc] at hzf; omega) (fun k hk => by have h2 : B = k := by { injection hk }; omega)
      have hzg : (w10.setCell ⟨B, 12, none⟩ (.slice A9 (N + 1) c9)).heap.size = w10.heap.size := size_set' _ _ _
      rw [World.size_alloc] at hzf
      obtain ⟨WV, hWV⟩ : ∃ x, w10.setCell ⟨B, 12, none⟩ (.slice A9 (N + 1) c9) = x := ⟨_, rfl⟩
      rw [hWV] at K4g K8g ho11 hbg hzg ⊢
      clear gs hWV K4f K8f ho10 hbf d12f f12f K4e K8e ho8 hb9 HB11 hbox d12e
      have d8 := K4g.cell 8 _ rfl
      have f8 := K4g.free 8
      go_upto_region 11 with fail
      rw [low4 code k0 k1]
      have gs := grown_set WV ⟨B, 8, none⟩ (.int .u8 (code % 16))
      have K4h : Blk (WV.setCell ⟨B, 8, none⟩ (.int .u8 (code % 16))) B 46 (({ m with rc := code % 16 } : Mg).cells A9 (N + 1) c9) := K4g.set 8 (.int .u8 (code % 16))
      have K8h := K8g.grown gs (by simp)
      have ho12 := own_oth ho11 gs (fun k hk e => by have h1 := own_base ho11 k hk; have h2 : B = k := by { injection e }; omega)
      have hbh := hbg.grown gs (by omega) (fun k hk => by have h2 : B = k := by { injection hk }; omega)
      have hzh : (WV.setCell ⟨B, 8, none⟩ (.int .u8 (code % 16))).heap.size = WV.heap.size := size_set' _ _ _
      obtain ⟨WU, hWU⟩ : ∃ x, WV.setCell ⟨B, 8, none⟩ (.int .u8 (code % 16)) = x := ⟨_, rfl⟩
      rw [hWU] at K4h K8h ho12 hbh hzh ⊢
      clear gs hWU K4g K8g ho11 hbg d8 f8
      go_wp2_with (first | (refine wpList_get rfl 46 (.tmp 4) rfl B rfl 46 (({ m with rc := code % 16 } : Mg).cells A9 (N + 1) c9) _ K4h Try.underlying46 rfl sizeMsg ?_) | (refine wpList_put rfl 46 (.tmp 8) _ rfl (B + 2) (({ m with rc := code % 16 } : Mg).cells A9 (N + 1) c9).toArray rfl rfl 46 zmsg K8h sizeMsg rfl rfl ?_; have K9 := K8h.row (({ m with rc := code % 16 } : Mg).cells A9 (N + 1) c9).toArray))
      have ho13 := own_oth ho12 (grown_row WU (B + 2) (({ m with rc := code % 16 } : Mg).cells A9 (N + 1) c9).toArray) (fun k hk e => by have h1 := own_base ho12 k hk; have h2 : B + 2 = k := by { injection e }; omega)
      have hbi := hbh.grown (grown_row WU (B + 2) (({ m with rc := code % 16 } : Mg).cells A9 (N + 1) c9).toArray) (by omega) (fun k hk => by have h2 : B + 2 = k := by { injection hk }; omega)
      refine bodyPost_ret (results_rec rfl _ _ _ _ _ rfl K9 Try.underlying46 rfl sizeMsg) rfl ?_
      rw [show rcs (kept l) ++ (optRc code sz ve fl s).cells = rcs (kept l ++ [optRc code sz ve fl s]) by simp [rcs]] at ho13
      exact .inr (.inr ⟨by omega, hrk, A9, N + 1, c9, rfl, own_lower ho13 (by omega), by rw [hB]; exact hbi⟩)
    · have hrk : recOk s = false := by simpa using hrk
      rw [hrk] at hrec
      simp only [if_false, Bool.false_eq_true, zeroRec] at hrec
      have HREC := Lib.hid hrec
      clear hrec
      go_wp2_with (first | (refine wpList_get rfl 24 (.tmp 7) rfl (B + 1) rfl 24 (ednsCells sz (code / 16) ve fl s) _ K7d Try.underlying24 rfl sizeEdns ?_) | (go_at_call 7; refine HREC.out.mono ?_; rintro e W8 ⟨rfl, hb8⟩; have HB10 := Blk.new W8 31 zrec.toArray; have hz8 := hb8.size) | (refine wpList_put rfl 31 (.tmp 10) _ rfl W8.heap.size zrec.toArray rfl rfl 31 zrec HB10 sizeRec rfl rfl ?_; have gr : W8.grownBy ((W8.alloc (.cells zrec.toArray 31)).setRow W8.heap.size zrec.toArray) (some W8.heap.size) := (World.grownBy_alloc W8 (.cells zrec.toArray 31) (some W8.heap.size)).trans (grown_row _ _ _); have K8e := (K8d.below hb8).grown gr (by simp; omega); have hb9 := (hb7.trans (hb8.mono (show B ≤ W7.heap.size by omega))).grown gr (show B ≤ W8.heap.size by omega) (fun k hk => by have h2 : W8.heap.size = k := by { injection hk }; omega)) | (refine wpList_put rfl 46 (.tmp 8) _ rfl (B + 2) zmsg.toArray rfl rfl 46 zmsg K8e sizeMsg rfl rfl ?_; have K9 := K8e.row zmsg.toArray; have hb10 := hb9.grown (grown_row _ (B + 2) zmsg.toArray) (by simp only [World.setRow, Array.size_modify, World.size_alloc]; omega) (fun j hj => by have h2 : B + 2 = j := by { injection hj }; omega)))
      refine bodyPost_ret (results_rec rfl _ _ _ _ _ rfl K9 Try.underlying46 rfl sizeMsg) rfl ?_
      exact .inr (.inl ⟨by omega, hrk, rfl, by rw [hB]; exact hb10⟩)
  · skip
    go_upto_region 1 with fail
    obtain ⟨W3, hW3⟩ : ∃ x, (((w.alloc (.cells #[.int .u16 m.id, .bool m.reply, .int .u8 m.op, .bool m.aa, .bool m.tc, .bool m.rd, .bool m.ra, .int .u8 m.z, .int .u8 m.rc, .slice m.qa m.qn m.qc, .slice m.aA m.an m.ac, .slice m.uA m.un m.uc, .slice A n c] 46)).alloc (.cells #[.int .u16 sz, .int .u8 hi, .int .u8 ve, .int .u16 fl, .string s] 24)).alloc (.cells #[.int .u16 0, .bool false, .int .u8 0, .bool false, .bool false, .bool false, .bool false, .int .u8 0, .int .u8 0, .slice none 0 0, .slice none 0 0, .slice none 0 0, .slice none 0 0] 46)) = x := ⟨_, rfl⟩
    rw [hW3] at K4 K7 K8 hb3 hz3 hr3 ⊢
    rw [hB] at K4 K7 K8 hz3 hb3
    clear hW3
    have d12 := K4.cell 12 _ rfl
    go_upto_region 4 with (first | (go_at_call 26; refine (cloneR_ _ A n c l hr3 (by omega)).mono ?_; rintro e W4 ⟨u1, rfl, ho1, hb4⟩; have hz4 := hb4.size) | (go_at_call 25; refine (delFunc_ _ W3.heap.size u1 n l ho1 (by omega) hz4).mono ?_; rintro e W5 ⟨u2, rfl, ho2, hb5⟩; obtain ⟨A2, c2, rfl, _⟩ := own_rd ho2; have hz5 := hb5.size; have K4b : Blk W5 B 46 (m.cells A n c) := (hb5.block B (by omega)).trans (K4.below hb4); have K7b : Blk W5 (B + 1) 24 (ednsCells sz hi ve fl s) := (hb5.block (B + 1) (by omega)).trans (K7.below hb4); have K8b : Blk W5 (B + 2) 46 zmsg := (hb5.block (B + 2) (by omega)).trans (K8.below hb4); have d12b := K4b.cell 12 _ rfl; have f12b := K4b.free 12))
    have hnk : (kept l).length ≤ n := by
      have h1 := List.length_filter_le (fun r => !isOpt r) l
      have h2 := Rd.recs hr
      unfold kept
      omega
    have gs := grown_set W5 ⟨B, 12, none⟩ (.slice A2 (kept l).length c2)
    have K4c : Blk (W5.setCell ⟨B, 12, none⟩ (.slice A2 (kept l).length c2)) B 46 (m.cells A2 (kept l).length c2) := K4b.set 12 (.slice A2 (kept l).length c2)
    have K7c := K7b.grown gs (by simp)
    have K8c := K8b.grown gs (by simp)
    have ho6 := own_oth ho2 gs (fun k hk e => by have h1 := own_base ho2 k hk; have h2 : B = k := by { injection e }; omega)
    have hb6 := (hb3.trans ((hb4.trans hb5).mono (show B ≤ W3.heap.size by omega))).grown gs (show B ≤ W5.heap.size by omega) (fun k hk => by have h2 : B = k := by { injection hk }; omega)
    have hz6 : (W5.setCell ⟨B, 12, none⟩ (.slice A2 (kept l).length c2)).heap.size = W5.heap.size := size_set' _ _ _
    obtain ⟨N, hN⟩ : ∃ N, (kept l).length = N := ⟨_, rfl⟩
    obtain ⟨W6, hW6⟩ : ∃ x, W5.setCell ⟨B, 12, none⟩ (.slice A2 (kept l).length c2) = x := ⟨_, rfl⟩
    rw [hW6] at K4c K7c K8c ho6 hb6 hz6 ⊢
    rw [hN] at K4c ho6 hnk ⊢
    have HN := Lib.hid hN
    clear gs hW6 hN K4 K7 K8 hb3 hr3 d12 ho1 hb4 hb5 K4b K7b K8b d12b f12b ho2
    have d71 := K7c.cell 1 _ rfl
    have f71 := K7c.free 1
    go_upto_region 6 with fail
    have gs := grown_set W6 ⟨B + 1, 1, none⟩ (.int .u8 (code / 16))
    have K7d : Blk (W6.setCell ⟨B + 1, 1, none⟩ (.int .u8 (code / 16))) (B + 1) 24 (ednsCells sz (code / 16) ve fl s) := K7c.set 1 (.int .u8 (code / 16))
    have K4d := K4c.grown gs (by simp)
    have K8d := K8c.grown gs (by simp)
    have ho7 := own_oth ho6 gs (fun k hk e => by have h1 := own_base ho6 k hk; have h2 : B + 1 = k := by { injection e }; omega)
    have hb7 := hb6.grown gs (show B ≤ W6.heap.size by omega) (fun k hk => by have h2 : B + 1 = k := by { injection hk }; omega)
    have hz7 : (W6.setCell ⟨B + 1, 1, none⟩ (.int .u8 (code / 16))).heap.size = W6.heap.size := size_set' _ _ _
    obtain ⟨W7, hW7⟩ : ∃ x, W6.setCell ⟨B + 1, 1, none⟩ (.int .u8 (code / 16)) = x := ⟨_, rfl⟩
    rw [hW7] at K4d K7d K8d ho7 hb7 hz7 ⊢
    clear gs hW7 K4c K7c K8c ho6 hb6 d71 f71
    have hrec := record_ W7 sz (code / 16) ve fl s hlen (by omega) (by omega) v0 v1 f0 f1
    unfold RecP at hrec
    have hz76 : W3.heap.size ≤ W7.heap.size := by omega
    by_cases hrk : recOk s = true
    · rw [hrk] at hrec
      simp only [if_true, optRec] at hrec
      have HREC := Lib.hid hrec
      clear hrec
      go_upto_region 9 with (first | (refine wpList_get rfl 24 (.tmp 7) rfl (B + 1) rfl 24 (ednsCells sz (code / 16) ve fl s) _ K7d Try.underlying24 rfl sizeEdns ?_) | (go_at_call 7; refine HREC.out.mono ?_; rintro e W8 ⟨rfl, hb8⟩; have HB10 := Blk.new W8 31 zrec.toArray) | (refine wpList_put rfl 31 (.tmp 10) _ rfl W8.heap.size (recCells ⟨#[0]⟩ 41 sz (code / 16 * 16777216 + ve * 65536 + fl) s ⟨#[]⟩ ⟨#[]⟩ 0 0 0 0 0).toArray rfl rfl 31 zrec HB10 sizeRec rfl rfl ?_; have HB11 := HB10.row (recCells ⟨#[0]⟩ 41 sz (code / 16 * 16777216 + ve * 65536 + fl) s ⟨#[]⟩ ⟨#[]⟩ 0 0 0 0 0).toArray))
      have gr : W8.grownBy ((W8.alloc (.cells zrec.toArray 31)).setRow W8.heap.size (recCells ⟨#[0]⟩ 41 sz (code / 16 * 16777216 + ve * 65536 + fl) s ⟨#[]⟩ ⟨#[]⟩ 0 0 0 0 0).toArray) (some W8.heap.size) := (World.grownBy_alloc W8 (.cells zrec.toArray 31) (some W8.heap.size)).trans (grown_row _ _ _)
      have hz8 := hb8.size
      have K4e := (K4d.below hb8).grown gr (by simp; omega)
      have K8e := (K8d.below hb8).grown gr (by simp; omega)
      have ho8 := own_oth (own_below ho7 hb8) gr (fun k hk e => by have h1 := (ho7.lt k hk).2; have h2 : W8.heap.size = k := by { injection e }; omega)
      have hb9 := (hb7.trans (hb8.mono (show B ≤ W7.heap.size by omega))).grown gr (show B ≤ W8.heap.size by omega) (fun k hk => by have h2 : W8.heap.size = k := by { injection hk }; omega)
      have hz9 : ((W8.alloc (.cells zrec.toArray 31)).setRow W8.heap.size (recCells ⟨#[0]⟩ 41 sz (code / 16 * 16777216 + ve * 65536 + fl) s ⟨#[]⟩ ⟨#[]⟩ 0 0 0 0 0).toArray).heap.size = W8.heap.size + 1 := by simp only [World.setRow, Array.size_modify, World.size_alloc]
      show Code.wp _ _ _ _ ((W8.alloc (.cells zrec.toArray 31)).setRow W8.heap.size (recCells ⟨#[0]⟩ 41 sz (code / 16 * 16777216 + ve * 65536 + fl) s ⟨#[]⟩ ⟨#[]⟩ 0 0 0 0 0).toArray)
      obtain ⟨W9, hW9⟩ : ∃ x, ((W8.alloc (.cells zrec.toArray 31)).setRow W8.heap.size (recCells ⟨#[0]⟩ 41 sz (code / 16 * 16777216 + ve * 65536 + fl) s ⟨#[]⟩ ⟨#[]⟩ 0 0 0 0 0).toArray) = x := ⟨_, rfl⟩
      rw [hW9] at K4e K8e ho8 hb9 hz9 HB11 ⊢
      clear gr hW9 K4d K7d K8d ho7 hb7 HREC HB10
      have d12e := K4e.cell 12 _ rfl
      have hb39 : W3.heap.size ≤ W9.heap.size := by omega
      have hone : ∀ u ∈ (optRc code sz ve fl s).cells, u.oneCell' = true := fun u hu => rcs_one [optRc code sz ve fl s] u (by simpa [rcs] using hu)
      have hbox : Rd (W9.alloc (.cells (optRc code sz ve fl s).cells.toArray 31)) 12 (some ⟨W9.heap.size, 0, none⟩) 1 1 (optRc code sz ve fl s).cells := ⟨rfl, fun h => by (cases h), Nat.le_refl _, fun ad had => by cases had; exact World.news_of_block (cs := (optRc code sz ve fl s).cells.toArray) (t := 31) (fr := (0, 0)) (heap_alloc_new W9 _)⟩
      have HZ9 := Lib.hid hz9
      have hBz : B + 3 ≤ W9.heap.size := by omega
      clear hz9
      go_upto_region 10 with (first | (refine wpList_get rfl 31 (.tmp 10) rfl W8.heap.size rfl 31 [.string ⟨#[0]⟩, .int .u16 41, .int .u16 sz, .int .u32 (code / 16 * 16777216 + ve * 65536 + fl), .string s, .string ⟨#[]⟩, .string ⟨#[]⟩, .int .u32 0, .int .u32 0, .int .u32 0, .int .u32 0, .int .u32 0] _ HB11 Try.underlying31 rfl sizeRec ?_) | (refine wpList_app (w0 := W9) _ W3.heap.size rfl (.tmp 43) (.tmp 45) 44 44 31 (.agg #[.string ⟨#[]⟩, .int .u16 0, .int .u16 0, .int .u32 0, .string ⟨#[]⟩, .string ⟨#[]⟩, .string ⟨#[]⟩, .int .u32 0, .int .u32 0, .int .u32 0, .int .u32 0, .int .u32 0]) 12 96 rfl Try.underlying44 info_rec rfl (by decide) (by decide) (.slice A2 N c2) N (rcs (kept l)) rfl (.own (own_below ho8 (below_new _ _))) _ 1 (optRc code sz ve fl s).cells rfl (.slice hbox hone) ((Below.refl _ _).alloc hb39 _) (by rw [World.size_alloc]; omega) (by omega) ?_; intro v9 w10 _ ho10' hb10 hg10; have ho10 := ho10' (.inl (by decide)); clear ho10'; obtain ⟨A9, c9, rfl, _⟩ := own_rd ho10; have K4f := (K4e.alloc _).grown hg10 (fun e => by have := own_base ho8 B e.symm; omega); have K8f := (K8e.alloc _).grown hg10 (fun e => by have := own_base ho8 (B + 2) e.symm; omega); have hbf := (hb9.alloc (by omega) _).grown hg10 (by rw [World.size_alloc]; omega) (fun k hk => by have := own_base ho8 k hk; omega); have hzf := hg10.size; have d12f := K4f.cell 12 _ rfl; have f12f := K4f.free 12))
      have gs := grown_set w10 ⟨B, 12, none⟩ (.slice A9 (N + 1) c9)
      have K4g : Blk (w10.setCell ⟨B, 12, none⟩ (.slice A9 (N + 1) c9)) B 46 (m.cells A9 (N + 1) c9) := K4f.set 12 (.slice A9 (N + 1) c9)
      have K8g := K8f.grown gs (by simp)
      have ho11 := own_oth ho10 gs (fun k hk e => by have h1 := own_base ho10 k hk; have h2 : B = k := by { injection e }; omega)
      have hbg := hbf.grown gs (by rw [World.size_alloc] at hzf; omega) (fun k hk => by have h2 : B = k := by { injection hk }; omega)
      have hzg : (w10.setCell ⟨B, 12, none⟩ (.slice A9 (N + 1) c9)).heap.size = w10.heap.size := size_set' _ _ _
      rw [World.size_alloc] at hzf
      obtain ⟨WV, hWV⟩ : ∃ x, w10.setCell ⟨B, 12, none⟩ (.slice A9 (N + 1) c9) = x := ⟨_, rfl⟩
      rw [hWV] at K4g K8g ho11 hbg hzg ⊢
      clear gs hWV K4f K8f ho10 hbf d12f f12f K4e K8e ho8 hb9 HB11 hbox d12e
      have d8 := K4g.cell 8 _ rfl
      have f8 := K4g.free 8
      go_upto_region 11 with fail
      rw [low4 code k0 k1]
      have gs := grown_set WV ⟨B, 8, none⟩ (.int .u8 (code % 16))
      have K4h : Blk (WV.setCell ⟨B, 8, none⟩ (.int .u8 (code % 16))) B 46 (({ m with rc := code % 16 } : Mg).cells A9 (N + 1) c9) := K4g.set 8 (.int .u8 (code % 16))
      have K8h := K8g.grown gs (by simp)
      have ho12 := own_oth ho11 gs (fun k hk e => by have h1 := own_base ho11 k hk; have h2 : B = k := by { injection e }; omega)
      have hbh := hbg.grown gs (by omega) (fun k hk => by have h2 : B = k := by { injection hk }; omega)
      have hzh : (WV.setCell ⟨B, 8, none⟩ (.int .u8 (code % 16))).heap.size = WV.heap.size := size_set' _ _ _
      obtain ⟨WU, hWU⟩ : ∃ x, WV.setCell ⟨B, 8, none⟩ (.int .u8 (code % 16)) = x := ⟨_, rfl⟩
      rw [hWU] at K4h K8h ho12 hbh hzh ⊢
      clear gs hWU K4g K8g ho11 hbg d8 f8
      go_wp2_with (first | (refine wpList_get rfl 46 (.tmp 4) rfl B rfl 46 (({ m with rc := code % 16 } : Mg).cells A9 (N + 1) c9) _ K4h Try.underlying46 rfl sizeMsg ?_) | (refine wpList_put rfl 46 (.tmp 8) _ rfl (B + 2) (({ m with rc := code % 16 } : Mg).cells A9 (N + 1) c9).toArray rfl rfl 46 zmsg K8h sizeMsg rfl rfl ?_; have K9 := K8h.row (({ m with rc := code % 16 } : Mg).cells A9 (N + 1) c9).toArray))
      have ho13 := own_oth ho12 (grown_row WU (B + 2) (({ m with rc := code % 16 } : Mg).cells A9 (N + 1) c9).toArray) (fun k hk e => by have h1 := own_base ho12 k hk; have h2 : B + 2 = k := by { injection e }; omega)
      have hbi := hbh.grown (grown_row WU (B + 2) (({ m with rc := code % 16 } : Mg).cells A9 (N + 1) c9).toArray) (by omega) (fun k hk => by have h2 : B + 2 = k := by { injection hk }; omega)
      refine bodyPost_ret (results_rec rfl _ _ _ _ _ rfl K9 Try.underlying46 rfl sizeMsg) rfl ?_
      rw [show rcs (kept l) ++ (optRc code sz ve fl s).cells = rcs (kept l ++ [optRc code sz ve fl s]) by simp [rcs]] at ho13
      exact .inr (.inr ⟨by omega, hrk, A9, N + 1, c9, rfl, own_lower ho13 (by omega), by rw [hB]; exact hbi⟩)
    · have hrk : recOk s = false := by simpa using hrk
      rw [hrk] at hrec
      simp only [if_false, Bool.false_eq_true, zeroRec] at hrec
      have HREC := Lib.hid hrec
      clear hrec
      go_wp2_with (first | (refine wpList_get rfl 24 (.tmp 7) rfl (B + 1) rfl 24 (ednsCells sz (code / 16) ve fl s) _ K7d Try.underlying24 rfl sizeEdns ?_) | (go_at_call 7; refine HREC.out.mono ?_; rintro e W8 ⟨rfl, hb8⟩; have HB10 := Blk.new W8 31 zrec.toArray; have hz8 := hb8.size) | (refine wpList_put rfl 31 (.tmp 10) _ rfl W8.heap.size zrec.toArray rfl rfl 31 zrec HB10 sizeRec rfl rfl ?_; have gr : W8.grownBy ((W8.alloc (.cells zrec.toArray 31)).setRow W8.heap.size zrec.toArray) (some W8.heap.size) := (World.grownBy_alloc W8 (.cells zrec.toArray 31) (some W8.heap.size)).trans (grown_row _ _ _); have K8e := (K8d.below hb8).grown gr (by simp; omega); have hb9 := (hb7.trans (hb8.mono (show B ≤ W7.heap.size by omega))).grown gr (show B ≤ W8.heap.size by omega) (fun k hk => by have h2 : W8.heap.size = k := by { injection hk }; omega)) | (refine wpList_put rfl 46 (.tmp 8) _ rfl (B + 2) zmsg.toArray rfl rfl 46 zmsg K8e sizeMsg rfl rfl ?_; have K9 := K8e.row zmsg.toArray; have hb10 := hb9.grown (grown_row _ (B + 2) zmsg.toArray) (by simp only [World.setRow, Array.size_modify, World.size_alloc]; omega) (fun j hj => by have h2 : B + 2 = j := by { injection hj }; omega)))
      refine bodyPost_ret (results_rec rfl _ _ _ _ _ rfl K9 Try.underlying46 rfl sizeMsg) rfl ?_
      exact .inr (.inl ⟨by omega, hrk, rfl, by rw [hB]; exact hb10⟩)
end Go.Proofs.Ytdgdgioenfglnaa
