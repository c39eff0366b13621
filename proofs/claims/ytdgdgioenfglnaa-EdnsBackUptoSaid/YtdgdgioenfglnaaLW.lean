/- edns: EdnsBack. -/
import Derived.Test.YtdgdgioenfglnaaLV
import Derived.BigGuard
namespace Go.Proofs.Ytdgdgioenfglnaa
open Go.RowKit Go.HL
set_option linter.unusedVariables false
set_option linter.unusedSimpArgs false
theorem lim_facts (sz most : Int) : 512 ≤ limV true sz most ∧ (512 < limV true sz most → limV true sz most ≤ most ∧ limV true sz most ≤ sz) := by
  unfold limV
  simp only [if_true]
  split <;> split <;> first | (constructor <;> omega) | omega
theorem drewN_add' (w : World) (q : Nat) : ∀ n, (w.drewN q).drewN n = w.drewN (q + n)
  | 0 => rfl
  | n + 1 => by show ((w.drewN q).drewN n).drew = _; rw [drewN_add' w q n]; rfl
theorem eqRec_neq (nm : ByteArray) (ty cl ttl : Int) (raw host mail : ByteArray) (n0 n1 n2 n3 n4 : Int) (w : World) :
    (binOp .neq 31 (.agg #[.string nm, .int .u16 ty, .int .u16 cl, .int .u32 ttl, .string raw, .string host, .string mail, .int .u32 n0, .int .u32 n1, .int .u32 n2, .int .u32 n3, .int .u32 n4]) (.agg #[.string nm, .int .u16 ty, .int .u16 cl, .int .u32 ttl, .string raw, .string host, .string mail, .int .u32 n0, .int .u32 n1, .int .u32 n2, .int .u32 n3, .int .u32 n4])).run Try.prog w = .ok (.bool false) w := by
  have h := eqRec_self nm ty cl ttl raw host mail n0 n1 n2 n3 n4 w
  unfold recCells at h
  rw [run_eql_struct] at h
  rw [run_neq_struct]
  cases hq : (Op.equalIn 10000 31 (.agg #[.string nm, .int .u16 ty, .int .u16 cl, .int .u32 ttl, .string raw, .string host, .string mail, .int .u32 n0, .int .u32 n1, .int .u32 n2, .int .u32 n3, .int .u32 n4]) (.agg #[.string nm, .int .u16 ty, .int .u16 cl, .int .u32 ttl, .string raw, .string host, .string mail, .int .u32 n0, .int .u32 n1, .int .u32 n2, .int .u32 n3, .int .u32 n4])).run Try.prog w with
  | ok b w' => rw [hq] at h; simp [Result.andThen] at h ⊢; obtain ⟨rfl, rfl⟩ := h; exact ⟨rfl, rfl⟩
  | _ => rw [hq] at h; simp [Result.andThen] at h
theorem find_back (m : Mg) (A9 : Option Addr) (n9 c9 : Nat) (l : List Rc) (code sz ve fl : Int) (s : ByteArray) (k0 : 0 ≤ code) (k1 : code ≤ 4095) (z0 : 0 ≤ sz) (z1 : sz < 65536) (v0 : 0 ≤ ve) (v1 : ve < 256) (f0 : 0 ≤ fl) (f1 : fl < 65536) (hlen : s.size ≤ 1048576) (hok : okOf s = true) (W : World) (hr : Rd W 12 A9 n9 c9 (rcs (kept l ++ [optRc code sz ve fl s]))) (hn : n9 ≤ 1048576) :
    Calls Try.prog 14 #[m.val A9 n9 c9] W (FindP W (ednsCells sz (code / 16) ve fl s) true 0) := by
  have hl := Rd.recs hr
  obtain ⟨ad, rfl⟩ : ∃ a, A9 = some a := by
    cases A9 with
    | none =>
      have h1 := (hr.nil_ rfl).1
      simp at hl
      omega
    | some a => exact ⟨a, rfl⟩
  have hro : (optRc code sz ve fl s).ok := ⟨(by decide : (0 : Int) ≤ 41), (by decide : (41 : Int) < 65536), z0, z1, (by show 0 ≤ code / 16 * 16777216 + ve * 65536 + fl; omega), (by show code / 16 * 16777216 + ve * 65536 + fl < 4294967296; omega), hlen⟩
  by_cases hci : c9 = (kept l).length + 1
  · have h := find_last W m ad n9 c9 _ hr hn (kept l).length _ (back_idx l code sz ve fl s) (back_at l code sz ve fl s) hro hci
    rw [back_good l code sz ve fl s hok, back_says code sz ve fl s k0 k1 v0 v1 f0 f1] at h
    exact h
  · have h := find_some W m ad n9 c9 _ hr hn (kept l).length _ (back_idx l code sz ve fl s) (back_at l code sz ve fl s) hro hci
    rw [back_good l code sz ve fl s hok, back_says code sz ve fl s k0 k1 v0 v1 f0 f1] at h
    exact h
set_option maxRecDepth 100000 in
set_option maxHeartbeats 8000000 in
theorem ednsBack_big (w : World) (m : Mg) (A : Option Addr) (n c : Nat) (l : List Rc) (code sz hi ve fl : Int) (s : ByteArray) (most : Int) (hr : Rd w 12 A n c (rcs l)) (hn : n ≤ 1048576) (hok : ∀ r ∈ l, r.ok) (r0 : 0 ≤ m.rc) (r1 : m.rc < 256) (k0 : 0 ≤ code) (k1 : code < 65536) (z0 : 0 ≤ sz) (z1 : sz < 65536) (h0 : 0 ≤ hi) (h1 : hi < 256) (v0 : 0 ≤ ve) (v1 : ve < 256) (f0 : 0 ≤ fl) (f1 : fl < 65536) (hlen : s.size ≤ 1048576) (m0 : -9223372036854775808 ≤ most) (m1 : most ≤ 9223372036854775807) (h512 : 512 < limV true sz most) :
    Calls Try.prog 6 #[m.val A n c, .int .u16 code, ednsV sz hi ve fl s, .int .i64 most] w (Tells w (.bool true)) := by
  unfold Mg.val ednsV
  have K4 : Blk ((w.alloc (.cells #[.int .u16 m.id, .bool m.reply, .int .u8 m.op, .bool m.aa, .bool m.tc, .bool m.rd, .bool m.ra, .int .u8 m.z, .int .u8 m.rc, .slice m.qa m.qn m.qc, .slice m.aA m.an m.ac, .slice m.uA m.un m.uc, .slice A n c] 46)).alloc (.cells #[.int .u16 sz, .int .u8 hi, .int .u8 ve, .int .u16 fl, .string s] 24)) w.heap.size 46 (m.cells A n c) := (Blk.new w 46 #[.int .u16 m.id, .bool m.reply, .int .u8 m.op, .bool m.aa, .bool m.tc, .bool m.rd, .bool m.ra, .int .u8 m.z, .int .u8 m.rc, .slice m.qa m.qn m.qc, .slice m.aA m.an m.ac, .slice m.uA m.un m.uc, .slice A n c]).alloc _
  have K6 : Blk ((w.alloc (.cells #[.int .u16 m.id, .bool m.reply, .int .u8 m.op, .bool m.aa, .bool m.tc, .bool m.rd, .bool m.ra, .int .u8 m.z, .int .u8 m.rc, .slice m.qa m.qn m.qc, .slice m.aA m.an m.ac, .slice m.uA m.un m.uc, .slice A n c] 46)).alloc (.cells #[.int .u16 sz, .int .u8 hi, .int .u8 ve, .int .u16 fl, .string s] 24)) (w.heap.size + 1) 24 (ednsCells sz hi ve fl s) := by
    have h := Blk.new (w.alloc (.cells #[.int .u16 m.id, .bool m.reply, .int .u8 m.op, .bool m.aa, .bool m.tc, .bool m.rd, .bool m.ra, .int .u8 m.z, .int .u8 m.rc, .slice m.qa m.qn m.qc, .slice m.aA m.an m.ac, .slice m.uA m.un m.uc, .slice A n c] 46)) 24 #[.int .u16 sz, .int .u8 hi, .int .u8 ve, .int .u16 fl, .string s]
    rw [World.size_alloc] at h
    exact h
  have hb2 : Below w.heap.size w ((w.alloc (.cells #[.int .u16 m.id, .bool m.reply, .int .u8 m.op, .bool m.aa, .bool m.tc, .bool m.rd, .bool m.ra, .int .u8 m.z, .int .u8 m.rc, .slice m.qa m.qn m.qc, .slice m.aA m.an m.ac, .slice m.uA m.un m.uc, .slice A n c] 46)).alloc (.cells #[.int .u16 sz, .int .u8 hi, .int .u8 ve, .int .u16 fl, .string s] 24)) := below_alloc (below_new w _) _
  have hz2 : (((w.alloc (.cells #[.int .u16 m.id, .bool m.reply, .int .u8 m.op, .bool m.aa, .bool m.tc, .bool m.rd, .bool m.ra, .int .u8 m.z, .int .u8 m.rc, .slice m.qa m.qn m.qc, .slice m.aA m.an m.ac, .slice m.uA m.un m.uc, .slice A n c] 46)).alloc (.cells #[.int .u16 sz, .int .u8 hi, .int .u8 ve, .int .u16 fl, .string s] 24))).heap.size = w.heap.size + 2 := by rw [World.size_alloc, World.size_alloc]
  have hr2 := hr.below hb2
  go_enter Try.func6, Try.ntmps6
  obtain ⟨B, hB⟩ : ∃ B, w.heap.size = B := ⟨_, rfl⟩
  go_upto_region 1 with fail
  obtain ⟨W2, hW2⟩ : ∃ x, ((w.alloc (.cells #[.int .u16 m.id, .bool m.reply, .int .u8 m.op, .bool m.aa, .bool m.tc, .bool m.rd, .bool m.ra, .int .u8 m.z, .int .u8 m.rc, .slice m.qa m.qn m.qc, .slice m.aA m.an m.ac, .slice m.uA m.un m.uc, .slice A n c] 46)).alloc (.cells #[.int .u16 sz, .int .u8 hi, .int .u8 ve, .int .u16 fl, .string s] 24)) = x := ⟨_, rfl⟩
  rw [hW2] at K4 K6 hb2 hz2 hr2 ⊢
  rw [hB] at K4 K6 hz2 hb2
  clear hW2
  have d12 := K4.cell 12 _ rfl
  by_cases hbig : 1000 < n
  · have hbig' : (1000 : Int) < (n : Int) := by omega
    go_wp2_with (go_at_call 11; refine (wakes _).mono ?_; rintro e w7 ⟨rfl, hb7⟩)
    go_ret
    exact ⟨rfl, by rw [hB]; exact hb2.trans (hb7.mono (by omega))⟩
  have hbig' : ¬ (1000 : Int) < (n : Int) := by omega
  obtain ⟨hk1, hk2⟩ := lim_facts sz most
  have hlim := limit_ W2 true sz hi ve fl most s z0 z1
  obtain ⟨K, hK⟩ : ∃ K, limV true sz most = K := ⟨_, rfl⟩
  rw [hK] at hk1 hk2 hlim h512
  have HLIM := Lib.hid hlim
  clear hlim hK
  have hk1' : ¬ K < 512 := by omega
  obtain ⟨hk3, hk4⟩ := hk2 h512
  have hk3' : ¬ most < K := by omega
  have hk4' : ¬ sz < K := by omega
  go_upto_region 4 with (first | (refine wpList_get rfl 24 (.tmp 6) rfl (B + 1) rfl 24 (ednsCells sz hi ve fl s) _ K6 Try.underlying24 rfl sizeEdns ?_) | (go_at_call 9; refine HLIM.out.mono ?_; rintro e W3 ⟨rfl, hb3⟩; have hz3 := hb3.size; have K4b := K4.below hb3; have K6b := K6.below hb3; have d60 := K6b.cell 0 _ rfl))
  go_upto_region 6 with fail
  have hset := set_ W3 m A n c l (hr2.below hb3) (by omega) code sz hi ve fl s hlen k0 k1 h0 h1 v0 v1 f0 f1
  have HSET := Lib.hid hset
  have hbw3 := hb2.trans (hb3.mono (show B ≤ W2.heap.size by omega))
  clear hset K4 K6 d12 d60 hb2
  go_upto_region 7 with (first | (refine wpList_get rfl 24 (.tmp 6) rfl (B + 1) rfl 24 (ednsCells sz hi ve fl s) _ K6b Try.underlying24 rfl sizeEdns ?_) | (refine wpList_get rfl 46 (.tmp 4) rfl B rfl 46 (m.cells A n c) _ K4b Try.underlying46 rfl sizeMsg ?_) | (go_at_call 18; refine HSET.out.mono ?_; intro e W4 hsp; have HB10 := Blk.new W4 46 zmsg.toArray; rcases hsp with ⟨hc1, rfl, hb4⟩ | ⟨hc1, hrk, rfl, hb4⟩ | ⟨hc1, hrk, A9, n9, c9, rfl, ho9, hb4⟩) | (refine wpList_put rfl 46 (.tmp 10) _ rfl W4.heap.size zmsg.toArray rfl rfl 46 zmsg HB10 sizeMsg rfl rfl ?_) | (refine wpList_put rfl 46 (.tmp 10) _ rfl W4.heap.size (({ m with rc := code % 16 } : Mg).cells A9 n9 c9).toArray rfl rfl 46 zmsg HB10 sizeMsg rfl rfl ?_))
  · have hc1' : ¬ code ≤ 4095 := by omega
    cases hrk : recOk s with
    | true =>
      have hrec := fun W => record_ W sz hi ve fl s hlen h0 h1 v0 v1 f0 f1
      unfold RecP at hrec
      have hz4 := hb4.size
      have g5 : W4.grownBy ((W4.alloc (.cells zmsg.toArray 46)).setRow W4.heap.size zmsg.toArray) (some W4.heap.size) := (World.grownBy_alloc W4 (.cells zmsg.toArray 46) (some W4.heap.size)).trans (grown_row _ _ _)
      have K6c := (K6b.below hb4).grown g5 (by simp; omega)
      have hbw5 := (hbw3.trans (hb4.mono (show B ≤ W3.heap.size by omega))).grown g5 (show B ≤ W4.heap.size by omega) (fun k hk => by have h2 : W4.heap.size = k := by { injection hk }; omega)
      have hz5 := g5.size
      show Code.wp _ _ _ _ ((W4.alloc (.cells zmsg.toArray 46)).setRow W4.heap.size zmsg.toArray)
      obtain ⟨W5, hW5⟩ : ∃ x, (W4.alloc (.cells zmsg.toArray 46)).setRow W4.heap.size zmsg.toArray = x := ⟨_, rfl⟩
      rw [hW5] at K6c hbw5 hz5 ⊢
      clear hW5 g5 HB10
      rw [hrk] at hrec
      simp only [if_true, optRec] at hrec
      have HREC := Lib.hid hrec
      clear hrec
      go_wp2_with (first | (refine wpList_get rfl 24 (.tmp 6) rfl (B + 1) rfl 24 (ednsCells sz hi ve fl s) _ K6c Try.underlying24 rfl sizeEdns ?_) | (go_at_call 7; refine (HREC.out _).mono ?_; rintro e W6 ⟨rfl, hb6⟩; have HB12 := Blk.new W6 31 zrec.toArray; have hz6 := hb6.size) | (refine wpList_put rfl 31 (.tmp 12) _ rfl W6.heap.size (recCells ⟨#[0]⟩ 41 sz (hi * 16777216 + ve * 65536 + fl) s ByteArray.empty ByteArray.empty 0 0 0 0 0).toArray rfl rfl 31 zrec HB12 sizeRec rfl rfl ?_; have hb8 := (hbw5.trans (hb6.mono (show B ≤ W5.heap.size by omega))).grown ((World.grownBy_alloc W6 (.cells zrec.toArray 31) (some W6.heap.size)).trans (grown_row _ W6.heap.size (recCells ⟨#[0]⟩ 41 sz (hi * 16777216 + ve * 65536 + fl) s ByteArray.empty ByteArray.empty 0 0 0 0 0).toArray)) (show B ≤ W6.heap.size by omega) (fun k hk => by have h2 : W6.heap.size = k := by { injection hk }; omega); have hz8 : B ≤ ((W6.alloc (.cells zrec.toArray 31)).setRow W6.heap.size (recCells ⟨#[0]⟩ 41 sz (hi * 16777216 + ve * 65536 + fl) s ByteArray.empty ByteArray.empty 0 0 0 0 0).toArray).heap.size := by { simp only [World.setRow, Array.size_modify, World.size_alloc]; omega }) | (go_at_call 11; refine (wakes _).mono ?_; rintro e w7 ⟨rfl, hb7⟩))
      go_ret
      exact ⟨rfl, by rw [hB]; exact hb8.trans (hb7.mono hz8)⟩
    | false =>
      have hrec := fun W => record_ W sz hi ve fl s hlen h0 h1 v0 v1 f0 f1
      unfold RecP at hrec
      have hz4 := hb4.size
      have g5 : W4.grownBy ((W4.alloc (.cells zmsg.toArray 46)).setRow W4.heap.size zmsg.toArray) (some W4.heap.size) := (World.grownBy_alloc W4 (.cells zmsg.toArray 46) (some W4.heap.size)).trans (grown_row _ _ _)
      have K6c := (K6b.below hb4).grown g5 (by simp; omega)
      have hbw5 := (hbw3.trans (hb4.mono (show B ≤ W3.heap.size by omega))).grown g5 (show B ≤ W4.heap.size by omega) (fun k hk => by have h2 : W4.heap.size = k := by { injection hk }; omega)
      have hz5 := g5.size
      show Code.wp _ _ _ _ ((W4.alloc (.cells zmsg.toArray 46)).setRow W4.heap.size zmsg.toArray)
      obtain ⟨W5, hW5⟩ : ∃ x, (W4.alloc (.cells zmsg.toArray 46)).setRow W4.heap.size zmsg.toArray = x := ⟨_, rfl⟩
      rw [hW5] at K6c hbw5 hz5 ⊢
      clear hW5 g5 HB10
      rw [hrk] at hrec
      simp only [if_false, Bool.false_eq_true, zeroRec] at hrec
      have HREC := Lib.hid hrec
      clear hrec
      go_wp2_with (first | (refine wpList_get rfl 24 (.tmp 6) rfl (B + 1) rfl 24 (ednsCells sz hi ve fl s) _ K6c Try.underlying24 rfl sizeEdns ?_) | (go_at_call 7; refine (HREC.out _).mono ?_; rintro e W6 ⟨rfl, hb6⟩; have HB12 := Blk.new W6 31 zrec.toArray; have hz6 := hb6.size) | (refine wpList_put rfl 31 (.tmp 12) _ rfl W6.heap.size zrec.toArray rfl rfl 31 zrec HB12 sizeRec rfl rfl ?_; have hb8 := (hbw5.trans (hb6.mono (show B ≤ W5.heap.size by omega))).grown ((World.grownBy_alloc W6 (.cells zrec.toArray 31) (some W6.heap.size)).trans (grown_row _ W6.heap.size zrec.toArray)) (show B ≤ W6.heap.size by omega) (fun k hk => by have h2 : W6.heap.size = k := by { injection hk }; omega); have hz8 : B ≤ ((W6.alloc (.cells zrec.toArray 31)).setRow W6.heap.size zrec.toArray).heap.size := by { simp only [World.setRow, Array.size_modify, World.size_alloc]; omega }) | (go_at_call 11; refine (wakes _).mono ?_; rintro e w7 ⟨rfl, hb7⟩))
      go_ret
      exact ⟨rfl, by rw [hB]; exact hb8.trans (hb7.mono hz8)⟩
  · have hc1' : ¬ 4095 < code := by omega
    have hrec := fun W => record_ W sz hi ve fl s hlen h0 h1 v0 v1 f0 f1
    unfold RecP at hrec
    have hz4 := hb4.size
    have g5 : W4.grownBy ((W4.alloc (.cells zmsg.toArray 46)).setRow W4.heap.size zmsg.toArray) (some W4.heap.size) := (World.grownBy_alloc W4 (.cells zmsg.toArray 46) (some W4.heap.size)).trans (grown_row _ _ _)
    have K6c := (K6b.below hb4).grown g5 (by simp; omega)
    have hbw5 := (hbw3.trans (hb4.mono (show B ≤ W3.heap.size by omega))).grown g5 (show B ≤ W4.heap.size by omega) (fun k hk => by have h2 : W4.heap.size = k := by { injection hk }; omega)
    have hz5 := g5.size
    show Code.wp _ _ _ _ ((W4.alloc (.cells zmsg.toArray 46)).setRow W4.heap.size zmsg.toArray)
    obtain ⟨W5, hW5⟩ : ∃ x, (W4.alloc (.cells zmsg.toArray 46)).setRow W4.heap.size zmsg.toArray = x := ⟨_, rfl⟩
    rw [hW5] at K6c hbw5 hz5 ⊢
    clear hW5 g5 HB10
    rw [hrk] at hrec
    simp only [if_false, Bool.false_eq_true, zeroRec] at hrec
    have HREC := Lib.hid hrec
    clear hrec
    go_wp2_with (first | (refine wpList_get rfl 24 (.tmp 6) rfl (B + 1) rfl 24 (ednsCells sz hi ve fl s) _ K6c Try.underlying24 rfl sizeEdns ?_) | (go_at_call 7; refine (HREC.out _).mono ?_; rintro e W6 ⟨rfl, hb6⟩; have HB12 := Blk.new W6 31 zrec.toArray; have hz6 := hb6.size) | (refine wpList_put rfl 31 (.tmp 12) _ rfl W6.heap.size zrec.toArray rfl rfl 31 zrec HB12 sizeRec rfl rfl ?_; have hb8 := (hbw5.trans (hb6.mono (show B ≤ W5.heap.size by omega))).grown ((World.grownBy_alloc W6 (.cells zrec.toArray 31) (some W6.heap.size)).trans (grown_row _ W6.heap.size zrec.toArray)) (show B ≤ W6.heap.size by omega) (fun k hk => by have h2 : W6.heap.size = k := by { injection hk }; omega); have hz8 : B ≤ ((W6.alloc (.cells zrec.toArray 31)).setRow W6.heap.size zrec.toArray).heap.size := by { simp only [World.setRow, Array.size_modify, World.size_alloc]; omega }) | (go_at_call 11; refine (wakes _).mono ?_; rintro e w7 ⟨rfl, hb7⟩))
    go_ret
    exact ⟨rfl, by rw [hB]; exact hb8.trans (hb7.mono hz8)⟩
  · have hn9 : n9 = (kept l).length + 1 := by
      have h9 := ho9.1
      rw [rcs_len] at h9
      simp only [List.length_append, List.length_cons, List.length_nil] at h9
      omega
    have hkn : (kept l).length ≤ n := by
      have h8 := List.length_filter_le (fun r => !isOpt r) l
      have h9 := Rd.recs hr
      unfold kept
      omega
    have HN9 := Lib.hid hn9
    have hn91 : n9 ≤ 1001 := by omega
    clear hn9 hkn
    have hz4 := hb4.size
    have hok9 : okOf s = true := by
      unfold recOk at hrk
      simp only [Bool.and_eq_true] at hrk
      exact hrk.1
    have g5 : W4.grownBy ((W4.alloc (.cells zmsg.toArray 46)).setRow W4.heap.size (({ m with rc := code % 16 } : Mg).cells A9 n9 c9).toArray) (some W4.heap.size) := (World.grownBy_alloc W4 (.cells zmsg.toArray 46) (some W4.heap.size)).trans (grown_row _ _ _)
    have K4c := (K4b.below hb4).grown g5 (by simp; omega)
    have K6c := (K6b.below hb4).grown g5 (by simp; omega)
    have K10 := HB10.row (({ m with rc := code % 16 } : Mg).cells A9 n9 c9).toArray
    have ho5 := own_oth ho9 g5 (fun k hk e => by have h1 := (ho9.lt k hk).2; have h2 : W4.heap.size = k := by { injection e }; omega)
    have hbw5 := (hbw3.trans (hb4.mono (show B ≤ W3.heap.size by omega))).grown g5 (show B ≤ W4.heap.size by omega) (fun k hk => by have h2 : W4.heap.size = k := by { injection hk }; omega)
    have hz5 : ((W4.alloc (.cells zmsg.toArray 46)).setRow W4.heap.size (({ m with rc := code % 16 } : Mg).cells A9 n9 c9).toArray).heap.size = W4.heap.size + 1 := by simp only [World.setRow, Array.size_modify, World.size_alloc]
    show Code.wp _ _ _ _ ((W4.alloc (.cells zmsg.toArray 46)).setRow W4.heap.size (({ m with rc := code % 16 } : Mg).cells A9 n9 c9).toArray)
    obtain ⟨W5, hW5⟩ : ∃ x, (W4.alloc (.cells zmsg.toArray 46)).setRow W4.heap.size (({ m with rc := code % 16 } : Mg).cells A9 n9 c9).toArray = x := ⟨_, rfl⟩
    rw [hW5] at K4c K6c K10 ho5 hbw5 hz5 ⊢
    clear hW5 g5 HB10
    have hr5 : Rd W5 12 A9 n9 c9 (rcs (kept l ++ [optRc code sz ve fl s])) := by obtain ⟨a', c', e', h'⟩ := own_rd ho5; cases e'; exact h'
    have HFIND := Lib.hid (find_back { m with rc := code % 16 } A9 n9 c9 l code sz ve fl s k0 (by omega) z0 z1 v0 v1 f0 f1 hlen hok9 W5 hr5 (by omega))
    have HZ5 := Lib.hid hz5
    clear hz5
    go_upto_region 11 with (first | (refine wpList_get rfl 46 (.tmp 10) rfl W4.heap.size rfl 46 (({ m with rc := code % 16 } : Mg).cells A9 n9 c9) _ K10 Try.underlying46 rfl sizeMsg ?_) | (go_at_call 14; refine HFIND.out.mono ?_; rintro e W6 ⟨rfl, hb6⟩; have HB14 := Blk.new W6 24 noneSays.toArray) | (refine wpList_put rfl 24 (.tmp 14) _ rfl W6.heap.size (ednsCells sz (code / 16) ve fl s).toArray rfl rfl 24 noneSays HB14 sizeEdns rfl rfl ?_))
    have hz6 := hb6.size
    have hz45 : W4.heap.size < W6.heap.size := by have := HZ5.out; omega
    have g7 : W6.grownBy ((W6.alloc (.cells noneSays.toArray 24)).setRow W6.heap.size (ednsCells sz (code / 16) ve fl s).toArray) (some W6.heap.size) := (World.grownBy_alloc W6 (.cells noneSays.toArray 24) (some W6.heap.size)).trans (grown_row _ _ _)
    have K4d := (K4c.below hb6).grown g7 (by simp; omega)
    have K6d := (K6c.below hb6).grown g7 (by simp; omega)
    have K10d := (K10.below hb6).grown g7 (by simp; omega)
    have K14 := HB14.row (ednsCells sz (code / 16) ve fl s).toArray
    have ho7 := own_oth (own_below ho5 hb6) g7 (fun k hk e => by have h1 := (ho5.lt k hk).2; have h2 : W6.heap.size = k := by { injection e }; omega)
    have hbw7 := (hbw5.trans (hb6.mono (show B ≤ W5.heap.size by have := HZ5.out; omega))).grown g7 (show B ≤ W6.heap.size by omega) (fun k hk => by have h2 : W6.heap.size = k := by { injection hk }; omega)
    have hz7 : ((W6.alloc (.cells noneSays.toArray 24)).setRow W6.heap.size (ednsCells sz (code / 16) ve fl s).toArray).heap.size = W6.heap.size + 1 := by simp only [World.setRow, Array.size_modify, World.size_alloc]
    show Code.wp _ _ _ _ ((W6.alloc (.cells noneSays.toArray 24)).setRow W6.heap.size (ednsCells sz (code / 16) ve fl s).toArray)
    obtain ⟨W7, hW7⟩ : ∃ x, (W6.alloc (.cells noneSays.toArray 24)).setRow W6.heap.size (ednsCells sz (code / 16) ve fl s).toArray = x := ⟨_, rfl⟩
    rw [hW7] at K4d K6d K10d K14 ho7 hbw7 hz7 ⊢
    clear hW7 g7 HB14 K4c K6c K10 ho5 hbw5 hr5 HFIND
    have HZ7 := Lib.hid hz7
    clear hz7
    have HB17 := Blk.new W7 24 noneSays.toArray
    go_upto_region 12 with (first | (refine wpList_get rfl 24 (.tmp 6) rfl (B + 1) rfl 24 (ednsCells sz hi ve fl s) _ K6d Try.underlying24 rfl sizeEdns ?_) | (refine wpList_put rfl 24 (.tmp 17) _ rfl W7.heap.size (ednsCells sz hi ve fl s).toArray rfl rfl 24 noneSays HB17 sizeEdns rfl rfl ?_))
    have g8 : W7.grownBy ((W7.alloc (.cells noneSays.toArray 24)).setRow W7.heap.size (ednsCells sz hi ve fl s).toArray) (some W7.heap.size) := (World.grownBy_alloc W7 (.cells noneSays.toArray 24) (some W7.heap.size)).trans (grown_row _ _ _)
    have hz67 : W6.heap.size < W7.heap.size := by have := HZ7.out; omega
    have K4e := K4d.grown g8 (by simp; omega)
    have K10e := K10d.grown g8 (by simp; omega)
    have K14e := K14.grown g8 (by simp; omega)
    have K17 := HB17.row (ednsCells sz hi ve fl s).toArray
    have ho8 := own_oth ho7 g8 (fun k hk e => by have h1 := (ho7.lt k hk).2; have h2 : W7.heap.size = k := by { injection e }; omega)
    have ho7lt := fun k hk => (ho7.lt k hk).2
    have hbw8 := hbw7.grown g8 (show B ≤ W7.heap.size by omega) (fun k hk => by have h2 : W7.heap.size = k := by { injection hk }; omega)
    have hz8 : ((W7.alloc (.cells noneSays.toArray 24)).setRow W7.heap.size (ednsCells sz hi ve fl s).toArray).heap.size = W7.heap.size + 1 := by simp only [World.setRow, Array.size_modify, World.size_alloc]
    show Code.wp _ _ _ _ ((W7.alloc (.cells noneSays.toArray 24)).setRow W7.heap.size (ednsCells sz hi ve fl s).toArray)
    obtain ⟨W8, hW8⟩ : ∃ x, (W7.alloc (.cells noneSays.toArray 24)).setRow W7.heap.size (ednsCells sz hi ve fl s).toArray = x := ⟨_, rfl⟩
    rw [hW8] at K4e K10e K14e K17 ho8 hbw8 hz8 ⊢
    clear hW8 g8 HB17 K4d K6d K10d K14 ho7 hbw7
    have HZ8 := Lib.hid hz8
    clear hz8
    have d171 := K17.cell 1 _ rfl
    have f171 := K17.free 1
    go_upto_region 13 with fail
    have gs := grown_set W8 ⟨W7.heap.size, 1, none⟩ (.int .u8 (code / 16))
    have hz78 : W8.heap.size = W7.heap.size + 1 := HZ8.out
    have K4f := K4e.grown gs (by simp; omega)
    have K10f := K10e.grown gs (by simp; omega)
    have K14f := K14e.grown gs (by simp; omega)
    have K17f : Blk (W8.setCell ⟨W7.heap.size, 1, none⟩ (.int .u8 (code / 16))) W7.heap.size 24 (ednsCells sz (code / 16) ve fl s) := K17.set 1 (.int .u8 (code / 16))
    have hob := fun k hk => (ho8.lt k hk).1
    have ho9' := own_oth ho8 gs (fun k hk e => by have h1 := (ho7lt k hk); have h2 : W7.heap.size = k := by { injection e }; omega)
    have hbw9 := hbw8.grown gs (by omega) (fun k hk => by have h2 : W7.heap.size = k := by { injection hk }; omega)
    obtain ⟨W9, hW9⟩ : ∃ x, (W8.setCell ⟨W7.heap.size, 1, none⟩ (.int .u8 (code / 16))) = x := ⟨_, rfl⟩
    rw [hW9] at K4f K10f K14f K17f ho9' hbw9 ⊢
    clear hW9 gs K4e K10e K14e K17 d171 f171 hz78
    have hr9 : Rd W9 12 A9 n9 c9 (rcs (kept l ++ [optRc code sz ve fl s])) := by obtain ⟨a', c', e', h'⟩ := own_rd ho9'; cases e'; exact h'
    have p0 := K14f.cell 0 _ rfl
    have p1 := K14f.cell 1 _ rfl
    have p2 := K14f.cell 2 _ rfl
    have p3 := K14f.cell 3 _ rfl
    have p4 := K14f.cell 4 _ rfl
    have q0 := K17f.cell 0 _ rfl
    have q1 := K17f.cell 1 _ rfl
    have q2 := K17f.cell 2 _ rfl
    have q3 := K17f.cell 3 _ rfl
    have q4 := K17f.cell 4 _ rfl
    have t0 := K10f.cell 0 _ rfl
    have t1 := K10f.cell 1 _ rfl
    have t2 := K10f.cell 2 _ rfl
    have t3 := K10f.cell 3 _ rfl
    have t4 := K10f.cell 4 _ rfl
    have t5 := K10f.cell 5 _ rfl
    have t6 := K10f.cell 6 _ rfl
    have t7 := K10f.cell 7 _ rfl
    have t8 := K10f.cell 8 _ rfl
    have t9 := K10f.cell 9 _ rfl
    have t10 := K10f.cell 10 _ rfl
    have t11 := K10f.cell 11 _ rfl
    have t12 := K10f.cell 12 _ rfl
    have hko : ∀ r ∈ kept l ++ [optRc code sz ve fl s], r.ok := fun r hr => by
      rcases List.mem_append.1 hr with h | h
      · exact hok r (List.mem_filter.1 h).1
      · obtain rfl := List.mem_singleton.1 h
        exact ⟨(by decide : (0 : Int) ≤ 41), (by decide : (41 : Int) < 65536), z0, z1, (by show 0 ≤ code / 16 * 16777216 + ve * 65536 + fl; omega), (by show code / 16 * 16777216 + ve * 65536 + fl < 4294967296; omega), hlen⟩
    have hcode := code_ W9 { m with rc := code % 16 } A9 n9 c9 _ hr9 (by omega) hko (by show 0 ≤ code % 16; omega) (by show code % 16 < 256; omega)
    rw [show codeV ({ m with rc := code % 16 } : Mg).rc (kept l ++ [optRc code sz ve fl s]) = code from back_code l code sz ve fl s k0 (by omega) v0 v1 f0 f1] at hcode
    have HCODE := Lib.hid hcode
    have HKO := Lib.hid hko
    clear hcode hko
    go_upto_region 15 with (go_at_call 16; refine HCODE.out.mono ?_; rintro e W10 ⟨rfl, hb10⟩)
    have t12a := (K4f.below hb10).cell 12 _ rfl
    have t12b := (K10f.below hb10).cell 12 _ rfl
    have hbw10 := hbw9.trans (hb10.mono (show B ≤ W9.heap.size by have h1 := hbw9.size; have h2 := hz2; have h3 := hb3.size; omega))
    have hr10 := hr9.below hb10
    have hrl : Rd W10 12 A n c (rcs l) := hr.below (by rw [hB]; exact hbw10)
    clear p0 p1 p2 p3 p4 q0 q1 q2 q3 q4 t0 t1 t2 t3 t4 t5 t6 t7 t8 t9 t10 t11 t12
    go_wp2
    go_loopw [18, 19] (fun u18 u19 W => ∃ k q : Nat, k ≤ n ∧ u19 = .int .i64 k ∧ u18 = .int .i64 ((kept (l.take k)).length : Nat) ∧ W = W10.drewN q) (fun _ u19 _ => n - (intOf u19).toNat)
    case atStart => exact ⟨0, 0, Nat.zero_le _, rfl, rfl, rfl⟩
    case round =>
      obtain ⟨k, q, hk, rfl, rfl, hW⟩ := hrel
      by_cases hlt : k < n
      · have hlt' : (k : Int) < (n : Int) := by omega
        obtain ⟨ad, rfl⟩ : ∃ a, A = some a := by
          cases A with
          | none => have := (hr.nil_ rfl).1; omega
          | some a => exact ⟨a, rfl⟩
        obtain ⟨r, hrk⟩ : ∃ r, l[k]? = some r := ⟨_, List.getElem?_eq_getElem (by have := Rd.recs hr; omega)⟩
        have hcs := Rd.rec (hrl.drewN q) k r hrk
        have x12 : wr.cell? ⟨B, 12, none⟩ = some (.slice (some ad) n c) := by rw [hW]; exact t12a
        rw [← hW] at hcs
        have hty : wr.cell? ⟨(ad.add (k * 12)).block, (ad.add (k * 12)).off + 1, none⟩ = some (.int .u16 r.ty) := cells_at hcs 0 _ rfl
        have HW := Lib.hid hW
        have hkt := kept_take l k r hrk
        have HKT := Lib.hid (And.intro hrk hkt)
        clear hW hkt hrk
        by_cases h41 : r.ty = 41
        · have hro : isOpt r = true := by unfold isOpt; simp [h41]
          go_wp2
          go_roundw
          case rel => exact ⟨k + 1, q, hlt, by go_num, by rw [HKT.out.2, hro, if_pos rfl, List.append_nil], HW.out⟩
          case measure => simp [intOf]; omega
        · have hro : isOpt r = false := by unfold isOpt; simp [h41]
          have hne : (r.ty == 41) = false := by simp [h41]
          obtain ⟨i, hi⟩ : ∃ i, (kept (l.take k)).length = i := ⟨_, rfl⟩
          have hka := kept_at HKT.out.1 hro
          rw [hi] at hka
          have hib : i < (kept l).length := (List.getElem?_eq_some_iff.1 hka).1
          have hib9 : i < n9 := by have := HN9.out; omega
          obtain ⟨ad9, rfl⟩ : ∃ a, A9 = some a := by
            cases A9 with
            | none => have := (hr9.nil_ rfl).1; omega
            | some a => exact ⟨a, rfl⟩
          have hcs2 := Rd.rec (hr10.drewN q) i r (by rw [List.getElem?_append_left hib]; exact hka)
          have y12 : wr.cell? ⟨W4.heap.size, 12, none⟩ = some (.slice (some ad9) n9 c9) := by rw [HW.out]; exact t12b
          rw [← HW.out] at hcs2
          have hd9 : decide ((n9 : Int) ≤ (i : Int)) = false := by simp; omega
          have hi9 : (i : Int) < (n9 : Int) := by omega
          have hi90 : (0 : Int) ≤ (i : Int) := by omega
          have hnn : i + 1 ≤ 1001 := by omega
          have heq := fun W => eqRec_neq r.nm r.ty r.cl r.ttl r.raw r.host r.mail r.n0 r.n1 r.n2 r.n3 r.n4 W
          have xc0 : wr.cell? (ad.add (k * 12)) = some (.string r.nm) := by have := hcs 0 _ rfl; rwa [Addr.add_zero'] at this
          have xc1 : wr.cell? ⟨(ad.add (k * 12)).block, (ad.add (k * 12)).off + 1, none⟩ = some (.int .u16 r.ty) := cells_at hcs 0 _ rfl
          have xc2 : wr.cell? ⟨(ad.add (k * 12)).block, (ad.add (k * 12)).off + 2, none⟩ = some (.int .u16 r.cl) := cells_at hcs 1 _ rfl
          have xc3 : wr.cell? ⟨(ad.add (k * 12)).block, (ad.add (k * 12)).off + 3, none⟩ = some (.int .u32 r.ttl) := cells_at hcs 2 _ rfl
          have xc4 : wr.cell? ⟨(ad.add (k * 12)).block, (ad.add (k * 12)).off + 4, none⟩ = some (.string r.raw) := cells_at hcs 3 _ rfl
          have xc5 : wr.cell? ⟨(ad.add (k * 12)).block, (ad.add (k * 12)).off + 5, none⟩ = some (.string r.host) := cells_at hcs 4 _ rfl
          have xc6 : wr.cell? ⟨(ad.add (k * 12)).block, (ad.add (k * 12)).off + 6, none⟩ = some (.string r.mail) := cells_at hcs 5 _ rfl
          have xc7 : wr.cell? ⟨(ad.add (k * 12)).block, (ad.add (k * 12)).off + 7, none⟩ = some (.int .u32 r.n0) := cells_at hcs 6 _ rfl
          have xc8 : wr.cell? ⟨(ad.add (k * 12)).block, (ad.add (k * 12)).off + 8, none⟩ = some (.int .u32 r.n1) := cells_at hcs 7 _ rfl
          have xc9 : wr.cell? ⟨(ad.add (k * 12)).block, (ad.add (k * 12)).off + 9, none⟩ = some (.int .u32 r.n2) := cells_at hcs 8 _ rfl
          have xc10 : wr.cell? ⟨(ad.add (k * 12)).block, (ad.add (k * 12)).off + 10, none⟩ = some (.int .u32 r.n3) := cells_at hcs 9 _ rfl
          have xc11 : wr.cell? ⟨(ad.add (k * 12)).block, (ad.add (k * 12)).off + 11, none⟩ = some (.int .u32 r.n4) := cells_at hcs 10 _ rfl
          have yc0 : wr.cell? (ad9.add (i * 12)) = some (.string r.nm) := by have := hcs2 0 _ rfl; rwa [Addr.add_zero'] at this
          have yc1 : wr.cell? ⟨(ad9.add (i * 12)).block, (ad9.add (i * 12)).off + 1, none⟩ = some (.int .u16 r.ty) := cells_at hcs2 0 _ rfl
          have yc2 : wr.cell? ⟨(ad9.add (i * 12)).block, (ad9.add (i * 12)).off + 2, none⟩ = some (.int .u16 r.cl) := cells_at hcs2 1 _ rfl
          have yc3 : wr.cell? ⟨(ad9.add (i * 12)).block, (ad9.add (i * 12)).off + 3, none⟩ = some (.int .u32 r.ttl) := cells_at hcs2 2 _ rfl
          have yc4 : wr.cell? ⟨(ad9.add (i * 12)).block, (ad9.add (i * 12)).off + 4, none⟩ = some (.string r.raw) := cells_at hcs2 3 _ rfl
          have yc5 : wr.cell? ⟨(ad9.add (i * 12)).block, (ad9.add (i * 12)).off + 5, none⟩ = some (.string r.host) := cells_at hcs2 4 _ rfl
          have yc6 : wr.cell? ⟨(ad9.add (i * 12)).block, (ad9.add (i * 12)).off + 6, none⟩ = some (.string r.mail) := cells_at hcs2 5 _ rfl
          have yc7 : wr.cell? ⟨(ad9.add (i * 12)).block, (ad9.add (i * 12)).off + 7, none⟩ = some (.int .u32 r.n0) := cells_at hcs2 6 _ rfl
          have yc8 : wr.cell? ⟨(ad9.add (i * 12)).block, (ad9.add (i * 12)).off + 8, none⟩ = some (.int .u32 r.n1) := cells_at hcs2 7 _ rfl
          have yc9 : wr.cell? ⟨(ad9.add (i * 12)).block, (ad9.add (i * 12)).off + 9, none⟩ = some (.int .u32 r.n2) := cells_at hcs2 8 _ rfl
          have yc10 : wr.cell? ⟨(ad9.add (i * 12)).block, (ad9.add (i * 12)).off + 10, none⟩ = some (.int .u32 r.n3) := cells_at hcs2 9 _ rfl
          have yc11 : wr.cell? ⟨(ad9.add (i * 12)).block, (ad9.add (i * 12)).off + 11, none⟩ = some (.int .u32 r.n4) := cells_at hcs2 10 _ rfl
          have HI := Lib.hid hi
          rw [hi]
          clear hi hka hib hcs hcs2 h41 hty
          go_wp2
          go_quiet (fail)
          go_wp2
          go_roundw
          case rel => exact ⟨k + 1, q + nq, hlt, by go_num, by rw [HKT.out.2, hro, if_neg (by decide), List.length_append, HI.out]; go_num, by rw [HW.out]; exact drewN_add' W10 q nq⟩
          case measure => simp [intOf]; omega
      · obtain rfl : k = n := by omega
        have hll := Rd.recs hr
        have htk : l.take k = l := List.take_of_length_le (by omega)
        rw [htk]
        obtain ⟨N, hN⟩ : ∃ N, (kept l).length = N := ⟨_, rfl⟩
        have hn9 := HN9.out
        rw [hN] at hn9 ⊢
        have he : ((N : Int) == ((n9 : Int) - 1)) = true := by simp; omega
        have y12 : wr.cell? ⟨W4.heap.size, 12, none⟩ = some (.slice A9 n9 c9) := by rw [hW]; exact t12b
        have x12 : wr.cell? ⟨B, 12, none⟩ = some (.slice A k c) := by rw [hW]; exact t12a
        have hbwr : Below B w wr := by rw [hW]; exact below_drewN hbw10 q
        have hbsz := hbwr.size
        clear hn9 hN htk hW hll
        go_wp2_with (go_at_call 11; refine (wakes _).mono ?_; rintro e w7 ⟨rfl, hb7⟩)
        go_ret
        exact ⟨rfl, by rw [hB]; exact hbwr.trans (hb7.mono (by omega))⟩
set_option maxRecDepth 100000 in
set_option maxHeartbeats 8000000 in
theorem ednsBack_small (w : World) (m : Mg) (A : Option Addr) (n c : Nat) (l : List Rc) (code sz hi ve fl : Int) (s : ByteArray) (most : Int) (hr : Rd w 12 A n c (rcs l)) (hn : n ≤ 1048576) (hok : ∀ r ∈ l, r.ok) (r0 : 0 ≤ m.rc) (r1 : m.rc < 256) (k0 : 0 ≤ code) (k1 : code < 65536) (z0 : 0 ≤ sz) (z1 : sz < 65536) (h0 : 0 ≤ hi) (h1 : hi < 256) (v0 : 0 ≤ ve) (v1 : ve < 256) (f0 : 0 ≤ fl) (f1 : fl < 65536) (hlen : s.size ≤ 1048576) (m0 : -9223372036854775808 ≤ most) (m1 : most ≤ 9223372036854775807) (h512 : ¬ 512 < limV true sz most) :
    Calls Try.prog 6 #[m.val A n c, .int .u16 code, ednsV sz hi ve fl s, .int .i64 most] w (Tells w (.bool true)) := by
  unfold Mg.val ednsV
  have K4 : Blk ((w.alloc (.cells #[.int .u16 m.id, .bool m.reply, .int .u8 m.op, .bool m.aa, .bool m.tc, .bool m.rd, .bool m.ra, .int .u8 m.z, .int .u8 m.rc, .slice m.qa m.qn m.qc, .slice m.aA m.an m.ac, .slice m.uA m.un m.uc, .slice A n c] 46)).alloc (.cells #[.int .u16 sz, .int .u8 hi, .int .u8 ve, .int .u16 fl, .string s] 24)) w.heap.size 46 (m.cells A n c) := (Blk.new w 46 #[.int .u16 m.id, .bool m.reply, .int .u8 m.op, .bool m.aa, .bool m.tc, .bool m.rd, .bool m.ra, .int .u8 m.z, .int .u8 m.rc, .slice m.qa m.qn m.qc, .slice m.aA m.an m.ac, .slice m.uA m.un m.uc, .slice A n c]).alloc _
  have K6 : Blk ((w.alloc (.cells #[.int .u16 m.id, .bool m.reply, .int .u8 m.op, .bool m.aa, .bool m.tc, .bool m.rd, .bool m.ra, .int .u8 m.z, .int .u8 m.rc, .slice m.qa m.qn m.qc, .slice m.aA m.an m.ac, .slice m.uA m.un m.uc, .slice A n c] 46)).alloc (.cells #[.int .u16 sz, .int .u8 hi, .int .u8 ve, .int .u16 fl, .string s] 24)) (w.heap.size + 1) 24 (ednsCells sz hi ve fl s) := by
    have h := Blk.new (w.alloc (.cells #[.int .u16 m.id, .bool m.reply, .int .u8 m.op, .bool m.aa, .bool m.tc, .bool m.rd, .bool m.ra, .int .u8 m.z, .int .u8 m.rc, .slice m.qa m.qn m.qc, .slice m.aA m.an m.ac, .slice m.uA m.un m.uc, .slice A n c] 46)) 24 #[.int .u16 sz, .int .u8 hi, .int .u8 ve, .int .u16 fl, .string s]
    rw [World.size_alloc] at h
    exact h
  have hb2 : Below w.heap.size w ((w.alloc (.cells #[.int .u16 m.id, .bool m.reply, .int .u8 m.op, .bool m.aa, .bool m.tc, .bool m.rd, .bool m.ra, .int .u8 m.z, .int .u8 m.rc, .slice m.qa m.qn m.qc, .slice m.aA m.an m.ac, .slice m.uA m.un m.uc, .slice A n c] 46)).alloc (.cells #[.int .u16 sz, .int .u8 hi, .int .u8 ve, .int .u16 fl, .string s] 24)) := below_alloc (below_new w _) _
  have hz2 : (((w.alloc (.cells #[.int .u16 m.id, .bool m.reply, .int .u8 m.op, .bool m.aa, .bool m.tc, .bool m.rd, .bool m.ra, .int .u8 m.z, .int .u8 m.rc, .slice m.qa m.qn m.qc, .slice m.aA m.an m.ac, .slice m.uA m.un m.uc, .slice A n c] 46)).alloc (.cells #[.int .u16 sz, .int .u8 hi, .int .u8 ve, .int .u16 fl, .string s] 24))).heap.size = w.heap.size + 2 := by rw [World.size_alloc, World.size_alloc]
  have hr2 := hr.below hb2
  go_enter Try.func6, Try.ntmps6
  obtain ⟨B, hB⟩ : ∃ B, w.heap.size = B := ⟨_, rfl⟩
  go_upto_region 1 with fail
  obtain ⟨W2, hW2⟩ : ∃ x, ((w.alloc (.cells #[.int .u16 m.id, .bool m.reply, .int .u8 m.op, .bool m.aa, .bool m.tc, .bool m.rd, .bool m.ra, .int .u8 m.z, .int .u8 m.rc, .slice m.qa m.qn m.qc, .slice m.aA m.an m.ac, .slice m.uA m.un m.uc, .slice A n c] 46)).alloc (.cells #[.int .u16 sz, .int .u8 hi, .int .u8 ve, .int .u16 fl, .string s] 24)) = x := ⟨_, rfl⟩
  rw [hW2] at K4 K6 hb2 hz2 hr2 ⊢
  rw [hB] at K4 K6 hz2 hb2
  clear hW2
  have d12 := K4.cell 12 _ rfl
  by_cases hbig : 1000 < n
  · have hbig' : (1000 : Int) < (n : Int) := by omega
    go_wp2_with (go_at_call 11; refine (wakes _).mono ?_; rintro e w7 ⟨rfl, hb7⟩)
    go_ret
    exact ⟨rfl, by rw [hB]; exact hb2.trans (hb7.mono (by omega))⟩
  have hbig' : ¬ (1000 : Int) < (n : Int) := by omega
  obtain ⟨hk1, hk2⟩ := lim_facts sz most
  have hlim := limit_ W2 true sz hi ve fl most s z0 z1
  obtain ⟨K, hK⟩ : ∃ K, limV true sz most = K := ⟨_, rfl⟩
  rw [hK] at hk1 hk2 hlim h512
  have HLIM := Lib.hid hlim
  clear hlim hK
  have hk1' : ¬ K < 512 := by omega
  clear hk2
  have hd5 : decide ((512 : Int) < K) = false := by simp; omega
  have hd6 : decide (K < 512) = false := by simp; omega
  clear hk1 hk1' h512
  go_upto_region 4 with (first | (refine wpList_get rfl 24 (.tmp 6) rfl (B + 1) rfl 24 (ednsCells sz hi ve fl s) _ K6 Try.underlying24 rfl sizeEdns ?_) | (go_at_call 9; refine HLIM.out.mono ?_; rintro e W3 ⟨rfl, hb3⟩; have hz3 := hb3.size; have K4b := K4.below hb3; have K6b := K6.below hb3; have d60 := K6b.cell 0 _ rfl))
  go_upto_region 6 with fail
  have hset := set_ W3 m A n c l (hr2.below hb3) (by omega) code sz hi ve fl s hlen k0 k1 h0 h1 v0 v1 f0 f1
  have HSET := Lib.hid hset
  have hbw3 := hb2.trans (hb3.mono (show B ≤ W2.heap.size by omega))
  clear hset K4 K6 d12 d60 hb2
  go_upto_region 7 with (first | (refine wpList_get rfl 24 (.tmp 6) rfl (B + 1) rfl 24 (ednsCells sz hi ve fl s) _ K6b Try.underlying24 rfl sizeEdns ?_) | (refine wpList_get rfl 46 (.tmp 4) rfl B rfl 46 (m.cells A n c) _ K4b Try.underlying46 rfl sizeMsg ?_) | (go_at_call 18; refine HSET.out.mono ?_; intro e W4 hsp; have HB10 := Blk.new W4 46 zmsg.toArray; rcases hsp with ⟨hc1, rfl, hb4⟩ | ⟨hc1, hrk, rfl, hb4⟩ | ⟨hc1, hrk, A9, n9, c9, rfl, ho9, hb4⟩) | (refine wpList_put rfl 46 (.tmp 10) _ rfl W4.heap.size zmsg.toArray rfl rfl 46 zmsg HB10 sizeMsg rfl rfl ?_) | (refine wpList_put rfl 46 (.tmp 10) _ rfl W4.heap.size (({ m with rc := code % 16 } : Mg).cells A9 n9 c9).toArray rfl rfl 46 zmsg HB10 sizeMsg rfl rfl ?_))
  · have hc1' : ¬ code ≤ 4095 := by omega
    cases hrk : recOk s with
    | true =>
      have hrec := fun W => record_ W sz hi ve fl s hlen h0 h1 v0 v1 f0 f1
      unfold RecP at hrec
      have hz4 := hb4.size
      have g5 : W4.grownBy ((W4.alloc (.cells zmsg.toArray 46)).setRow W4.heap.size zmsg.toArray) (some W4.heap.size) := (World.grownBy_alloc W4 (.cells zmsg.toArray 46) (some W4.heap.size)).trans (grown_row _ _ _)
      have K6c := (K6b.below hb4).grown g5 (by simp; omega)
      have hbw5 := (hbw3.trans (hb4.mono (show B ≤ W3.heap.size by omega))).grown g5 (show B ≤ W4.heap.size by omega) (fun k hk => by have h2 : W4.heap.size = k := by { injection hk }; omega)
      have hz5 := g5.size
      show Code.wp _ _ _ _ ((W4.alloc (.cells zmsg.toArray 46)).setRow W4.heap.size zmsg.toArray)
      obtain ⟨W5, hW5⟩ : ∃ x, (W4.alloc (.cells zmsg.toArray 46)).setRow W4.heap.size zmsg.toArray = x := ⟨_, rfl⟩
      rw [hW5] at K6c hbw5 hz5 ⊢
      clear hW5 g5 HB10
      rw [hrk] at hrec
      simp only [if_true, optRec] at hrec
      have HREC := Lib.hid hrec
      clear hrec
      go_wp2_with (first | (refine wpList_get rfl 24 (.tmp 6) rfl (B + 1) rfl 24 (ednsCells sz hi ve fl s) _ K6c Try.underlying24 rfl sizeEdns ?_) | (go_at_call 7; refine (HREC.out _).mono ?_; rintro e W6 ⟨rfl, hb6⟩; have HB12 := Blk.new W6 31 zrec.toArray; have hz6 := hb6.size) | (refine wpList_put rfl 31 (.tmp 12) _ rfl W6.heap.size (recCells ⟨#[0]⟩ 41 sz (hi * 16777216 + ve * 65536 + fl) s ByteArray.empty ByteArray.empty 0 0 0 0 0).toArray rfl rfl 31 zrec HB12 sizeRec rfl rfl ?_; have hb8 := (hbw5.trans (hb6.mono (show B ≤ W5.heap.size by omega))).grown ((World.grownBy_alloc W6 (.cells zrec.toArray 31) (some W6.heap.size)).trans (grown_row _ W6.heap.size (recCells ⟨#[0]⟩ 41 sz (hi * 16777216 + ve * 65536 + fl) s ByteArray.empty ByteArray.empty 0 0 0 0 0).toArray)) (show B ≤ W6.heap.size by omega) (fun k hk => by have h2 : W6.heap.size = k := by { injection hk }; omega); have hz8 : B ≤ ((W6.alloc (.cells zrec.toArray 31)).setRow W6.heap.size (recCells ⟨#[0]⟩ 41 sz (hi * 16777216 + ve * 65536 + fl) s ByteArray.empty ByteArray.empty 0 0 0 0 0).toArray).heap.size := by { simp only [World.setRow, Array.size_modify, World.size_alloc]; omega }) | (go_at_call 11; refine (wakes _).mono ?_; rintro e w7 ⟨rfl, hb7⟩))
      go_ret
      exact ⟨rfl, by rw [hB]; exact hb8.trans (hb7.mono hz8)⟩
    | false =>
      have hrec := fun W => record_ W sz hi ve fl s hlen h0 h1 v0 v1 f0 f1
      unfold RecP at hrec
      have hz4 := hb4.size
      have g5 : W4.grownBy ((W4.alloc (.cells zmsg.toArray 46)).setRow W4.heap.size zmsg.toArray) (some W4.heap.size) := (World.grownBy_alloc W4 (.cells zmsg.toArray 46) (some W4.heap.size)).trans (grown_row _ _ _)
      have K6c := (K6b.below hb4).grown g5 (by simp; omega)
      have hbw5 := (hbw3.trans (hb4.mono (show B ≤ W3.heap.size by omega))).grown g5 (show B ≤ W4.heap.size by omega) (fun k hk => by have h2 : W4.heap.size = k := by { injection hk }; omega)
      have hz5 := g5.size
      show Code.wp _ _ _ _ ((W4.alloc (.cells zmsg.toArray 46)).setRow W4.heap.size zmsg.toArray)
      obtain ⟨W5, hW5⟩ : ∃ x, (W4.alloc (.cells zmsg.toArray 46)).setRow W4.heap.size zmsg.toArray = x := ⟨_, rfl⟩
      rw [hW5] at K6c hbw5 hz5 ⊢
      clear hW5 g5 HB10
      rw [hrk] at hrec
      simp only [if_false, Bool.false_eq_true, zeroRec] at hrec
      have HREC := Lib.hid hrec
      clear hrec
      go_wp2_with (first | (refine wpList_get rfl 24 (.tmp 6) rfl (B + 1) rfl 24 (ednsCells sz hi ve fl s) _ K6c Try.underlying24 rfl sizeEdns ?_) | (go_at_call 7; refine (HREC.out _).mono ?_; rintro e W6 ⟨rfl, hb6⟩; have HB12 := Blk.new W6 31 zrec.toArray; have hz6 := hb6.size) | (refine wpList_put rfl 31 (.tmp 12) _ rfl W6.heap.size zrec.toArray rfl rfl 31 zrec HB12 sizeRec rfl rfl ?_; have hb8 := (hbw5.trans (hb6.mono (show B ≤ W5.heap.size by omega))).grown ((World.grownBy_alloc W6 (.cells zrec.toArray 31) (some W6.heap.size)).trans (grown_row _ W6.heap.size zrec.toArray)) (show B ≤ W6.heap.size by omega) (fun k hk => by have h2 : W6.heap.size = k := by { injection hk }; omega); have hz8 : B ≤ ((W6.alloc (.cells zrec.toArray 31)).setRow W6.heap.size zrec.toArray).heap.size := by { simp only [World.setRow, Array.size_modify, World.size_alloc]; omega }) | (go_at_call 11; refine (wakes _).mono ?_; rintro e w7 ⟨rfl, hb7⟩))
      go_ret
      exact ⟨rfl, by rw [hB]; exact hb8.trans (hb7.mono hz8)⟩
  · have hc1' : ¬ 4095 < code := by omega
    have hrec := fun W => record_ W sz hi ve fl s hlen h0 h1 v0 v1 f0 f1
    unfold RecP at hrec
    have hz4 := hb4.size
    have g5 : W4.grownBy ((W4.alloc (.cells zmsg.toArray 46)).setRow W4.heap.size zmsg.toArray) (some W4.heap.size) := (World.grownBy_alloc W4 (.cells zmsg.toArray 46) (some W4.heap.size)).trans (grown_row _ _ _)
    have K6c := (K6b.below hb4).grown g5 (by simp; omega)
    have hbw5 := (hbw3.trans (hb4.mono (show B ≤ W3.heap.size by omega))).grown g5 (show B ≤ W4.heap.size by omega) (fun k hk => by have h2 : W4.heap.size = k := by { injection hk }; omega)
    have hz5 := g5.size
    show Code.wp _ _ _ _ ((W4.alloc (.cells zmsg.toArray 46)).setRow W4.heap.size zmsg.toArray)
    obtain ⟨W5, hW5⟩ : ∃ x, (W4.alloc (.cells zmsg.toArray 46)).setRow W4.heap.size zmsg.toArray = x := ⟨_, rfl⟩
    rw [hW5] at K6c hbw5 hz5 ⊢
    clear hW5 g5 HB10
    rw [hrk] at hrec
    simp only [if_false, Bool.false_eq_true, zeroRec] at hrec
    have HREC := Lib.hid hrec
    clear hrec
    go_wp2_with (first | (refine wpList_get rfl 24 (.tmp 6) rfl (B + 1) rfl 24 (ednsCells sz hi ve fl s) _ K6c Try.underlying24 rfl sizeEdns ?_) | (go_at_call 7; refine (HREC.out _).mono ?_; rintro e W6 ⟨rfl, hb6⟩; have HB12 := Blk.new W6 31 zrec.toArray; have hz6 := hb6.size) | (refine wpList_put rfl 31 (.tmp 12) _ rfl W6.heap.size zrec.toArray rfl rfl 31 zrec HB12 sizeRec rfl rfl ?_; have hb8 := (hbw5.trans (hb6.mono (show B ≤ W5.heap.size by omega))).grown ((World.grownBy_alloc W6 (.cells zrec.toArray 31) (some W6.heap.size)).trans (grown_row _ W6.heap.size zrec.toArray)) (show B ≤ W6.heap.size by omega) (fun k hk => by have h2 : W6.heap.size = k := by { injection hk }; omega); have hz8 : B ≤ ((W6.alloc (.cells zrec.toArray 31)).setRow W6.heap.size zrec.toArray).heap.size := by { simp only [World.setRow, Array.size_modify, World.size_alloc]; omega }) | (go_at_call 11; refine (wakes _).mono ?_; rintro e w7 ⟨rfl, hb7⟩))
    go_ret
    exact ⟨rfl, by rw [hB]; exact hb8.trans (hb7.mono hz8)⟩
  · have hn9 : n9 = (kept l).length + 1 := by
      have h9 := ho9.1
      rw [rcs_len] at h9
      simp only [List.length_append, List.length_cons, List.length_nil] at h9
      omega
    have hkn : (kept l).length ≤ n := by
      have h8 := List.length_filter_le (fun r => !isOpt r) l
      have h9 := Rd.recs hr
      unfold kept
      omega
    have HN9 := Lib.hid hn9
    have hn91 : n9 ≤ 1001 := by omega
    clear hn9 hkn
    have hz4 := hb4.size
    have hok9 : okOf s = true := by
      unfold recOk at hrk
      simp only [Bool.and_eq_true] at hrk
      exact hrk.1
    have g5 : W4.grownBy ((W4.alloc (.cells zmsg.toArray 46)).setRow W4.heap.size (({ m with rc := code % 16 } : Mg).cells A9 n9 c9).toArray) (some W4.heap.size) := (World.grownBy_alloc W4 (.cells zmsg.toArray 46) (some W4.heap.size)).trans (grown_row _ _ _)
    have K4c := (K4b.below hb4).grown g5 (by simp; omega)
    have K6c := (K6b.below hb4).grown g5 (by simp; omega)
    have K10 := HB10.row (({ m with rc := code % 16 } : Mg).cells A9 n9 c9).toArray
    have ho5 := own_oth ho9 g5 (fun k hk e => by have h1 := (ho9.lt k hk).2; have h2 : W4.heap.size = k := by { injection e }; omega)
    have hbw5 := (hbw3.trans (hb4.mono (show B ≤ W3.heap.size by omega))).grown g5 (show B ≤ W4.heap.size by omega) (fun k hk => by have h2 : W4.heap.size = k := by { injection hk }; omega)
    have hz5 : ((W4.alloc (.cells zmsg.toArray 46)).setRow W4.heap.size (({ m with rc := code % 16 } : Mg).cells A9 n9 c9).toArray).heap.size = W4.heap.size + 1 := by simp only [World.setRow, Array.size_modify, World.size_alloc]
    show Code.wp _ _ _ _ ((W4.alloc (.cells zmsg.toArray 46)).setRow W4.heap.size (({ m with rc := code % 16 } : Mg).cells A9 n9 c9).toArray)
    obtain ⟨W5, hW5⟩ : ∃ x, (W4.alloc (.cells zmsg.toArray 46)).setRow W4.heap.size (({ m with rc := code % 16 } : Mg).cells A9 n9 c9).toArray = x := ⟨_, rfl⟩
    rw [hW5] at K4c K6c K10 ho5 hbw5 hz5 ⊢
    clear hW5 g5 HB10
    have hr5 : Rd W5 12 A9 n9 c9 (rcs (kept l ++ [optRc code sz ve fl s])) := by obtain ⟨a', c', e', h'⟩ := own_rd ho5; cases e'; exact h'
    have HFIND := Lib.hid (find_back { m with rc := code % 16 } A9 n9 c9 l code sz ve fl s k0 (by omega) z0 z1 v0 v1 f0 f1 hlen hok9 W5 hr5 (by omega))
    have HZ5 := Lib.hid hz5
    clear hz5
    go_upto_region 11 with (first | (refine wpList_get rfl 46 (.tmp 10) rfl W4.heap.size rfl 46 (({ m with rc := code % 16 } : Mg).cells A9 n9 c9) _ K10 Try.underlying46 rfl sizeMsg ?_) | (go_at_call 14; refine HFIND.out.mono ?_; rintro e W6 ⟨rfl, hb6⟩; have HB14 := Blk.new W6 24 noneSays.toArray) | (refine wpList_put rfl 24 (.tmp 14) _ rfl W6.heap.size (ednsCells sz (code / 16) ve fl s).toArray rfl rfl 24 noneSays HB14 sizeEdns rfl rfl ?_))
    have hz6 := hb6.size
    have hz45 : W4.heap.size < W6.heap.size := by have := HZ5.out; omega
    have g7 : W6.grownBy ((W6.alloc (.cells noneSays.toArray 24)).setRow W6.heap.size (ednsCells sz (code / 16) ve fl s).toArray) (some W6.heap.size) := (World.grownBy_alloc W6 (.cells noneSays.toArray 24) (some W6.heap.size)).trans (grown_row _ _ _)
    have K4d := (K4c.below hb6).grown g7 (by simp; omega)
    have K6d := (K6c.below hb6).grown g7 (by simp; omega)
    have K10d := (K10.below hb6).grown g7 (by simp; omega)
    have K14 := HB14.row (ednsCells sz (code / 16) ve fl s).toArray
    have ho7 := own_oth (own_below ho5 hb6) g7 (fun k hk e => by have h1 := (ho5.lt k hk).2; have h2 : W6.heap.size = k := by { injection e }; omega)
    have hbw7 := (hbw5.trans (hb6.mono (show B ≤ W5.heap.size by have := HZ5.out; omega))).grown g7 (show B ≤ W6.heap.size by omega) (fun k hk => by have h2 : W6.heap.size = k := by { injection hk }; omega)
    have hz7 : ((W6.alloc (.cells noneSays.toArray 24)).setRow W6.heap.size (ednsCells sz (code / 16) ve fl s).toArray).heap.size = W6.heap.size + 1 := by simp only [World.setRow, Array.size_modify, World.size_alloc]
    show Code.wp _ _ _ _ ((W6.alloc (.cells noneSays.toArray 24)).setRow W6.heap.size (ednsCells sz (code / 16) ve fl s).toArray)
    obtain ⟨W7, hW7⟩ : ∃ x, (W6.alloc (.cells noneSays.toArray 24)).setRow W6.heap.size (ednsCells sz (code / 16) ve fl s).toArray = x := ⟨_, rfl⟩
    rw [hW7] at K4d K6d K10d K14 ho7 hbw7 hz7 ⊢
    clear hW7 g7 HB14 K4c K6c K10 ho5 hbw5 hr5 HFIND
    have HZ7 := Lib.hid hz7
    clear hz7
    have HB17 := Blk.new W7 24 noneSays.toArray
    go_upto_region 12 with (first | (refine wpList_get rfl 24 (.tmp 6) rfl (B + 1) rfl 24 (ednsCells sz hi ve fl s) _ K6d Try.underlying24 rfl sizeEdns ?_) | (refine wpList_put rfl 24 (.tmp 17) _ rfl W7.heap.size (ednsCells sz hi ve fl s).toArray rfl rfl 24 noneSays HB17 sizeEdns rfl rfl ?_))
    have g8 : W7.grownBy ((W7.alloc (.cells noneSays.toArray 24)).setRow W7.heap.size (ednsCells sz hi ve fl s).toArray) (some W7.heap.size) := (World.grownBy_alloc W7 (.cells noneSays.toArray 24) (some W7.heap.size)).trans (grown_row _ _ _)
    have hz67 : W6.heap.size < W7.heap.size := by have := HZ7.out; omega
    have K4e := K4d.grown g8 (by simp; omega)
    have K10e := K10d.grown g8 (by simp; omega)
    have K14e := K14.grown g8 (by simp; omega)
    have K17 := HB17.row (ednsCells sz hi ve fl s).toArray
    have ho8 := own_oth ho7 g8 (fun k hk e => by have h1 := (ho7.lt k hk).2; have h2 : W7.heap.size = k := by { injection e }; omega)
    have ho7lt := fun k hk => (ho7.lt k hk).2
    have hbw8 := hbw7.grown g8 (show B ≤ W7.heap.size by omega) (fun k hk => by have h2 : W7.heap.size = k := by { injection hk }; omega)
    have hz8 : ((W7.alloc (.cells noneSays.toArray 24)).setRow W7.heap.size (ednsCells sz hi ve fl s).toArray).heap.size = W7.heap.size + 1 := by simp only [World.setRow, Array.size_modify, World.size_alloc]
    show Code.wp _ _ _ _ ((W7.alloc (.cells noneSays.toArray 24)).setRow W7.heap.size (ednsCells sz hi ve fl s).toArray)
    obtain ⟨W8, hW8⟩ : ∃ x, (W7.alloc (.cells noneSays.toArray 24)).setRow W7.heap.size (ednsCells sz hi ve fl s).toArray = x := ⟨_, rfl⟩
    rw [hW8] at K4e K10e K14e K17 ho8 hbw8 hz8 ⊢
    clear hW8 g8 HB17 K4d K6d K10d K14 ho7 hbw7
    have HZ8 := Lib.hid hz8
    clear hz8
    have d171 := K17.cell 1 _ rfl
    have f171 := K17.free 1
    go_upto_region 13 with fail
    have gs := grown_set W8 ⟨W7.heap.size, 1, none⟩ (.int .u8 (code / 16))
    have hz78 : W8.heap.size = W7.heap.size + 1 := HZ8.out
    have K4f := K4e.grown gs (by simp; omega)
    have K10f := K10e.grown gs (by simp; omega)
    have K14f := K14e.grown gs (by simp; omega)
    have K17f : Blk (W8.setCell ⟨W7.heap.size, 1, none⟩ (.int .u8 (code / 16))) W7.heap.size 24 (ednsCells sz (code / 16) ve fl s) := K17.set 1 (.int .u8 (code / 16))
    have hob := fun k hk => (ho8.lt k hk).1
    have ho9' := own_oth ho8 gs (fun k hk e => by have h1 := (ho7lt k hk); have h2 : W7.heap.size = k := by { injection e }; omega)
    have hbw9 := hbw8.grown gs (by omega) (fun k hk => by have h2 : W7.heap.size = k := by { injection hk }; omega)
    obtain ⟨W9, hW9⟩ : ∃ x, (W8.setCell ⟨W7.heap.size, 1, none⟩ (.int .u8 (code / 16))) = x := ⟨_, rfl⟩
    rw [hW9] at K4f K10f K14f K17f ho9' hbw9 ⊢
    clear hW9 gs K4e K10e K14e K17 d171 f171 hz78
    have hr9 : Rd W9 12 A9 n9 c9 (rcs (kept l ++ [optRc code sz ve fl s])) := by obtain ⟨a', c', e', h'⟩ := own_rd ho9'; cases e'; exact h'
    have p0 := K14f.cell 0 _ rfl
    have p1 := K14f.cell 1 _ rfl
    have p2 := K14f.cell 2 _ rfl
    have p3 := K14f.cell 3 _ rfl
    have p4 := K14f.cell 4 _ rfl
    have q0 := K17f.cell 0 _ rfl
    have q1 := K17f.cell 1 _ rfl
    have q2 := K17f.cell 2 _ rfl
    have q3 := K17f.cell 3 _ rfl
    have q4 := K17f.cell 4 _ rfl
    have t0 := K10f.cell 0 _ rfl
    have t1 := K10f.cell 1 _ rfl
    have t2 := K10f.cell 2 _ rfl
    have t3 := K10f.cell 3 _ rfl
    have t4 := K10f.cell 4 _ rfl
    have t5 := K10f.cell 5 _ rfl
    have t6 := K10f.cell 6 _ rfl
    have t7 := K10f.cell 7 _ rfl
    have t8 := K10f.cell 8 _ rfl
    have t9 := K10f.cell 9 _ rfl
    have t10 := K10f.cell 10 _ rfl
    have t11 := K10f.cell 11 _ rfl
    have t12 := K10f.cell 12 _ rfl
    have hko : ∀ r ∈ kept l ++ [optRc code sz ve fl s], r.ok := fun r hr => by
      rcases List.mem_append.1 hr with h | h
      · exact hok r (List.mem_filter.1 h).1
      · obtain rfl := List.mem_singleton.1 h
        exact ⟨(by decide : (0 : Int) ≤ 41), (by decide : (41 : Int) < 65536), z0, z1, (by show 0 ≤ code / 16 * 16777216 + ve * 65536 + fl; omega), (by show code / 16 * 16777216 + ve * 65536 + fl < 4294967296; omega), hlen⟩
    have hcode := code_ W9 { m with rc := code % 16 } A9 n9 c9 _ hr9 (by omega) hko (by show 0 ≤ code % 16; omega) (by show code % 16 < 256; omega)
    rw [show codeV ({ m with rc := code % 16 } : Mg).rc (kept l ++ [optRc code sz ve fl s]) = code from back_code l code sz ve fl s k0 (by omega) v0 v1 f0 f1] at hcode
    have HCODE := Lib.hid hcode
    have HKO := Lib.hid hko
    clear hcode hko
    go_upto_region 15 with (go_at_call 16; refine HCODE.out.mono ?_; rintro e W10 ⟨rfl, hb10⟩)
    have t12a := (K4f.below hb10).cell 12 _ rfl
    have t12b := (K10f.below hb10).cell 12 _ rfl
    have hbw10 := hbw9.trans (hb10.mono (show B ≤ W9.heap.size by have h1 := hbw9.size; have h2 := hz2; have h3 := hb3.size; omega))
    have hr10 := hr9.below hb10
    have hrl : Rd W10 12 A n c (rcs l) := hr.below (by rw [hB]; exact hbw10)
    clear p0 p1 p2 p3 p4 q0 q1 q2 q3 q4 t0 t1 t2 t3 t4 t5 t6 t7 t8 t9 t10 t11 t12
    go_wp2
    go_loopw [18, 19] (fun u18 u19 W => ∃ k q : Nat, k ≤ n ∧ u19 = .int .i64 k ∧ u18 = .int .i64 ((kept (l.take k)).length : Nat) ∧ W = W10.drewN q) (fun _ u19 _ => n - (intOf u19).toNat)
    case atStart => exact ⟨0, 0, Nat.zero_le _, rfl, rfl, rfl⟩
    case round =>
      obtain ⟨k, q, hk, rfl, rfl, hW⟩ := hrel
      by_cases hlt : k < n
      · have hlt' : (k : Int) < (n : Int) := by omega
        obtain ⟨ad, rfl⟩ : ∃ a, A = some a := by
          cases A with
          | none => have := (hr.nil_ rfl).1; omega
          | some a => exact ⟨a, rfl⟩
        obtain ⟨r, hrk⟩ : ∃ r, l[k]? = some r := ⟨_, List.getElem?_eq_getElem (by have := Rd.recs hr; omega)⟩
        have hcs := Rd.rec (hrl.drewN q) k r hrk
        have x12 : wr.cell? ⟨B, 12, none⟩ = some (.slice (some ad) n c) := by rw [hW]; exact t12a
        rw [← hW] at hcs
        have hty : wr.cell? ⟨(ad.add (k * 12)).block, (ad.add (k * 12)).off + 1, none⟩ = some (.int .u16 r.ty) := cells_at hcs 0 _ rfl
        have HW := Lib.hid hW
        have hkt := kept_take l k r hrk
        have HKT := Lib.hid (And.intro hrk hkt)
        clear hW hkt hrk
        by_cases h41 : r.ty = 41
        · have hro : isOpt r = true := by unfold isOpt; simp [h41]
          go_wp2
          go_roundw
          case rel => exact ⟨k + 1, q, hlt, by go_num, by rw [HKT.out.2, hro, if_pos rfl, List.append_nil], HW.out⟩
          case measure => simp [intOf]; omega
        · have hro : isOpt r = false := by unfold isOpt; simp [h41]
          have hne : (r.ty == 41) = false := by simp [h41]
          obtain ⟨i, hi⟩ : ∃ i, (kept (l.take k)).length = i := ⟨_, rfl⟩
          have hka := kept_at HKT.out.1 hro
          rw [hi] at hka
          have hib : i < (kept l).length := (List.getElem?_eq_some_iff.1 hka).1
          have hib9 : i < n9 := by have := HN9.out; omega
          obtain ⟨ad9, rfl⟩ : ∃ a, A9 = some a := by
            cases A9 with
            | none => have := (hr9.nil_ rfl).1; omega
            | some a => exact ⟨a, rfl⟩
          have hcs2 := Rd.rec (hr10.drewN q) i r (by rw [List.getElem?_append_left hib]; exact hka)
          have y12 : wr.cell? ⟨W4.heap.size, 12, none⟩ = some (.slice (some ad9) n9 c9) := by rw [HW.out]; exact t12b
          rw [← HW.out] at hcs2
          have hd9 : decide ((n9 : Int) ≤ (i : Int)) = false := by simp; omega
          have hi9 : (i : Int) < (n9 : Int) := by omega
          have hi90 : (0 : Int) ≤ (i : Int) := by omega
          have hnn : i + 1 ≤ 1001 := by omega
          have heq := fun W => eqRec_neq r.nm r.ty r.cl r.ttl r.raw r.host r.mail r.n0 r.n1 r.n2 r.n3 r.n4 W
          have xc0 : wr.cell? (ad.add (k * 12)) = some (.string r.nm) := by have := hcs 0 _ rfl; rwa [Addr.add_zero'] at this
          have xc1 : wr.cell? ⟨(ad.add (k * 12)).block, (ad.add (k * 12)).off + 1, none⟩ = some (.int .u16 r.ty) := cells_at hcs 0 _ rfl
          have xc2 : wr.cell? ⟨(ad.add (k * 12)).block, (ad.add (k * 12)).off + 2, none⟩ = some (.int .u16 r.cl) := cells_at hcs 1 _ rfl
          have xc3 : wr.cell? ⟨(ad.add (k * 12)).block, (ad.add (k * 12)).off + 3, none⟩ = some (.int .u32 r.ttl) := cells_at hcs 2 _ rfl
          have xc4 : wr.cell? ⟨(ad.add (k * 12)).block, (ad.add (k * 12)).off + 4, none⟩ = some (.string r.raw) := cells_at hcs 3 _ rfl
          have xc5 : wr.cell? ⟨(ad.add (k * 12)).block, (ad.add (k * 12)).off + 5, none⟩ = some (.string r.host) := cells_at hcs 4 _ rfl
          have xc6 : wr.cell? ⟨(ad.add (k * 12)).block, (ad.add (k * 12)).off + 6, none⟩ = some (.string r.mail) := cells_at hcs 5 _ rfl
          have xc7 : wr.cell? ⟨(ad.add (k * 12)).block, (ad.add (k * 12)).off + 7, none⟩ = some (.int .u32 r.n0) := cells_at hcs 6 _ rfl
          have xc8 : wr.cell? ⟨(ad.add (k * 12)).block, (ad.add (k * 12)).off + 8, none⟩ = some (.int .u32 r.n1) := cells_at hcs 7 _ rfl
          have xc9 : wr.cell? ⟨(ad.add (k * 12)).block, (ad.add (k * 12)).off + 9, none⟩ = some (.int .u32 r.n2) := cells_at hcs 8 _ rfl
          have xc10 : wr.cell? ⟨(ad.add (k * 12)).block, (ad.add (k * 12)).off + 10, none⟩ = some (.int .u32 r.n3) := cells_at hcs 9 _ rfl
          have xc11 : wr.cell? ⟨(ad.add (k * 12)).block, (ad.add (k * 12)).off + 11, none⟩ = some (.int .u32 r.n4) := cells_at hcs 10 _ rfl
          have yc0 : wr.cell? (ad9.add (i * 12)) = some (.string r.nm) := by have := hcs2 0 _ rfl; rwa [Addr.add_zero'] at this
          have yc1 : wr.cell? ⟨(ad9.add (i * 12)).block, (ad9.add (i * 12)).off + 1, none⟩ = some (.int .u16 r.ty) := cells_at hcs2 0 _ rfl
          have yc2 : wr.cell? ⟨(ad9.add (i * 12)).block, (ad9.add (i * 12)).off + 2, none⟩ = some (.int .u16 r.cl) := cells_at hcs2 1 _ rfl
          have yc3 : wr.cell? ⟨(ad9.add (i * 12)).block, (ad9.add (i * 12)).off + 3, none⟩ = some (.int .u32 r.ttl) := cells_at hcs2 2 _ rfl
          have yc4 : wr.cell? ⟨(ad9.add (i * 12)).block, (ad9.add (i * 12)).off + 4, none⟩ = some (.string r.raw) := cells_at hcs2 3 _ rfl
          have yc5 : wr.cell? ⟨(ad9.add (i * 12)).block, (ad9.add (i * 12)).off + 5, none⟩ = some (.string r.host) := cells_at hcs2 4 _ rfl
          have yc6 : wr.cell? ⟨(ad9.add (i * 12)).block, (ad9.add (i * 12)).off + 6, none⟩ = some (.string r.mail) := cells_at hcs2 5 _ rfl
          have yc7 : wr.cell? ⟨(ad9.add (i * 12)).block, (ad9.add (i * 12)).off + 7, none⟩ = some (.int .u32 r.n0) := cells_at hcs2 6 _ rfl
          have yc8 : wr.cell? ⟨(ad9.add (i * 12)).block, (ad9.add (i * 12)).off + 8, none⟩ = some (.int .u32 r.n1) := cells_at hcs2 7 _ rfl
          have yc9 : wr.cell? ⟨(ad9.add (i * 12)).block, (ad9.add (i * 12)).off + 9, none⟩ = some (.int .u32 r.n2) := cells_at hcs2 8 _ rfl
          have yc10 : wr.cell? ⟨(ad9.add (i * 12)).block, (ad9.add (i * 12)).off + 10, none⟩ = some (.int .u32 r.n3) := cells_at hcs2 9 _ rfl
          have yc11 : wr.cell? ⟨(ad9.add (i * 12)).block, (ad9.add (i * 12)).off + 11, none⟩ = some (.int .u32 r.n4) := cells_at hcs2 10 _ rfl
          have HI := Lib.hid hi
          rw [hi]
          clear hi hka hib hcs hcs2 h41 hty
          go_wp2
          go_quiet (fail)
          go_wp2
          go_roundw
          case rel => exact ⟨k + 1, q + nq, hlt, by go_num, by rw [HKT.out.2, hro, if_neg (by decide), List.length_append, HI.out]; go_num, by rw [HW.out]; exact drewN_add' W10 q nq⟩
          case measure => simp [intOf]; omega
      · obtain rfl : k = n := by omega
        have hll := Rd.recs hr
        have htk : l.take k = l := List.take_of_length_le (by omega)
        rw [htk]
        obtain ⟨N, hN⟩ : ∃ N, (kept l).length = N := ⟨_, rfl⟩
        have hn9 := HN9.out
        rw [hN] at hn9 ⊢
        have he : ((N : Int) == ((n9 : Int) - 1)) = true := by simp; omega
        have y12 : wr.cell? ⟨W4.heap.size, 12, none⟩ = some (.slice A9 n9 c9) := by rw [hW]; exact t12b
        have x12 : wr.cell? ⟨B, 12, none⟩ = some (.slice A k c) := by rw [hW]; exact t12a
        have hbwr : Below B w wr := by rw [hW]; exact below_drewN hbw10 q
        have hbsz := hbwr.size
        clear hn9 hN htk hW hll
        go_wp2_with (go_at_call 11; refine (wakes _).mono ?_; rintro e w7 ⟨rfl, hb7⟩)
        go_ret
        exact ⟨rfl, by rw [hB]; exact hbwr.trans (hb7.mono (by omega))⟩
theorem ednsBack_walk (w : World) (m : Mg) (A : Option Addr) (n c : Nat) (l : List Rc) (code sz hi ve fl : Int) (s : ByteArray) (most : Int) (hr : Rd w 12 A n c (rcs l)) (hn : n ≤ 1048576) (hok : ∀ r ∈ l, r.ok) (r0 : 0 ≤ m.rc) (r1 : m.rc < 256) (k0 : 0 ≤ code) (k1 : code < 65536) (z0 : 0 ≤ sz) (z1 : sz < 65536) (h0 : 0 ≤ hi) (h1 : hi < 256) (v0 : 0 ≤ ve) (v1 : ve < 256) (f0 : 0 ≤ fl) (f1 : fl < 65536) (hlen : s.size ≤ 1048576) (m0 : -9223372036854775808 ≤ most) (m1 : most ≤ 9223372036854775807) :
    Calls Try.prog 6 #[m.val A n c, .int .u16 code, ednsV sz hi ve fl s, .int .i64 most] w (Tells w (.bool true)) := by
  by_cases h512 : 512 < limV true sz most
  · exact ednsBack_big w m A n c l code sz hi ve fl s most hr hn hok r0 r1 k0 k1 z0 z1 h0 h1 v0 v1 f0 f1 hlen m0 m1 h512
  · exact ednsBack_small w m A n c l code sz hi ve fl s most hr hn hok r0 r1 k0 k1 z0 z1 h0 h1 v0 v1 f0 f1 hlen m0 m1 h512
end Go.Proofs.Ytdgdgioenfglnaa
