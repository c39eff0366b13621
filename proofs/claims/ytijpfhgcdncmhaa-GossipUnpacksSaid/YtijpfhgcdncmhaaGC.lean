/- gossip: the document's Pack walked. -/
import Derived.Test.YtijpfhgcdncmhaaGB
namespace Go.Proofs.Ytijpfhgcdncmhaa
open Go.RowKit Go.HL
set_option linter.unusedVariables false
set_option linter.unusedSimpArgs false

theorem be1 (v : Int) (h0 : 0 ≤ v) (h1 : v < 256) : bs (be 1 v) = [.int .u8 v] := by
  have e0 : B (byteAt v 0) = .int .u8 v := by rw [B, byteAt_toNat]; congr 1; omega
  simp [bs, be, e0]
set_option maxRecDepth 100000 in
set_option maxHeartbeats 4000000 in
theorem rpack_ (w : World) (k s t : Int) (A : Option Addr) (n c : Nat) (l : List Mb) (hr : Rd w 4 A n c (mbs l)) (hok : ∀ m ∈ l, m.ok) (k0 : 0 ≤ k) (k1 : k < 256) (s0 : 0 ≤ s) (s1 : s < 4294967296) (t0 : 0 ≤ t) (t1 : t < 4294967296) :
    Calls Try.prog 8 #[pkVal k s t A n c] w (PackP w k s t l) := by
  have hl := Rd.mbs hr
  have hH := fun W => rhead_ W k t
  have hb0 := below_new w (.cells (pkCells k s t A n c).toArray 26)
  have hE0 := Blk.new w 26 (pkCells k s t A n c).toArray
  have cl := hE0.cell 3 _ rfl
  unfold pkVal
  go_enter Try.func8, Try.ntmps8
  cases hh : headB k t with
  | false =>
    rw [hh] at hH
    go_wp2_with (go_at_call 18; refine (hH _).mono ?_; rintro e w' ⟨rfl, rfl⟩)
    go_ret2
    exact packP_no 190 (by unfold packE; rw [hh]; rfl) (by decide) rfl hb0
  | true =>
  rw [hh] at hH
  by_cases hn : 32 < n
  · have hn' : (32 : Int) < n := by omega
    go_wp2_with (go_at_call 18; refine (hH _).mono ?_; rintro e w' ⟨rfl, rfl⟩)
    go_ret2
    exact packP_no 2 (by unfold packE; rw [if_pos hh, if_neg (by omega)]) (by decide) rfl hb0
  have hn' : ¬ (32 : Int) < n := by omega
  go_upto_region 6 with (go_at_call 18; refine (hH _).mono ?_; rintro e w' ⟨rfl, rfl⟩)
  clear hH
  obtain ⟨g, hg⟩ : ∃ g, w.heap.size = g := ⟨_, rfl⟩
  obtain ⟨w0, hw0⟩ : ∃ w0, w.alloc (.cells (pkCells k s t A n c).toArray 26) = w0 := ⟨_, rfl⟩
  have hE : Blk w0 g 26 (pkCells k s t A n c) := by rw [← hw0, ← hg]; exact hE0
  rw [hw0] at hb0
  have hr0 : Rd w0 4 A n c (mbs l) := hr.below hb0
  rw [hg]
  first | rw [hw0] | skip
  clear hE0 cl hr
  go_loopw [4] (fun u4 wr => ∃ kk : Nat, kk ≤ n ∧ u4 = .int .i64 kk ∧ (∀ (j : Nat) m, j < kk → l[j]? = some m → mayB m = true) ∧ Below w0.heap.size w0 wr) (fun u4 _ => n - (intOf u4).toNat)
  case atStart => exact ⟨0, Nat.zero_le _, rfl, fun j m h => absurd h (by omega), by first | exact Below.refl _ _ | (rw [← hw0]; exact Below.refl _ _)⟩
  case round =>
    obtain ⟨kk, hkk, rfl, hmay, hb⟩ := hrel
    have HE := hE.below hb
    have cl := HE.cell 3 _ rfl
    by_cases hlt : kk < n
    · obtain ⟨m, hmk⟩ : ∃ m, l[kk]? = some m := ⟨l[kk], List.getElem?_eq_getElem (by omega)⟩
      cases A with
      | none => have := (hr0.nil_ rfl).1; omega
      | some ad =>
      have hcs := Rd.mb (hr0.below hb) kk m hmk
      have hM := rmay_ wr m
      cases hmm : mayB m with
      | false =>
        rw [hmm] at hM
        go_wp2_with (first | (refine wpList_getAt rfl 41 (.tmp 28) rfl (ad.add (kk * 4)) rfl m.cells _ hcs Try.underlying41 rfl sizeMb ?_) | (go_at_call 19; refine hM.mono ?_; rintro e w' ⟨rfl, hb'⟩))
        go_ret2
        exact packP_no 170 (packE_may hh (by omega) hmk hmm) (by decide) rfl (below_trans hb0 (below_trans hb hb'))
      | true =>
        rw [hmm] at hM
        go_wp2_with (first | (refine wpList_getAt rfl 41 (.tmp 28) rfl (ad.add (kk * 4)) rfl m.cells _ hcs Try.underlying41 rfl sizeMb ?_) | (go_at_call 19; refine hM.mono ?_; rintro e w' ⟨rfl, hb'⟩))
        go_roundw
        case rel =>
          refine ⟨kk + 1, by omega, by go_num, fun j q hj hq => ?_, below_trans hb hb'⟩
          by_cases hjk : j < kk
          · exact hmay j q hjk hq
          · obtain rfl : j = kk := by omega
            rw [hmk] at hq
            cases hq
            exact hmm
        case measure => simp [intOf]; omega
    · obtain rfl : kk = n := by omega
      have hE0 : packE k t l = 0 := packE_ok hh (by omega) (fun j m hj => hmay j m (by rw [← hl]; exact (List.getElem?_eq_some_iff.1 hj).1) hj)
      have hme : ∀ m ∈ l, m.me.size ≤ 400 := by
        intro m hm
        obtain ⟨j, hj⟩ := List.getElem?_of_mem hm
        have h := hmay j m (by rw [← hl]; exact (List.getElem?_eq_some_iff.1 hj).1) hj
        unfold mayB at h
        simp at h
        exact h.2
      have c0 := HE.cell 0 _ rfl
      clear hmay hlt
      have hlit : Rd (wr.alloc (.cells #[.int .u8 k] 5)) 1 (some ⟨wr.heap.size, 0, none⟩) 1 1 (bs (be 1 k)) := by rw [be1 k k0 k1]; exact Rd.lit wr #[.int .u8 k] 5
      have hE1 := HE.alloc (.cells #[.int .u8 k] 5)
      have hb1 := below_alloc hb (.cells #[.int .u8 k] 5)
      go_upto_region 11 with (fail)
      obtain ⟨g1, hg1⟩ : ∃ g1, wr.heap.size = g1 := ⟨_, rfl⟩
      obtain ⟨w1, hw1⟩ : ∃ w1, wr.alloc (.cells #[.int .u8 k] 5) = w1 := ⟨_, rfl⟩
      rw [hg1] at hlit ⊢
      rw [hw1] at hlit hE1 hb1 ⊢
      clear HE hb c0 cl hg1 hw1
      have c1 := hE1.cell 1 _ rfl
      have hp1 := rput _ _ _ s 4 (by omega) s0 s1 (by omega) _ _ hlit (bs_one _)
      clear hlit
      go_upto_region 12 with (go_at_call 20; refine hp1.mono ?_; clear hp1; rintro e w2 ⟨sv, rfl, ho2, hb2⟩)
      rw [← bs_append] at ho2
      obtain ⟨A2, c2, rfl, hr2⟩ := own_rd ho2
      have hE2 := hE1.below hb2
      have hb2' := below_trans hb1 hb2
      clear ho2 hE1 hb1 hb2 c1
      have cc := hE2.cell 2 _ rfl
      have hp1 := rput _ _ _ t 4 (by omega) t0 t1 (by omega) _ _ hr2 (bs_one _)
      clear hr2
      go_upto_region 13 with (go_at_call 20; refine hp1.mono ?_; clear hp1; rintro e w3 ⟨sv, rfl, ho3, hb3⟩)
      rw [← bs_append] at ho3
      have ho3' : w3.ownsRow w0.heap.size 5 1 sv 9 (bs (be 1 k ++ be 4 s ++ be 4 t)) := own_lower ho3 hb2'.size
      obtain ⟨A3, c3, rfl, _⟩ := own_rd ho3'
      have hE3 := hE2.below hb3
      have hb3' := below_trans hb2' hb3
      clear ho3 hE2 hb2' hb3 cc
      have cc := hE3.cell 3 _ rfl
      have hw8 : IntKind.u8.wrap (kk : Int) = (kk : Int) := by rw [IntKind.wrap_u8]; omega
      go_upto_region 14 with (at_builtin; go_must (refine wpList_app1 (w0 := w0) w0.heap.size rfl _ _ 27 5 (.int .u8 0) 1 rfl Try.underlying27 info_u8 rfl (by omega) (.slice A3 9 c3) (9) _ _ rfl (.own ho3') rfl rfl hb3' hb3'.size (by omega) ?_); intro v4 w4 ho4 hb4 hg)
      rw [← be1 (kk : Int) (by omega) (by omega), ← bs_append] at ho4
      have ho4 : w4.ownsRow w0.heap.size 5 1 v4 10 (bs (be 1 k ++ be 4 s ++ be 4 t ++ be 1 (kk : Int))) := ho4
      obtain ⟨A4, c4, rfl, _⟩ := own_rd ho4
      have hE4 := hE.below hb4
      clear ho3' hE3 hb3' cc hg hw8
      go_wp2
      go_loopw [5, 6, 7] (fun u5 u6 _ wr => ∃ (i nb : Nat) (Ab : Option Addr) (cb : Nat), i ≤ kk ∧ u6 = .int .i64 i ∧ u5 = .slice Ab nb cb ∧ wr.ownsRow w0.heap.size 5 1 (.slice Ab nb cb) nb (bs (hdr k s t kk ++ encs (l.take i))) ∧ nb ≤ 10 + 411 * i ∧ Below w0.heap.size w0 wr) (fun _ u6 _ _ => kk - (intOf u6).toNat)
      case atStart => exact ⟨0, 10, A4, c4, Nat.zero_le _, rfl, rfl, by simpa [encs, hdr] using ho4, by omega, hb4⟩
      case round =>
        clear ho4 hE4 hb4
        obtain ⟨i, nb, Ab, cb, hi, rfl, rfl, hob, hnb, hb⟩ := hrel
        have HE := hE.below hb
        have cl := HE.cell 3 _ rfl
        by_cases hlt : i < kk
        · obtain ⟨m, hmk⟩ : ∃ m, l[i]? = some m := ⟨l[i], List.getElem?_eq_getElem (by omega)⟩
          cases A with
          | none => have := (hr0.nil_ rfl).1; omega
          | some ad =>
          have hmo := hok m (List.mem_of_getElem? hmk)
          have hme := hme m (List.mem_of_getElem? hmk)
          have hcs := Rd.mb (hr0.below hb) i m hmk
          have HM0 := (Blk.new wr 41 #[.int .u32 0, .int .u32 0, .int .u8 0, .string ⟨#[]⟩]).row m.cells.toArray
          have hbw : Below wr.heap.size wr ((wr.alloc (.cells #[.int .u32 0, .int .u32 0, .int .u8 0, .string ⟨#[]⟩] 41)).setRow wr.heap.size m.cells.toArray) := (below_new wr _).grown (grown_row _ _ _) (by simp) (fun j hj => by cases hj; exact Nat.le_refl _)
          go_upto_region 18 with (first | (refine wpList_getAt rfl 41 (.tmp 60) rfl (ad.add (i * 4)) rfl m.cells _ hcs Try.underlying41 rfl sizeMb ?_) | (refine wpList_put rfl 41 (.tmp 7) _ rfl wr.heap.size m.cells.toArray rfl rfl 41 [.int .u32 0, .int .u32 0, .int .u8 0, .string ⟨#[]⟩] (Blk.new _ _ _) sizeMb rfl rfl ?_))
          obtain ⟨w4, hw4⟩ : ∃ w4, (wr.alloc (.cells #[.int .u32 0, .int .u32 0, .int .u8 0, .string ⟨#[]⟩] 41)).setRow wr.heap.size m.cells.toArray = w4 := ⟨_, rfl⟩
          rw [hw4] at HM0 hbw
          have hbm := below_trans hb hbw
          obtain ⟨_, _, hee, HR0⟩ := own_rd (own_below hob hbw)
          cases hee
          obtain ⟨g, hg⟩ : ∃ g, wr.heap.size = g := ⟨_, rfl⟩
          rw [hg] at HM0
          have HM : Blk w4 g 41 m.cells := HM0
          obtain ⟨pre, hpre⟩ : ∃ pre, hdr k s t kk ++ encs (l.take i) = pre := ⟨_, rfl⟩
          rw [hpre] at HR0
          have hx := encs_snoc l i m hmk
          first | rw [hw4, hg] | rw [hw4] | skip
          clear HM0 hbw hob hcs hw4 HE cl hb
          have a0 := hmo.a0
          have a1 := hmo.a1
          have i0 := hmo.i0
          have i1 := hmo.i1
          have st0 := hmo.s0
          have st1 := hmo.s1
          have cc := HM.cell 0 _ rfl
          have hp1 := rput _ _ _ m.ad 4 (by omega) a0 a1 (by omega) _ _ HR0 (bs_one _)
          clear HR0
          go_upto_region 19 with (go_at_call 20; refine hp1.mono ?_; clear hp1; rintro e w5 ⟨sv, rfl, ho5, hb5⟩)
          rw [← bs_append] at ho5
          obtain ⟨A5, c5, rfl, hr5⟩ := own_rd ho5
          have HM5 := HM.below hb5
          clear ho5 cc
          have cc := HM5.cell 1 _ rfl
          have hp1 := rput _ _ _ m.inc 4 (by omega) i0 i1 (by omega) _ _ hr5 (bs_one _)
          clear hr5
          go_upto_region 20 with (go_at_call 20; refine hp1.mono ?_; clear hp1; rintro e w6 ⟨sv, rfl, ho6, hb6⟩)
          rw [← bs_append] at ho6
          have hb46 := below_trans hb5 hb6
          have ho6' := own_lower ho6 hb5.size
          obtain ⟨A6, c6, rfl, _⟩ := own_rd ho6'
          have HM6 := HM5.below hb6
          clear ho6 HM5 cc hb5 hb6
          have cc := HM6.cell 2 _ rfl
          obtain ⟨n6, hn6⟩ : ∃ n6, nb + 4 + 4 = n6 := ⟨_, rfl⟩
          rw [hn6] at ho6' ⊢
          go_upto_region 21 with (at_builtin; go_must (refine wpList_app1 (w0 := w4) w4.heap.size rfl _ _ 27 5 (.int .u8 0) 1 rfl Try.underlying27 info_u8 rfl (by omega) (.slice A6 n6 c6) (n6) _ _ rfl (.own ho6') rfl rfl hb46 hb46.size (by omega) ?_); intro v7 w7 ho7 hb7 hg)
          rw [← be1 m.st st0 st1, ← bs_append] at ho7
          obtain ⟨A7, c7, rfl, hr7⟩ := own_rd ho7
          have HM7 := HM.below hb7
          have hbm7 := below_trans hbm hb7
          clear ho6' hb46 HM6 cc hg HM hb7 hbm ho7
          have cc := HM7.cell 3 _ rfl
          have hw32 : IntKind.u32.wrap (m.me.size : Int) = (m.me.size : Int) := by rw [IntKind.wrap_u32]; omega
          have hp1 := rput _ _ _ (m.me.size : Int) 2 (by omega) (by omega) (by omega) (by omega) _ _ hr7 (bs_one _)
          clear hr7
          go_upto_region 22 with (go_at_call 20; refine hp1.mono ?_; clear hp1; rintro e w8 ⟨sv, rfl, ho8, hb8⟩)
          rw [← bs_append] at ho8
          have ho8' := own_lower ho8 hbm7.size
          have hbm8 := below_trans hbm7 hb8
          have HM8 := HM7.below hb8
          obtain ⟨A8, c8, rfl, _⟩ := own_rd ho8'
          clear ho8 hbm7 hb8 HM7 cc
          have cc := HM8.cell 3 _ rfl
          go_wp2_with (at_builtin; go_must (refine wpList_app (w0 := w0) _ w0.heap.size rfl _ _ 27 9 5 (.int .u8 0) 1 1 rfl Try.underlying27 info_u8 rfl (by omega) (by omega) (.slice A8 (n6 + 1 + 2) c8) (n6 + 1 + 2) _ rfl (.own ho8') _ m.me.size _ rfl (.str Try.underlying9 Try.underlying27 info_u8 rfl m.me) hbm8 hbm8.size (by omega) ?_); intro v9 w9 _ ho9 hb9 hg9)
          have ho := ho9 (.inr ho8')
          clear ho9 ho8'
          obtain ⟨A9, c9, rfl, _⟩ := own_rd ho
          go_roundw
          case rel =>
            refine ⟨i + 1, n6 + 1 + 2 + m.me.size, A9, c9, by omega, by go_num, rfl, ?_, by omega, hb9⟩
            rw [hx]
            rw [← bs_append, ← hpre] at ho
            simpa [enc, List.append_assoc] using ho
          case measure => simp [intOf]; omega
        · obtain rfl : i = kk := by omega
          have htk : l.take i = l := by rw [← hl]; exact List.take_length
          rw [htk] at hob
          obtain ⟨_, _, hee, hr9⟩ := own_rd hob
          cases hee
          go_wp2
          go_ret2
          exact packP_ok hE0 rfl (by rw [hl]) hr9 (below_trans hb0 hb)
end Go.Proofs.Ytijpfhgcdncmhaa
