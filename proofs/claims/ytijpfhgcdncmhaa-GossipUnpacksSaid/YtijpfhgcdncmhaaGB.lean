/- gossip: Pack walked. -/
import Derived.Test.YtijpfhgcdncmhaaGA
import Derived.Deep.DeepCutAuto
import Derived.Deep.CutBlock
import Derived.Deep.LoopGhost
namespace Go.Proofs.Ytijpfhgcdncmhaa
open Go.RowKit Go.HL
set_option linter.unusedVariables false
set_option linter.unusedSimpArgs false

def enc (m : Mb) : List UInt8 := be 4 m.ad ++ be 4 m.inc ++ be 1 m.st ++ be 2 (m.me.size : Int) ++ m.me.data.toList
def encs (l : List Mb) : List UInt8 := l.flatMap enc
theorem enc_len (m : Mb) : (enc m).length = 11 + m.me.size := by
  unfold enc
  simp only [List.length_append, be_length, Array.length_toList]
  have e : m.me.data.size = m.me.size := rfl
  omega
theorem encs_snoc (l : List Mb) (k : Nat) (m : Mb) (h : l[k]? = some m) : encs (l.take (k + 1)) = encs (l.take k) ++ enc m := by
  have hk := (List.getElem?_eq_some_iff.1 h)
  obtain ⟨h1, h2⟩ := hk
  rw [List.take_add_one, h]
  simp [encs]
def hdr (k s t : Int) (n : Nat) : List UInt8 := be 1 k ++ be 4 s ++ be 4 t ++ be 1 (n : Int)
/-- How a packet is refused. -/
def packE (k t : Int) (l : List Mb) : Int := if headB k t then (if l.length ≤ 32 then (if l.all mayB then 0 else 170) else 2) else 190
/-- Its bytes. -/
def packB (k s t : Int) (l : List Mb) : List UInt8 := if packE k t l = 0 then hdr k s t l.length ++ encs l else []
def PackP (w : World) (k s t : Int) (l : List Mb) (e : Ending) (w' : World) : Prop :=
  ∃ A1 c1, e = .returned (.tuple #[.slice A1 (packB k s t l).length c1, .int .i64 (packE k t l)]) ∧ Rd w' 1 A1 (packB k s t l).length c1 (bs (packB k s t l)) ∧ Below w.heap.size w w'
theorem mayB_may (m : Mb) : (decide (m.st ≤ 3) && decide ((m.me.size : Int) ≤ 400)) = mayB m := by
  unfold mayB
  congr 1
  simp only [decide_eq_decide]
  omega
theorem packE_may {k t : Int} {l : List Mb} {j : Nat} {m : Mb} (h1 : headB k t = true) (h2 : l.length ≤ 32) (hj : l[j]? = some m) (hm : mayB m = false) : packE k t l = 170 := by
  unfold packE
  rw [if_pos h1, if_pos h2, if_neg]
  intro h
  rw [List.all_eq_true] at h
  rw [h m (List.mem_of_getElem? hj)] at hm
  cases hm
theorem packE_ok {k t : Int} {l : List Mb} (h1 : headB k t = true) (h2 : l.length ≤ 32) (h : ∀ (j : Nat) m, l[j]? = some m → mayB m = true) : packE k t l = 0 := by
  unfold packE
  rw [if_pos h1, if_pos h2, if_pos]
  rw [List.all_eq_true]
  intro m hm
  obtain ⟨j, hj⟩ := List.getElem?_of_mem hm
  exact h j m hj
theorem packP_no {w : World} {k s t : Int} {l : List Mb} {e : Ending} {w' : World} (x : Int) (hx : packE k t l = x) (hx0 : x ≠ 0) (he : e = .returned (.tuple #[.slice none 0 0, .int .i64 x])) (hb : Below w.heap.size w w') : PackP w k s t l e w' := by
  have hB : packB k s t l = [] := by unfold packB; rw [if_neg (by rw [hx]; exact hx0)]
  refine ⟨none, 0, ?_, ?_, hb⟩
  · rw [hB, hx]; exact he
  · rw [hB]; exact Rd.nil _ _
theorem packP_ok {w : World} {k s t : Int} {l : List Mb} {e : Ending} {w' : World} {A1 : Option Addr} {nb c1 : Nat} {X : List UInt8} (hx : packE k t l = 0) (he : e = .returned (.tuple #[.slice A1 nb c1, .int .i64 0])) (hX : X = hdr k s t l.length ++ encs l) (hr : Rd w' 1 A1 nb c1 (bs X)) (hb : Below w.heap.size w w') : PackP w k s t l e w' := by
  have hB : packB k s t l = X := by unfold packB; rw [if_pos hx, hX]
  have := hr.blen
  refine ⟨A1, c1, ?_, ?_, hb⟩
  · rw [hB, hx, this]; exact he
  · rw [hB, this]; exact hr
def p6c (A1 : Option Addr) (c1 g B : Nat) (k s t : Int) : List (Option Value) :=
  [some (.slice A1 1 c1),
   some (.pointer (some ⟨g, 1, none⟩)),
   some (.int .u32 s),
   none,
   some (.pointer (some ⟨g, 2, none⟩)),
   some (.int .u32 t),
   none,
   none]
def p6G (A1 : Option Addr) (c1 g B : Nat) (k s t : Int) : Nat → Value → World → Prop
  | 3, u, W => W.ownsRow B 5 1 u 5 (bs (be 1 k ++ be 4 s))
  | 6, u, W => W.ownsRow B 5 1 u 9 (bs (be 1 k ++ be 4 s ++ be 4 t))
  | 7, u, W => W.ownsRow B 5 1 u 9 (bs (be 1 k ++ be 4 s ++ be 4 t))
  | _, _, _ => True
theorem p6G_st (A1 : Option Addr) (c1 g B : Nat) (k s t : Int) : ∀ j u W W', Below W.heap.size W W' → p6G A1 c1 g B k s t j u W → p6G A1 c1 g B k s t j u W' := by
  intro j u W W' hb h
  unfold p6G at h ⊢
  split at h
  · exact own_below h hb
  · exact own_below h hb
  · exact own_below h hb
  · trivial
def p13c (Ab : Option Addr) (nb cb g B : Nat) (m : Mb) (pre : List UInt8) : List (Option Value) :=
  [some (.slice Ab nb cb),
   some (.pointer (some ⟨g, 0, none⟩)),
   some (.int .u32 m.ad),
   none,
   some (.pointer (some ⟨g, 1, none⟩)),
   some (.int .u32 m.inc),
   none,
   none]
def p13G (Ab : Option Addr) (nb cb g B : Nat) (m : Mb) (pre : List UInt8) : Nat → Value → World → Prop
  | 3, u, W => W.ownsRow B 5 1 u (nb + 4) (bs (pre ++ be 4 m.ad))
  | 6, u, W => W.ownsRow B 5 1 u (nb + 4 + 4) (bs (pre ++ be 4 m.ad ++ be 4 m.inc))
  | 7, u, W => W.ownsRow B 5 1 u (nb + 4 + 4) (bs (pre ++ be 4 m.ad ++ be 4 m.inc))
  | _, _, _ => True
theorem p13G_st (Ab : Option Addr) (nb cb g B : Nat) (m : Mb) (pre : List UInt8) : ∀ j u W W', Below W.heap.size W W' → p13G Ab nb cb g B m pre j u W → p13G Ab nb cb g B m pre j u W' := by
  intro j u W W' hb h
  unfold p13G at h ⊢
  split at h
  · exact own_below h hb
  · exact own_below h hb
  · exact own_below h hb
  · trivial
def p14c (A5 : Option Addr) (n5 c5 g B : Nat) (m : Mb) (p5 : List UInt8) : List (Option Value) :=
  [some (.slice A5 n5 c5),
   some (.pointer (some ⟨g, 2, none⟩)),
   some (.int .u8 m.st),
   none,
   some (.pointer (some ⟨g, 3, none⟩)),
   some (.string m.me),
   some (.int .i64 (m.me.size : Int)),
   some (.int .u16 (m.me.size : Int)),
   none,
   none]
def p14G (A5 : Option Addr) (n5 c5 g B : Nat) (m : Mb) (p5 : List UInt8) : Nat → Value → World → Prop
  | 3, u, W => W.ownsRow B 5 1 u (n5 + 1) (bs (p5 ++ be 1 m.st))
  | 8, u, W => W.ownsRow B 5 1 u (n5 + 1 + 2) (bs (p5 ++ be 1 m.st ++ be 2 (m.me.size : Int)))
  | 9, u, W => W.ownsRow B 5 1 u (n5 + 1 + 2) (bs (p5 ++ be 1 m.st ++ be 2 (m.me.size : Int)))
  | _, _, _ => True
theorem p14G_st (A5 : Option Addr) (n5 c5 g B : Nat) (m : Mb) (p5 : List UInt8) : ∀ j u W W', Below W.heap.size W W' → p14G A5 n5 c5 g B m p5 j u W → p14G A5 n5 c5 g B m p5 j u W' := by
  intro j u W W' hb h
  unfold p14G at h ⊢
  split at h
  · exact own_below h hb
  · exact own_below h hb
  · exact own_below h hb
  · trivial

set_option maxRecDepth 100000 in
set_option maxHeartbeats 4000000 in
theorem pack_ (w : World) (k s t : Int) (A : Option Addr) (n c : Nat) (l : List Mb) (hr : Rd w 4 A n c (mbs l)) (hok : ∀ m ∈ l, m.ok) (k0 : 0 ≤ k) (k1 : k < 256) (s0 : 0 ≤ s) (s1 : s < 4294967296) (t0 : 0 ≤ t) (t1 : t < 4294967296) :
    Calls Try.prog 7 #[pkVal k s t A n c] w (PackP w k s t l) := by
  have hl := Rd.mbs hr
  have hH := fun W => head_ W k t
  have hb0 := below_new w (.cells (pkCells k s t A n c).toArray 26)
  have hE0 := Blk.new w 26 (pkCells k s t A n c).toArray
  unfold pkVal
  go_enter Try.func7, Try.ntmps7
  cases hh : headB k t with
  | false =>
    rw [hh] at hH
    go_wp2_with (go_at_call 13; refine (hH _).mono ?_; rintro e w' ⟨rfl, rfl⟩)
    go_ret2
    exact packP_no 190 (by unfold packE; rw [hh]; rfl) (by decide) rfl hb0
  | true =>
  rw [hh] at hH
  by_cases hn : 32 < n
  · have hn' : (32 : Int) < n := by omega
    go_wp2_with (go_at_call 13; refine (hH _).mono ?_; rintro e w' ⟨rfl, rfl⟩)
    go_ret2
    exact packP_no 2 (by unfold packE; rw [if_pos hh, if_neg (by omega)]) (by decide) rfl hb0
  have hn' : ¬ (32 : Int) < n := by omega
  have hp8 := fun W => put8 none 0 0 k k0 k1 (by omega) W [] (Rd.nil W 1)
  go_upto_region 6 with (first | (go_at_call 13; refine (hH _).mono ?_; rintro e w' ⟨rfl, rfl⟩) | (go_at_call 14; refine (hp8 _).mono ?_; rintro e w1 ⟨sv, rfl, ho1, hb1⟩))
  clear hp8 hH
  rw [List.nil_append] at ho1
  obtain ⟨A1, c1, rfl, HR⟩ := own_rd ho1
  have HE := hE0.below hb1
  have hBs : w.heap.size ≤ w1.heap.size := by have := hb1.size; simp at this; omega
  have hb01 := below_trans hb0 hb1
  obtain ⟨g, hg⟩ : ∃ g, w.heap.size = g := ⟨_, rfl⟩
  rw [hg] at HE ⊢
  obtain ⟨B, hB⟩ : ∃ B, w.heap.size = B := ⟨_, rfl⟩
  rw [hB] at hBs
  clear ho1 hE0
  refine wp_region_growZ (by kernel_rfl) (by kernel_rfl) ?fr_p6 ?hfr_p6 (VV (p6c A1 c1 g B k s t) (p6G A1 c1 g B k s t)) (VV.stable (p6G_st A1 c1 g B k s t)) ?hob_p6 ?hQ_p6
  case hfr_p6 =>
    intro xs
    simp only [fillL]
    go_simp
    exact rfl
  case hob_p6 =>
    refine ⟨?_, ?_, ?_, ?_, ?_, ?_, ?_, ?_, trivial⟩
    · -- 0: slot 22 := move t4
      intro xs W hb hA hZ
      have z7 : xs 7 = .slice A1 1 c1 := hZ 7 _ _ (by kernel_rfl) rfl rfl
      clear hZ
      clear hA
      go_simp
      exact ⟨Below.refl _ _, rfl⟩
    · -- 1: slot 23 := fieldAddr 26 t1 1
      intro xs W hb hA hZ
      clear hZ
      clear hA
      go_simp
      exact ⟨Below.refl _ _, rfl⟩
    · -- 2: slot 24 := load 22 t23
      intro xs W hb hA hZ
      clear hZ
      have x1 : xs 1 = .pointer (some ⟨g, 1, none⟩) := hA 1 (by decide)
      clear hA
      have c1 := (HE.below hb).cell 1 _ rfl
      go_simp
      exact ⟨Below.refl _ _, rfl⟩
    · -- 3: slot 25 := call { value (Operand.func 15), args := #[t22, t24], argTypes := #[27, 22] }
      intro xs W hb hA hZ
      clear hZ
      have x0 : xs 0 = .slice A1 1 c1 := hA 0 (by decide)
      have x2 : xs 2 = .int .u32 s := hA 2 (by decide)
      clear hA
      go_simp
      refine (put32 _ 1 _ s (by omega) (by omega) (by omega) W _ (HR.below hb)).mono ?_
      rintro e w5 ⟨sv, rfl, ho5, hb5⟩
      rw [← bs_append] at ho5
      exact ⟨_, rfl, hb5, own_lower ho5 (Nat.le_trans hBs hb.size)⟩
    · -- 4: slot 26 := fieldAddr 26 t1 2
      intro xs W hb hA hZ
      clear hZ
      clear hA
      go_simp
      exact ⟨Below.refl _ _, rfl⟩
    · -- 5: slot 27 := load 23 t26
      intro xs W hb hA hZ
      clear hZ
      have x4 : xs 4 = .pointer (some ⟨g, 2, none⟩) := hA 4 (by decide)
      clear hA
      have c2 := (HE.below hb).cell 2 _ rfl
      go_simp
      exact ⟨Below.refl _ _, rfl⟩
    · -- 6: slot 28 := call { value (Operand.func 15), args := #[t25, t27], argTypes := #[27, 22] }
      intro xs W hb hA hZ
      clear hZ
      have g3 : (p6G A1 c1 g B k s t 3 (xs 3) W) := hA 3 (by decide)
      have x5 : xs 5 = .int .u32 t := hA 5 (by decide)
      obtain ⟨Ap, cp, e1, hr1⟩ := own_rd g3
      clear hA
      go_simp
      refine (put32 _ 5 _ t (by omega) (by omega) (by omega) W _ hr1).mono ?_
      rintro e w5 ⟨sv, rfl, ho5, hb5⟩
      rw [← bs_append] at ho5
      exact ⟨_, rfl, hb5, own_lower ho5 (Nat.le_trans hBs hb.size)⟩
    · -- 7: slot 4 := assign t28
      intro xs W hb hA hZ
      clear hZ
      have g6 : (p6G A1 c1 g B k s t 6 (xs 6) W) := hA 6 (by decide)
      clear hA
      go_simp
      exact ⟨Below.refl _ _, g6⟩
  case hQ_p6 =>
    intro xs W hb hV
    have x0 : xs 0 = .slice A1 1 c1 := hV 0 (by decide)
    have x1 : xs 1 = .pointer (some ⟨g, 1, none⟩) := hV 1 (by decide)
    have x2 : xs 2 = .int .u32 s := hV 2 (by decide)
    have x3 : p6G A1 c1 g B k s t 3 (xs 3) W := hV 3 (by decide)
    have x4 : xs 4 = .pointer (some ⟨g, 2, none⟩) := hV 4 (by decide)
    have x5 : xs 5 = .int .u32 t := hV 5 (by decide)
    have x6 : p6G A1 c1 g B k s t 6 (xs 6) W := hV 6 (by decide)
    have x7 : p6G A1 c1 g B k s t 7 (xs 7) W := hV 7 (by decide)
    clear hV
    obtain ⟨A2, c2, e2, HR2⟩ := own_rd x7
    rw [e2] at x7 ⊢
    have HE2 := HE.below hb
    have hb02 := below_trans hb01 hb
    have cl := HE2.cell 3 _ rfl
    have hw8 : IntKind.u8.wrap (n : Int) = (n : Int) := by rw [IntKind.wrap_u8]; omega
    have hp8 := put8 A2 9 c2 (n : Int) (by omega) (by omega) (by omega) W _ HR2
    clear x0 x1 x2 x3 x4 x5 x6 HE HR e2
    go_upto_region 9 with (go_at_call 14; refine hp8.mono ?_; clear hp8; rintro e w2 ⟨sv, rfl, ho2, hb2⟩; have cl2 := (HE2.below hb2).cell 3 _ rfl)
    rw [← bs_append] at ho2
    have hb03 := below_trans hb02 hb2
    have ho3 : w2.ownsRow B 5 1 sv 10 (bs (be 1 k ++ be 4 s ++ be 4 t ++ be 1 (n : Int))) := own_lower ho2 (Nat.le_trans hBs hb.size)
    obtain ⟨A3, c3, rfl, _⟩ := own_rd ho3
    clear hb2 cl2 ho2 HE2 HR2 hb01 hb02 hb1 hb0 hBs x7 hw8 cl hb
    have hsz : B ≤ w2.heap.size := by rw [← hB]; exact hb03.size
    go_loopw [4, 6, 38] (fun u4 _ u38 wr => ∃ (kk nb : Nat) (Ab : Option Addr) (cb : Nat), kk ≤ n ∧ u38 = .int .i64 kk ∧ u4 = .slice Ab nb cb ∧ wr.ownsRow B 5 1 (.slice Ab nb cb) nb (bs (hdr k s t n ++ encs (l.take kk))) ∧ nb ≤ 10 + 411 * kk ∧ (∀ (j : Nat) m, j < kk → l[j]? = some m → mayB m = true) ∧ Below w.heap.size w wr) (fun _ _ u38 _ => n - (intOf u38).toNat)
    case atStart => exact ⟨0, 10, A3, c3, Nat.zero_le _, rfl, rfl, by simpa [encs, hdr, hB] using ho3, by omega, fun j m h => absurd h (by omega), hb03⟩
    case round =>
      clear ho3 hb03 hsz
      obtain ⟨kk, nb, Ab, cb, hkk, rfl, rfl, hob, hnb, hmay, hb⟩ := hrel
      by_cases hlt : kk < n
      · obtain ⟨m, hmk⟩ : ∃ m, l[kk]? = some m := ⟨l[kk], List.getElem?_eq_getElem (by omega)⟩
        cases A with
        | none => have := (hr.nil_ rfl).1; omega
        | some ad =>
        have hm := hok m (List.mem_of_getElem? hmk)
        have hcs := Rd.mb (hr.below hb) kk m hmk
        have HM0 := (Blk.new wr 41 #[.int .u32 0, .int .u32 0, .int .u8 0, .string ⟨#[]⟩]).row m.cells.toArray
        have hbw : Below wr.heap.size wr ((wr.alloc (.cells #[.int .u32 0, .int .u32 0, .int .u8 0, .string ⟨#[]⟩] 41)).setRow wr.heap.size m.cells.toArray) := (below_new wr _).grown (grown_row _ _ _) (by simp) (fun j hj => by cases hj; exact Nat.le_refl _)
        go_upto_region 11 with (first | (refine wpList_getAt rfl 41 (.tmp 40) rfl (ad.add (kk * 4)) rfl m.cells _ hcs Try.underlying41 rfl sizeMb ?_) | (refine wpList_put rfl 41 (.tmp 6) _ rfl wr.heap.size m.cells.toArray rfl rfl 41 [.int .u32 0, .int .u32 0, .int .u8 0, .string ⟨#[]⟩] (Blk.new _ _ _) sizeMb rfl rfl ?_))
        obtain ⟨w4, hw4⟩ : ∃ w4, (wr.alloc (.cells #[.int .u32 0, .int .u32 0, .int .u8 0, .string ⟨#[]⟩] 41)).setRow wr.heap.size m.cells.toArray = w4 := ⟨_, rfl⟩
        rw [hw4] at HM0 hbw
        have hbm := below_trans hb hbw
        have hob4 := own_below hob hbw
        have hBs : B ≤ w4.heap.size := by rw [← hB]; exact hbm.size
        obtain ⟨g, hg⟩ : ∃ g, wr.heap.size = g := ⟨_, rfl⟩
        rw [hg] at HM0
        have HM : Blk w4 g 41 m.cells := HM0
        obtain ⟨pre, hpre⟩ : ∃ pre, hdr k s t n ++ encs (l.take kk) = pre := ⟨_, rfl⟩
        rw [hpre] at hob4
        have hx := encs_snoc l kk m hmk
        have c2 := HM.cell 2 _ rfl
        have c3 := HM.cell 3 _ rfl
        have hMay := may_ w4 m.st (m.me.size : Int)
        rw [mayB_may] at hMay
        first | rw [hw4, hg] | rw [hw4] | skip
        clear HM0 hbw hob hcs hw4
        cases hmm : mayB m with
        | false =>
          rw [hmm] at hMay
          go_wp2_with (go_at_call 16; refine hMay.mono ?_; clear hMay; rintro e w' ⟨rfl, rfl⟩)
          go_ret2
          exact packP_no 170 (packE_may hh (by omega) hmk hmm) (by decide) rfl hbm
        | true =>
        rw [hmm] at hMay
        have hme : m.me.size ≤ 400 := by unfold mayB at hmm; simp at hmm; exact hmm.2
        have a0 := hm.a0
        have a1 := hm.a1
        have i0 := hm.i0
        have i1 := hm.i1
        have st0 := hm.s0
        have st1 := hm.s1
        have hw16 : IntKind.u16.wrap (m.me.size : Int) = (m.me.size : Int) := by rw [IntKind.wrap_u16]; omega
        obtain ⟨_, _, hee, HR⟩ := own_rd hob4
        cases hee
        go_upto_region 13 with (go_at_call 16; refine hMay.mono ?_; clear hMay; rintro e w' ⟨rfl, rfl⟩)
        clear c2 c3 hob4
        refine wp_region_growZ (by kernel_rfl) (by kernel_rfl) ?fr_p13 ?hfr_p13 (VV (p13c Ab nb cb g B m pre) (p13G Ab nb cb g B m pre)) (VV.stable (p13G_st Ab nb cb g B m pre)) ?hob_p13 ?hQ_p13
        case hfr_p13 =>
          intro xs
          simp only [fillL]
          go_simp
          exact rfl
        case hob_p13 =>
          refine ⟨?_, ?_, ?_, ?_, ?_, ?_, ?_, ?_, trivial⟩
          · -- 0: slot 49 := move t4
            intro xs W hb hA hZ
            have z7 : xs 7 = .slice Ab nb cb := hZ 7 _ _ (by kernel_rfl) rfl rfl
            clear hZ
            clear hA
            go_simp
            exact ⟨Below.refl _ _, rfl⟩
          · -- 1: slot 50 := fieldAddr 41 t6 0
            intro xs W hb hA hZ
            clear hZ
            clear hA
            go_simp
            exact ⟨Below.refl _ _, rfl⟩
          · -- 2: slot 51 := load 23 t50
            intro xs W hb hA hZ
            clear hZ
            have x1 : xs 1 = .pointer (some ⟨g, 0, none⟩) := hA 1 (by decide)
            clear hA
            have c0 := (HM.below hb).cell 0 _ rfl
            go_simp
            exact ⟨Below.refl _ _, rfl⟩
          · -- 3: slot 52 := call { value (Operand.func 15), args := #[t49, t51], argTypes := #[27, 22] }
            intro xs W hb hA hZ
            clear hZ
            have x0 : xs 0 = .slice Ab nb cb := hA 0 (by decide)
            have x2 : xs 2 = .int .u32 m.ad := hA 2 (by decide)
            clear hA
            go_simp
            refine (put32 _ nb _ m.ad (by omega) (by omega) (by omega) W _ (HR.below hb)).mono ?_
            rintro e w5 ⟨sv, rfl, ho5, hb5⟩
            rw [← bs_append] at ho5
            exact ⟨_, rfl, hb5, own_lower ho5 (Nat.le_trans hBs hb.size)⟩
          · -- 4: slot 53 := fieldAddr 41 t6 1
            intro xs W hb hA hZ
            clear hZ
            clear hA
            go_simp
            exact ⟨Below.refl _ _, rfl⟩
          · -- 5: slot 54 := load 22 t53
            intro xs W hb hA hZ
            clear hZ
            have x4 : xs 4 = .pointer (some ⟨g, 1, none⟩) := hA 4 (by decide)
            clear hA
            have c1 := (HM.below hb).cell 1 _ rfl
            go_simp
            exact ⟨Below.refl _ _, rfl⟩
          · -- 6: slot 55 := call { value (Operand.func 15), args := #[t52, t54], argTypes := #[27, 22] }
            intro xs W hb hA hZ
            clear hZ
            have g3 : (p13G Ab nb cb g B m pre 3 (xs 3) W) := hA 3 (by decide)
            have x5 : xs 5 = .int .u32 m.inc := hA 5 (by decide)
            obtain ⟨Ap, cp, e1, hr1⟩ := own_rd g3
            clear hA
            go_simp
            refine (put32 _ (nb + 4) _ m.inc (by omega) (by omega) (by omega) W _ hr1).mono ?_
            rintro e w5 ⟨sv, rfl, ho5, hb5⟩
            rw [← bs_append] at ho5
            exact ⟨_, rfl, hb5, own_lower ho5 (Nat.le_trans hBs hb.size)⟩
          · -- 7: slot 4 := assign t55
            intro xs W hb hA hZ
            clear hZ
            have g6 : (p13G Ab nb cb g B m pre 6 (xs 6) W) := hA 6 (by decide)
            clear hA
            go_simp
            exact ⟨Below.refl _ _, g6⟩
        case hQ_p13 =>
          intro xs W hb hV
          have x0 : xs 0 = .slice Ab nb cb := hV 0 (by decide)
          have x1 : xs 1 = .pointer (some ⟨g, 0, none⟩) := hV 1 (by decide)
          have x2 : xs 2 = .int .u32 m.ad := hV 2 (by decide)
          have x3 : p13G Ab nb cb g B m pre 3 (xs 3) W := hV 3 (by decide)
          have x4 : xs 4 = .pointer (some ⟨g, 1, none⟩) := hV 4 (by decide)
          have x5 : xs 5 = .int .u32 m.inc := hV 5 (by decide)
          have x6 : p13G Ab nb cb g B m pre 6 (xs 6) W := hV 6 (by decide)
          have x7 : p13G Ab nb cb g B m pre 7 (xs 7) W := hV 7 (by decide)
          clear hV
          obtain ⟨A5, c5, e5, HR5⟩ := own_rd x7
          rw [e5] at x7 ⊢
          have HM5 := HM.below hb
          have hb5 := below_trans hbm hb
          have hBs5 := Nat.le_trans hBs hb.size
          clear x0 x1 x2 x3 x4 x5 x6 HM HR e5 hb hbm hBs
          obtain ⟨n5, hnn⟩ : ∃ n5, nb + 4 + 4 = n5 := ⟨_, rfl⟩
          obtain ⟨p5, hp5⟩ : ∃ p5, pre ++ be 4 m.ad ++ be 4 m.inc = p5 := ⟨_, rfl⟩
          rw [hnn, hp5] at HR5
          rw [hnn]
          go_upto_region 14 with (fail)
          refine wp_region_growZ (by kernel_rfl) (by kernel_rfl) ?fr_p14 ?hfr_p14 (VV (p14c A5 n5 c5 g B m p5) (p14G A5 n5 c5 g B m p5)) (VV.stable (p14G_st A5 n5 c5 g B m p5)) ?hob_p14 ?hQ_p14
          case hfr_p14 =>
            intro xs
            simp only [fillL]
            go_simp
            exact rfl
          case hob_p14 =>
            refine ⟨?_, ?_, ?_, ?_, ?_, ?_, ?_, ?_, ?_, ?_, trivial⟩
            · -- 0: slot 56 := move t4
              intro xs W hb hA hZ
              have z9 : xs 9 = .slice A5 n5 c5 := hZ 9 _ _ (by kernel_rfl) rfl rfl
              clear hZ
              clear hA
              go_simp
              exact ⟨Below.refl _ _, rfl⟩
            · -- 1: slot 57 := fieldAddr 41 t6 2
              intro xs W hb hA hZ
              clear hZ
              clear hA
              go_simp
              exact ⟨Below.refl _ _, rfl⟩
            · -- 2: slot 58 := load 5 t57
              intro xs W hb hA hZ
              clear hZ
              have x1 : xs 1 = .pointer (some ⟨g, 2, none⟩) := hA 1 (by decide)
              clear hA
              have c2 := (HM5.below hb).cell 2 _ rfl
              go_simp
              exact ⟨Below.refl _ _, rfl⟩
            · -- 3: slot 59 := call { value (Operand.func 14), args := #[t56, t58], argTypes := #[27, 5] }
              intro xs W hb hA hZ
              clear hZ
              have x0 : xs 0 = .slice A5 n5 c5 := hA 0 (by decide)
              have x2 : xs 2 = .int .u8 m.st := hA 2 (by decide)
              clear hA
              go_simp
              refine (put8 _ n5 _ m.st (by omega) (by omega) (by omega) W _ (HR5.below hb)).mono ?_
              rintro e w5 ⟨sv, rfl, ho5, hb5⟩
              rw [← bs_append] at ho5
              exact ⟨_, rfl, hb5, own_lower ho5 (Nat.le_trans hBs5 hb.size)⟩
            · -- 4: slot 60 := fieldAddr 41 t6 3
              intro xs W hb hA hZ
              clear hZ
              clear hA
              go_simp
              exact ⟨Below.refl _ _, rfl⟩
            · -- 5: slot 61 := load 9 t60
              intro xs W hb hA hZ
              clear hZ
              have x4 : xs 4 = .pointer (some ⟨g, 3, none⟩) := hA 4 (by decide)
              clear hA
              have c3 := (HM5.below hb).cell 3 _ rfl
              go_simp
              exact ⟨Below.refl _ _, rfl⟩
            · -- 6: slot 62 := call { builtin len, args := #[t61], argTypes := #[9] }
              intro xs W hb hA hZ
              clear hZ
              have x5 : xs 5 = .string m.me := hA 5 (by decide)
              clear hA
              go_simp
              exact ⟨Below.refl _ _, rfl⟩
            · -- 7: slot 63 := convert 3 44 t62
              intro xs W hb hA hZ
              clear hZ
              have x6 : xs 6 = .int .i64 (m.me.size : Int) := hA 6 (by decide)
              clear hA
              go_simp
              exact ⟨Below.refl _ _, rfl⟩
            · -- 8: slot 64 := call { value (Operand.func 17), args := #[t59, t63], argTypes := #[27, 44] }
              intro xs W hb hA hZ
              clear hZ
              have g3 : (p14G A5 n5 c5 g B m p5 3 (xs 3) W) := hA 3 (by decide)
              have x7 : xs 7 = .int .u16 (m.me.size : Int) := hA 7 (by decide)
              obtain ⟨Ap, cp, e1, hr1⟩ := own_rd g3
              clear hA
              go_simp
              refine (put16 _ (n5 + 1) _ (m.me.size : Int) (by omega) (by omega) (by omega) W _ hr1).mono ?_
              rintro e w5 ⟨sv, rfl, ho5, hb5⟩
              rw [← bs_append] at ho5
              exact ⟨_, rfl, hb5, own_lower ho5 (Nat.le_trans hBs5 hb.size)⟩
            · -- 9: slot 4 := assign t64
              intro xs W hb hA hZ
              clear hZ
              have g8 : (p14G A5 n5 c5 g B m p5 8 (xs 8) W) := hA 8 (by decide)
              clear hA
              go_simp
              exact ⟨Below.refl _ _, g8⟩
          case hQ_p14 =>
            intro xs W hb hV
            have x0 : xs 0 = .slice A5 n5 c5 := hV 0 (by decide)
            have x1 : xs 1 = .pointer (some ⟨g, 2, none⟩) := hV 1 (by decide)
            have x2 : xs 2 = .int .u8 m.st := hV 2 (by decide)
            have x3 : p14G A5 n5 c5 g B m p5 3 (xs 3) W := hV 3 (by decide)
            have x4 : xs 4 = .pointer (some ⟨g, 3, none⟩) := hV 4 (by decide)
            have x5 : xs 5 = .string m.me := hV 5 (by decide)
            have x6 : xs 6 = .int .i64 (m.me.size : Int) := hV 6 (by decide)
            have x7 : xs 7 = .int .u16 (m.me.size : Int) := hV 7 (by decide)
            have x8 : p14G A5 n5 c5 g B m p5 8 (xs 8) W := hV 8 (by decide)
            have x9 : p14G A5 n5 c5 g B m p5 9 (xs 9) W := hV 9 (by decide)
            clear hV
            obtain ⟨A6, c6, e6, _⟩ := own_rd x9
            have x9 : W.ownsRow B 5 1 (xs 9) (n5 + 1 + 2) (bs (p5 ++ be 1 m.st ++ be 2 (m.me.size : Int))) := x9
            rw [e6] at x9 ⊢
            have hb6 := below_trans hb5 hb
            have cm := (HM5.below hb).cell 3 _ rfl
            have hBs6 := Nat.le_trans hBs5 hb.size
            clear x0 x1 x2 x3 x4 x5 x6 x7 x8 HM5 HR5 e6 hb hb5 hBs5
            rw [hB] at hb6
            go_wp2_with (at_builtin; refine wpList_app (w0 := w) _ B rfl _ _ 27 9 5 (.int .u8 0) 1 1 rfl Try.underlying27 info_u8 rfl (by omega) (by omega) _ (n5 + 1 + 2) _ rfl (.own x9) _ m.me.size _ rfl (.str Try.underlying9 Try.underlying27 info_u8 rfl m.me) hb6 hBs6 (by omega) ?_; intro v9 w9 _ ho9 hb9 hg9)
            have ho := ho9 (.inr x9)
            rw [← hB] at hb9
            clear ho9 x9 hb6
            obtain ⟨A9, c9, rfl, _⟩ := own_rd ho
            go_roundw
            case rel =>
              refine ⟨kk + 1, n5 + 1 + 2 + m.me.size, A9, c9, by omega, by go_num, rfl, ?_, by omega, fun j q hj hq => ?_, hb9⟩
              · rw [hx]
                rw [← bs_append, ← hp5, ← hpre] at ho
                simpa [enc, List.append_assoc] using ho
              · by_cases hjk : j < kk
                · exact hmay j q hjk hq
                · obtain rfl : j = kk := by omega
                  rw [hmk] at hq
                  cases hq
                  exact hmm
            case measure => simp [intOf]; omega
      · obtain rfl : kk = n := by omega
        have htk : l.take kk = l := by rw [← hl]; exact List.take_length
        rw [htk] at hob
        obtain ⟨_, _, hee, hr9⟩ := own_rd hob
        cases hee
        go_wp2
        go_ret2
        exact packP_ok (packE_ok hh (by omega) (fun j m hj => hmay j m (by rw [← hl]; exact (List.getElem?_eq_some_iff.1 hj).1) hj)) rfl (by rw [hl]) hr9 hb
end Go.Proofs.Ytijpfhgcdncmhaa
