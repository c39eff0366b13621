/- gossip: are two packets the same? -/
import Derived.Test.YtijpfhgcdncmhaaGC
namespace Go.Proofs.Ytijpfhgcdncmhaa
open Go.RowKit Go.HL
set_option linter.unusedVariables false
set_option linter.unusedSimpArgs false

deriving instance DecidableEq for Mb
def mbEq (m q : Mb) : Bool := m.ad == q.ad && m.inc == q.inc && m.st == q.st && m.me.toList == q.me.toList
theorem mbEq_iff (m q : Mb) : mbEq m q = decide (m = q) := by
  unfold mbEq
  cases m with | mk a b c d => cases q with | mk a' b' c' d' =>
  simp only [Mb.mk.injEq]
  have : (d.toList == d'.toList) = decide (d = d') := by
    rw [ByteArray.toList_eq, ByteArray.toList_eq]
    by_cases h : d = d'
    · subst h; simp
    · rw [decide_eq_false h]
      exact beq_eq_false_iff_ne.2 (fun e => h (Go.WideShapes.bytes_inj e))
  rw [this]
  by_cases h1 : a = a' <;> by_cases h2 : b = b' <;> by_cases h3 : c = c' <;> by_cases h4 : d = d' <;> simp [h1, h2, h3, h4]
def e6c (ad ad' : Addr) (n c c' k : Nat) (m q : Mb) : List (Option Value) :=
  [some (.slice (some ad) n c),
   some (.int .i64 (k : Int)),
   some (.pointer (some (ad.add (k * 4)))),
   some ((.agg #[.int .u32 m.ad, .int .u32 m.inc, .int .u8 m.st, .string m.me])),
   some (.slice (some ad') n c'),
   some (.int .i64 (k : Int)),
   some (.pointer (some (ad'.add (k * 4)))),
   some ((.agg #[.int .u32 q.ad, .int .u32 q.inc, .int .u8 q.st, .string q.me])),
   some (.bool (!mbEq m q))]
def e6G (ad ad' : Addr) (n c c' k : Nat) (m q : Mb) : Nat → Value → World → Prop
  | _, _, _ => True
theorem e6G_st (ad ad' : Addr) (n c c' k : Nat) (m q : Mb) : ∀ j u W W', Below W.heap.size W W' → e6G ad ad' n c c' k m q j u W → e6G ad ad' n c c' k m q j u W' := by
  intro j u W W' hb h
  unfold e6G at h ⊢
  split at h
  · trivial
theorem equal_len (w : World) (A A' : Option Addr) (n c n' c' : Nat) (l l' : List Mb) (hr : Rd w 4 A n c (mbs l)) (hr' : Rd w 4 A' n' c' (mbs l')) (h : n ≠ n') :
    Calls Try.prog 21 #[.slice A n c, .slice A' n' c'] w (Tells w (.bool (decide (l = l')))) := by
  have hl := Rd.mbs hr
  have hl' := Rd.mbs hr'
  have h2 : ((n : Int) != (n' : Int)) = true := by simp; omega
  have hf : decide (l = l') = false := decide_eq_false (fun e => h (by rw [← hl, ← hl', e]))
  rw [hf]
  go_enter Try.func21, Try.ntmps21
  go_wp2
  go_ret
  exact ⟨rfl, Below.refl _ _⟩
set_option maxHeartbeats 2000000 in
theorem equal_same (w : World) (A A' : Option Addr) (n c c' : Nat) (l l' : List Mb) (hr : Rd w 4 A n c (mbs l)) (hr' : Rd w 4 A' n c' (mbs l')) (hn : n ≤ 140737488355328) :
    Calls Try.prog 21 #[.slice A n c, .slice A' n c'] w (Tells w (.bool (decide (l = l')))) := by
  have hl := Rd.mbs hr
  have hl' := Rd.mbs hr'
  go_enter Try.func21, Try.ntmps21
  go_wp2
  go_loopw [5] (fun i wr => ∃ k : Nat, k ≤ n ∧ i = .int .i64 k ∧ l.take k = l'.take k ∧ Below w.heap.size w wr) (fun i _ => n - (intOf i).toNat)
  case atStart => exact ⟨0, Nat.zero_le _, rfl, rfl, Below.refl _ _⟩
  case round =>
    obtain ⟨k, hk, rfl, he, hb0⟩ := hrel
    by_cases hlt : k < n
    · cases A with
      | none => have := (hr.nil_ rfl).1; omega
      | some ad =>
      cases A' with
      | none => have := (hr'.nil_ rfl).1; omega
      | some ad' =>
      obtain ⟨m, hm⟩ : ∃ m, l[k]? = some m := ⟨l[k], List.getElem?_eq_getElem (by omega)⟩
      obtain ⟨q, hq⟩ : ∃ q, l'[k]? = some q := ⟨l'[k], List.getElem?_eq_getElem (by omega)⟩
      have hC := Rd.mb (hr.below hb0) k m hm
      have hD := Rd.mb (hr'.below hb0) k q hq
      have ht : l.take (k + 1) = l.take k ++ [m] := by rw [List.take_add_one, hm]; rfl
      have ht' : l'.take (k + 1) = l'.take k ++ [q] := by rw [List.take_add_one, hq]; rfl
      have HC : ∀ W, Below wr.heap.size wr W → Cells W (ad.add (k * 4)) m.cells := fun W h => Rd.mb ((hr.below hb0).below h) k m hm
      have HD : ∀ W, Below wr.heap.size wr W → Cells W (ad'.add (k * 4)) q.cells := fun W h => Rd.mb ((hr'.below hb0).below h) k q hq
      have hkc : k < c := by have := hr.le; omega
      have hkc' : k < c' := by have := hr'.le; omega
      have hi1 : (k : Int) < (n : Int) := by omega
      have hi0 : (0 : Int) ≤ (k : Int) := by omega
      go_upto_region 6 with (fail)
      refine wp_region_grow (by kernel_rfl) (by kernel_rfl) ?fr_e6 ?hfr_e6 (VV (e6c ad ad' n c c' k m q) (e6G ad ad' n c c' k m q)) (VV.stable (e6G_st ad ad' n c c' k m q)) ?hob_e6 ?hQ_e6
      case hfr_e6 =>
        intro xs
        simp only [fillL]
        go_simp
        exact rfl
      case hob_e6 =>
        refine ⟨?_, ?_, ?_, ?_, ?_, ?_, ?_, ?_, ?_, trivial⟩
        · -- 0: slot 17 := move t0
          intro xs W hb hA
          clear hA
          go_simp
          exact ⟨Below.refl _ _, rfl⟩
        · -- 1: slot 18 := move t5
          intro xs W hb hA
          clear hA
          go_simp
          exact ⟨Below.refl _ _, rfl⟩
        · -- 2: slot 19 := indexAddr 24 t17 t18
          intro xs W hb hA
          have x0 : xs 0 = .slice (some ad) n c := hA 0 (by decide)
          have x1 : xs 1 = .int .i64 (k : Int) := hA 1 (by decide)
          clear hA
          go_simp
          exact ⟨Below.refl _ _, rfl⟩
        · -- 3: slot 20 := load 41 t19
          intro xs W hb hA
          have x2 : xs 2 = .pointer (some (ad.add (k * 4))) := hA 2 (by decide)
          show OpGives _ _ _ _ _
          refine gives_getAt 41 _ rfl _ x2 m.cells _ (HC W hb) Try.underlying41 rfl sizeMb ?_
          exact ⟨Below.refl _ _, rfl⟩
        · -- 4: slot 21 := move t1
          intro xs W hb hA
          clear hA
          go_simp
          exact ⟨Below.refl _ _, rfl⟩
        · -- 5: slot 22 := move t5
          intro xs W hb hA
          clear hA
          go_simp
          exact ⟨Below.refl _ _, rfl⟩
        · -- 6: slot 23 := indexAddr 24 t21 t22
          intro xs W hb hA
          have x4 : xs 4 = .slice (some ad') n c' := hA 4 (by decide)
          have x5 : xs 5 = .int .i64 (k : Int) := hA 5 (by decide)
          clear hA
          go_simp
          exact ⟨Below.refl _ _, rfl⟩
        · -- 7: slot 24 := load 41 t23
          intro xs W hb hA
          have x6 : xs 6 = .pointer (some (ad'.add (k * 4))) := hA 6 (by decide)
          show OpGives _ _ _ _ _
          refine gives_getAt 41 _ rfl _ x6 q.cells _ (HD W hb) Try.underlying41 rfl sizeMb ?_
          exact ⟨Below.refl _ _, rfl⟩
        · -- 8: slot 25 := binOp BinOp.neq 41 t20 t24 41
          intro xs W hb hA
          have x3 : xs 3 = (.agg #[.int .u32 m.ad, .int .u32 m.inc, .int .u8 m.st, .string m.me]) := hA 3 (by decide)
          have x7 : xs 7 = (.agg #[.int .u32 q.ad, .int .u32 q.inc, .int .u8 q.st, .string q.me]) := hA 7 (by decide)
          clear hA
          by_cases e0 : m.ad = q.ad <;> by_cases e1 : m.inc = q.inc <;> by_cases e2 : m.st = q.st <;> by_cases e3 : m.me.toList = q.me.toList <;> (go_simp; exact ⟨Below.refl _ _, by simp [VV, e6c, mbEq, e0, e1, e2, e3]⟩)
      case hQ_e6 =>
        intro xs W hb hV
        have x0 : xs 0 = .slice (some ad) n c := hV 0 (by decide)
        have x1 : xs 1 = .int .i64 (k : Int) := hV 1 (by decide)
        have x2 : xs 2 = .pointer (some (ad.add (k * 4))) := hV 2 (by decide)
        have x3 : xs 3 = (.agg #[.int .u32 m.ad, .int .u32 m.inc, .int .u8 m.st, .string m.me]) := hV 3 (by decide)
        have x4 : xs 4 = .slice (some ad') n c' := hV 4 (by decide)
        have x5 : xs 5 = .int .i64 (k : Int) := hV 5 (by decide)
        have x6 : xs 6 = .pointer (some (ad'.add (k * 4))) := hV 6 (by decide)
        have x7 : xs 7 = (.agg #[.int .u32 q.ad, .int .u32 q.inc, .int .u8 q.st, .string q.me]) := hV 7 (by decide)
        have x8 : xs 8 = .bool (!mbEq m q) := hV 8 (by decide)
        clear hV
        rw [x8]
        have hbW := below_trans hb0 hb
        clear x0 x1 x2 x3 x4 x5 x6 x7 x8 HC HD hC hD hr hr'
        rw [mbEq_iff]
        by_cases hmq : m = q
        · rw [decide_eq_true hmq]
          go_wp2
          go_roundw
          case rel => exact ⟨k + 1, hlt, by go_num, by rw [ht, ht', he, hmq], hbW⟩
          case measure => simp [intOf]; omega
        · have hf : decide (l = l') = false := decide_eq_false (fun h => by
            rw [h, hq] at hm
            cases hm
            exact hmq rfl)
          rw [decide_eq_false hmq, Bool.not_false]
          go_wp2
          go_ret
          exact ⟨by rw [hf]; rfl, hbW⟩
    · obtain rfl : k = n := by omega
      have hf : decide (l = l') = true := decide_eq_true (by
        rw [List.take_of_length_le (by omega), List.take_of_length_le (by omega)] at he
        exact he)
      clear he
      go_wp2
      go_ret
      exact ⟨by rw [hf]; rfl, hb0⟩
theorem equal_ (w : World) (A A' : Option Addr) (n c n' c' : Nat) (l l' : List Mb) (hr : Rd w 4 A n c (mbs l)) (hr' : Rd w 4 A' n' c' (mbs l')) (hn : n ≤ 140737488355328) :
    Calls Try.prog 21 #[.slice A n c, .slice A' n' c'] w (Tells w (.bool (decide (l = l')))) := by
  by_cases h : n = n'
  · subst h
    exact equal_same w A A' n c c' l l' hr hr' hn
  · exact equal_len w A A' n c n' c' l l' hr hr' h
def sameB (k s t : Int) (l : List Mb) (k' s' t' : Int) (l' : List Mb) : Bool := decide (k = k') && (decide (s = s') && (decide (t = t') && decide (l = l')))
theorem sameB_self (k s t : Int) (l : List Mb) : sameB k s t l k s t l = true := by simp [sameB]
set_option maxHeartbeats 2000000 in
theorem same_ (w : World) (k s t : Int) (A : Option Addr) (n c : Nat) (l : List Mb) (k' s' t' : Int) (A' : Option Addr) (n' c' : Nat) (l' : List Mb) (hr : Rd w 4 A n c (mbs l)) (hr' : Rd w 4 A' n' c' (mbs l')) (hn : n ≤ 140737488355328) :
    Calls Try.prog 9 #[pkVal k s t A n c, pkVal k' s' t' A' n' c'] w (Tells w (.bool (sameB k s t l k' s' t' l'))) := by
  have hb : Below w.heap.size w ((w.alloc (.cells (pkCells k s t A n c).toArray 26)).alloc (.cells (pkCells k' s' t' A' n' c').toArray 26)) := below_alloc (below_new w _) _
  have hE := equal_ _ A A' n c n' c' l l' (hr.below hb) (hr'.below hb) hn
  have h0 := (Blk.new w 26 (pkCells k s t A n c).toArray).alloc (.cells (pkCells k' s' t' A' n' c').toArray 26)
  have h1 := Blk.new (w.alloc (.cells (pkCells k s t A n c).toArray 26)) 26 (pkCells k' s' t' A' n' c').toArray
  rw [World.size_alloc] at h1
  have a0 := h0.cell 0 _ rfl
  have a1 := h0.cell 1 _ rfl
  have a2 := h0.cell 2 _ rfl
  have a3 := h0.cell 3 _ rfl
  have b0 := h1.cell 0 _ rfl
  have b1 := h1.cell 1 _ rfl
  have b2 := h1.cell 2 _ rfl
  have b3 := h1.cell 3 _ rfl
  clear h0 h1
  unfold pkVal
  unfold sameB
  by_cases e0 : k = k'
  · by_cases e1 : s = s'
    · by_cases e2 : t = t'
      · rw [decide_eq_true e0, decide_eq_true e1, decide_eq_true e2, Bool.true_and, Bool.true_and, Bool.true_and]
        subst e0; subst e1; subst e2
        go_enter Try.func9, Try.ntmps9
        go_wp2_with (go_at_call 21; refine hE.mono ?_; rintro e w1 ⟨rfl, hb1⟩)
        go_ret
        exact ⟨rfl, below_trans hb hb1⟩
      · rw [decide_eq_true e0, decide_eq_true e1, decide_eq_false e2, Bool.true_and, Bool.true_and, Bool.false_and]
        subst e0; subst e1
        go_enter Try.func9, Try.ntmps9
        go_wp2
        go_ret
        exact ⟨rfl, hb⟩
    · rw [decide_eq_true e0, decide_eq_false e1, Bool.true_and, Bool.false_and]
      subst e0
      go_enter Try.func9, Try.ntmps9
      go_wp2
      go_ret
      exact ⟨rfl, hb⟩
  · rw [decide_eq_false e0, Bool.false_and]
    go_enter Try.func9, Try.ntmps9
    go_wp2
    go_ret
    exact ⟨rfl, hb⟩
end Go.Proofs.Ytijpfhgcdncmhaa
