/- The law DrawFair. -/
import Derived.Test.YtbcpnjgmbdhdkaaD3
import Derived.Test.YtbcpnjgmbdhdkaaDF
namespace Go.Proofs.Ytbcpnjgmbdhdkaa
open Go.RowKit Go.HL
set_option linter.unusedVariables false
set_option linter.unusedSimpArgs false

theorem info_ints : (Try.prog.info? 24).map (fun i => (i.zero, i.size, i.bytes)) = some (some (.slice none 0 0), 1, 24) := by kernel_rfl

/-- The rows that were made so far. -/
def Rws (wr : World) (n X : Nat) (vs : List Value) : Prop := ∀ i, i < X → ∃ b, vs[i]? = some (.slice (some ⟨b, 0, none⟩) n n) ∧ Arr 3 wr b (rowOf n i)
theorem Rws.below {wr w1 : World} {n X : Nat} {vs : List Value} (h : Rws wr n X vs) (hb : Below wr.heap.size wr w1) : Rws w1 n X vs := fun i hi => by
  obtain ⟨b, h1, h2⟩ := h i hi
  exact ⟨b, h1, h2.grown (row := none) ⟨hb.os, hb.tape, hb.output, hb.size, fun k hk _ => hb.block k hk⟩ (by simp)⟩
theorem own_arr_ne {w : World} {base n : Nat} {v : Value} {xs : List Value} {b : Nat} {l : List Int} (h : w.ownsRow base 24 1 v n xs) (ha : Arr 3 w b l) : some b ≠ v.ownBlock := by
  rcases h.2 with ⟨rfl, _⟩ | ⟨g, cap, cur, rfl, _, hh, _⟩
  · simp [Value.ownBlock]
  · intro e
    have : b = g := by simpa [Value.ownBlock] using e
    subst this
    unfold Arr at ha
    rw [ha] at hh
    injection hh with hh
    injection hh with _ ht
    exact absurd ht (by decide)
theorem Rws.grown {wr w1 : World} {n X : Nat} {vs : List Value} {base m : Nat} {v : Value} {xs : List Value} (h : Rws wr n X vs) (ho : wr.ownsRow base 24 1 v m xs) (hg : wr.grownBy w1 v.ownBlock) : Rws w1 n X vs := fun i hi => by
  obtain ⟨b, h1, h2⟩ := h i hi
  exact ⟨b, h1, h2.grown hg (own_arr_ne ho h2)⟩
theorem fac_le (n : Nat) (h : n < 7) : fac n ≤ 720 := by
  match n, h with
  | 0, _ => decide
  | 1, _ => decide
  | 2, _ => decide
  | 3, _ => decide
  | 4, _ => decide
  | 5, _ => decide
  | 6, _ => decide
theorem rowOf_len (n x : Nat) : (rowOf n x).length = n := (perm_sh (N := n) (n - 1) (upto n) (digs n x) 0 (perm_upto n) (by omega)).len

set_option maxRecDepth 100000 in
set_option maxHeartbeats 4000000 in
theorem drawFair_core (w : World) (k : Int) (n : Nat) (hk : k % 7 = (n : Int)) (hn : n < 7) (hk0 : 0 ≤ k) (hk1 : k < 256) :
    Calls Try.prog 4 #[.int .u8 k] w (Tells w (.bool true)) := by
  go_enter Try.func4, Try.ntmps4
  go_wp2
  go_loop [4, 5] (fun a i => ∃ j : Nat, 2 ≤ j ∧ (j ≤ n + 1 ∨ j = 2) ∧ i = .int .i64 j ∧ a = .int .i64 (fac (j - 1) : Nat)) (fun _ i => n + 1 - (intOf i).toNat)
  case atStart => exact ⟨2, by omega, by omega, rfl, rfl⟩
  case round =>
    obtain ⟨j, hj0, hj1, rfl, rfl⟩ := hrel
    by_cases hlt : j ≤ n
    · have hf := fac_le (j - 1) (by omega)
      have hs : fac (j + 1 - 1) = fac (j - 1) * j := by
        obtain ⟨q, rfl⟩ : ∃ q, j = q + 1 := ⟨j - 1, by omega⟩
        simp [fac, Nat.mul_comm]
      have hm : fac (j - 1) * j ≤ 5040 := Nat.le_trans (Nat.mul_le_mul hf (show j ≤ 7 by omega)) (by decide)
      obtain ⟨q, hq⟩ : ∃ q, fac (j - 1) = q := ⟨_, rfl⟩
      rw [hq] at hs hm ⊢
      have hm2 : ((q : Int) * (j : Int)) ≤ 5040 := by exact_mod_cast hm
      have hm3 : 0 ≤ ((q : Int) * (j : Int)) := Int.mul_nonneg (by omega) (by omega)
      have HS := Lib.hid hs
      clear hs hq hf hm
      go_wp2
      go_round
      case rel => exact ⟨j + 1, by omega, by omega, by go_num, by rw [HS.out]; congr 1⟩
      case measure => simp [intOf]; omega
    · have hall : fac (j - 1) = fac n := by
        rcases hj1 with h | h
        · rw [show j - 1 = n by omega]
        · subst h
          have hn2 : n = 0 ∨ n = 1 := by omega
          rcases hn2 with rfl | rfl <;> rfl
      rw [hall]
      clear hall
      have hf := fac_le n hn
      have hinj := fun x y => row_inj n x y hn
      have HI := Lib.hid hinj
      clear hinj
      obtain ⟨F, hF⟩ : ∃ F, fac n = F := ⟨_, rfl⟩
      have HF := Lib.hid hF
      rw [hF] at hf ⊢
      clear hF
      go_wp2
      go_loopw [6, 7] (fun seen x wr => ∃ (X : Nat) (vs : List Value), X ≤ F ∧ x = .int .i64 X ∧ wr.ownsRow w.heap.size 24 1 seen X vs ∧ Rws wr n X vs ∧ Below w.heap.size w wr) (fun _ x _ => F - (intOf x).toNat)
      case atStart => exact ⟨0, [], Nat.zero_le _, rfl, World.ownsRow_nil _ _ _ _, fun i hi => absurd hi (by omega), Below.refl _ _⟩
      case round =>
        obtain ⟨X, vs, hX, rfl, ho, hR, hb⟩ := hrel
        by_cases hXF : X < F
        · obtain ⟨wo, rfl⟩ : ∃ wo : World, wo = wr := ⟨_, rfl⟩
          go_wp2
          go_loopw [8, 9, 10] (fun lv rest i wq => ∃ (q R : Nat) (pre : List Int), q ≤ n ∧ R ≤ 720 ∧ i = .int .i64 q ∧ rest = .int .i64 R ∧ wq.ownsRow wo.heap.size 26 1 lv pre.length (us pre) ∧ pre.length ≤ n ∧ pre.length + q = n ∧ Hid (pre ++ digs q R = digs n X) ∧ Below wo.heap.size wo wq) (fun _ _ i _ => (intOf i).toNat)
          case atStart => exact ⟨n, X, [], Nat.le_refl _, by omega, rfl, rfl, World.ownsRow_nil _ _ _ _, by simp, by simp, rfl, Below.refl _ _⟩
          case round =>
            obtain ⟨q, R, pre, hq, hR720, rfl, rfl, hol, hpl, hpq, HD, hbq⟩ := hrel
            by_cases hq2 : 2 ≤ q
            · obtain ⟨i, rfl⟩ : ∃ i, q = i + 2 := ⟨q - 2, by omega⟩
              have hz := hbq.size
              have hm0 : ((R : Int) % ((i + 2 : Nat) : Int)) = ((R % (i + 2) : Nat) : Int) := by omega
              have hd0 : ((R : Int) / ((i + 2 : Nat) : Int)) = ((R / (i + 2) : Nat) : Int) := by omega
              have hml : R % (i + 2) < i + 2 := Nat.mod_lt _ (by omega)
              have hdl : R / (i + 2) ≤ 720 := Nat.le_trans (Nat.div_le_self _ _) hR720
              have HD2 : Hid ((pre ++ [((R % (i + 2) : Nat) : Int)]) ++ digs (i + 1) (R / (i + 2)) = digs n X) := by
                have := HD.out
                simp only [digs] at this
                show _ = _
                rw [← this]
                simp
              have hus : us (pre ++ [((R % (i + 2) : Nat) : Int)]) = us pre ++ [.int .u32 ((R % (i + 2) : Nat) : Int)] := by simp [us]
              have HU := Lib.hid hus
              obtain ⟨r, hr⟩ : ∃ r, R % (i + 2) = r := ⟨_, rfl⟩
              obtain ⟨d, hd⟩ : ∃ d, R / (i + 2) = d := ⟨_, rfl⟩
              rw [hr] at hm0 hml HD2 HU
              rw [hd] at hd0 hdl HD2
              clear hus hr hd HD
              have ei : ((i + 2 : Nat) : Int) = (i : Int) + 2 := by omega
              rw [ei] at hm0 hd0
              clear ei
              go_wp2_with (at_builtin; refine wpList_app1 (w0 := wo) wo.heap.size rfl _ _ 25 26 (.int .u32 0) 4 rfl Try.underlying25 info_u32 rfl (by omega) u8 pre.length _ _ rfl (.own hol) rfl rfl hbq hz (by omega) ?_; intro v3 w3 ho3 hb3 hg3)
              rw [← HU.out] at ho3
              go_roundw
              case rel => exact ⟨i + 1, d, pre ++ [(r : Int)], by omega, hdl, by go_num, rfl, by simpa using ho3, by simp; omega, by simp; omega, HD2, hb3⟩
              case measure => simp [intOf]; omega
            · have hdq : digs q R = [] := by
                have h2 : q = 0 ∨ q = 1 := by omega
                rcases h2 with rfl | rfl <;> rfl
              have hpre : pre = digs n X := by
                have := HD.out
                rw [hdq, List.append_nil] at this
                exact this
              clear HD hdq
              subst hpre
              have hq3 : (q : Int) < 2 := by omega
              obtain ⟨A1, c1, rfl, hr1⟩ := own_rd hol
              have hrow : rowN (n : Int) = n := by
                unfold rowN
                split
                · omega
                · rw [if_neg (by omega)]; omega
              have ht : (digs n X).take 4096 = digs n X := List.take_of_length_le (by omega)
              have hnew := new_ wr A1 (digs n X).length c1 (digs n X) hr1 (by omega)
              clear hr1
              have hbow : Below w.heap.size w wr := hb.trans ⟨hbq.os, hbq.tape, hbq.output, hbq.size, fun k hk => hbq.block k (by have := hb.size; omega)⟩
              go_wp2_with (go_at_call 10; refine hnew.mono ?_; rintro e w2 ⟨g, rfl, hg, hs2, hb2⟩)
              rw [ht] at hs2
              have hsh := shuffle_ w2 g (digs n X) 0 (n : Int) (by omega) (by omega) (digs_u32 n X (by omega)) hs2
              rw [hrow] at hsh
              clear hnew ht
              go_wp2_with (go_at_call 11; refine hsh.mono ?_; rintro e w3 ⟨rfl, ha3, _, _, _, hg3⟩)
              clear hsh
              have hB3 : Below wo.heap.size wo w3 := (below_trans hbq hb2).grown hg3 (Nat.le_trans hbq.size hb2.size) (fun k hk => by cases hk; have := hbq.size; omega)
              have hBw : Below w.heap.size w w3 := below_trans hb hB3
              have ho3 := own_below ho hB3
              have hR3 := hR.below hB3
              have hne := fun i (hi : i < X) => mt (HI.out i X (by rw [HF.out]; omega) (by rw [HF.out]; omega)) (show i ≠ X by omega)
              clear ho hR hb hol hbq hbow hb2 hg3 hs2 hg hB3 HI
              have hzw := hBw.size
              have hrl := rowOf_len n X
              obtain ⟨RX, hRX⟩ : ∃ RX, rowOf n X = RX := ⟨_, rfl⟩
              have ha3 : Ar w3 w2.heap.size (rowOf n X) := ha3
              rw [hRX] at ha3 hrl
              simp only [hRX] at hne
              have HRX := Lib.hid hRX
              have HNE := Lib.hid hne
              clear hRX hne
              obtain ⟨As, cs, rfl, hrs⟩ := own_rd ho3
              obtain ⟨wp, rfl⟩ : ∃ wp : World, wp = wr := ⟨_, rfl⟩
              go_loopw [12] (fun i wr => ∃ p : Nat, p ≤ X ∧ i = .int .i64 p ∧ Below w3.heap.size w3 wr) (fun i _ => X - (intOf i).toNat)
              case atStart => exact ⟨0, Nat.zero_le _, rfl, Below.refl _ _⟩
              case round =>
                obtain ⟨p, hp, rfl, hbp⟩ := hrel
                by_cases hpX : p < X
                · cases As with
                  | none => have := (hrs.nil_ rfl).1; omega
                  | some ad =>
                  obtain ⟨b, hv, ha⟩ := (hR3.below hbp) p hpX
                  have hc := (hrs.below hbp).cells ad rfl p _ hv
                  have hrl2 := rowOf_len n p
                  have har := ha.rd
                  rw [hrl2] at har
                  have hax := (Arr.grown (row := none) ha3 ⟨hbp.os, hbp.tape, hbp.output, hbp.size, fun i hi _ => hbp.block i hi⟩ (by simp)).rd
                  rw [hrl] at hax
                  have hii := ints_ wr _ _ _ _ _ _ _ _ har hax (by omega)
                  have hdf : decide (rowOf n p = RX) = false := decide_eq_false (HNE.out p hpX)
                  rw [hdf] at hii
                  clear hdf hax har hrl2 ha hv
                  go_wp2_with (go_at_call 9; refine hii.mono ?_; rintro e w4 ⟨rfl, hb4⟩)
                  go_roundw
                  case rel => exact ⟨p + 1, by omega, by go_num, below_trans hbp hb4⟩
                  case measure => simp [intOf]; omega
                · obtain rfl : p = X := by omega
                  have hBr := below_trans hBw hbp
                  have hor := own_below ho3 hbp
                  have hRr := hR3.below hbp
                  have har := Arr.grown (row := none) ha3 ⟨hbp.os, hbp.tape, hbp.output, hbp.size, fun i hi _ => hbp.block i hi⟩ (by simp)
                  clear hbp ho3 hR3 ha3 hBw hrs HNE
                  go_wp2_with (at_builtin; refine wpList_app1 (w0 := w) w.heap.size rfl _ _ 32 24 (.slice none 0 0) 24 rfl Try.underlying32 info_ints rfl (by omega) (.slice As p cs) p _ _ rfl (.own hor) rfl rfl hBr hBr.size (by omega) ?_; intro v5 w5 ho5 hb5 hg5)
                  go_roundw
                  case rel =>
                    refine ⟨p + 1, _, by omega, by go_num, ho5, ?_, hb5⟩
                    have hvl : vs.length = p := by have := hor.1; omega
                    intro i hi
                    by_cases hip : i < p
                    · obtain ⟨b, h1, h2⟩ := hRr.grown hor hg5 i hip
                      exact ⟨b, by rw [List.getElem?_append_left (by omega)]; exact h1, h2⟩
                    · obtain rfl : i = p := by omega
                      refine ⟨w2.heap.size, by rw [List.getElem?_append_right (by omega), hvl, Nat.sub_self]; rfl, ?_⟩
                      exact har.grown hg5 (own_arr_ne hor har)
                  case measure => simp [intOf]; omega
        · obtain rfl : X = F := by omega
          obtain ⟨As, cs, rfl, hrs⟩ := own_rd ho
          go_wp2_with (go_at_call 8; refine (wakes _).mono ?_; rintro e w5 ⟨rfl, hb5⟩)
          go_ret
          exact ⟨rfl, below_trans hb hb5⟩
theorem drawFair_walk (w : World) (k : Int) (h0 : 0 ≤ k) (h1 : k < 256) : Calls Try.prog 4 #[.int .u8 k] w (Tells w (.bool true)) :=
  drawFair_core w k (k % 7).toNat (by omega) (by omega) h0 h1
end Go.Proofs.Ytbcpnjgmbdhdkaa
