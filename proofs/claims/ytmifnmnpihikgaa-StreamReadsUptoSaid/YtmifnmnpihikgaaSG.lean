/- stream: StreamAll. -/
import Derived.Test.YtmifnmnpihikgaaSE
namespace Go.Proofs.Ytmifnmnpihikgaa
open Go.RowKit Go.HL
set_option linter.unusedVariables false
set_option linter.unusedSimpArgs false

def szs (l : List (List UInt8)) : Nat := (l.map fun x => x.length).sum
def tolds (l : List (List UInt8)) : Nat := (l.map fun x => 2 + x.length).sum
theorem tolds_snoc (l : List (List UInt8)) (x : List UInt8) : tolds (l ++ [x]) = tolds l + 2 + x.length := by simp [tolds]; omega
theorem szs_take (l : List (List UInt8)) (j : Nat) (x : List UInt8) (h : l[j]? = some x) : szs (l.take (j + 1)) = szs (l.take j) + x.length := by
  rw [List.take_add_one, h]
  simp [szs]
theorem tolds_take (l : List (List UInt8)) (j : Nat) (x : List UInt8) (h : l[j]? = some x) : tolds (l.take (j + 1)) = tolds (l.take j) + 2 + x.length := by
  rw [List.take_add_one, h]
  simp [tolds]
  omega
theorem tolds_le (l : List (List UInt8)) (k : Nat) : tolds (l.take k) ≤ tolds l := by
  conv => rhs; rw [← List.take_append_drop k l]
  unfold tolds
  rw [List.map_append, List.sum_append]
  omega
theorem cut_tolds (l : List UInt8) : tolds (cut l).1 + (cut l).2.length = l.length := cut_total l
/-- Rows of bytes that read as these. -/
structure Mss (W : World) (A : Option Addr) (n c : Nat) (X : List Ms) : Prop where
  r : Rd W 1 A n c (X.map Ms.val)
  m : ∀ m ∈ X, MsOk W m
theorem Mss.len {W : World} {A : Option Addr} {n c : Nat} {X : List Ms} (h : Mss W A n c X) : X.length = n := by have := h.r.len; simp at this; exact this
theorem Mss.below {W W' : World} {A : Option Addr} {n c : Nat} {X : List Ms} (h : Mss W A n c X) (hb : Below W.heap.size W W') : Mss W' A n c X := ⟨h.r.below hb, fun m hm => Rd.below (h.m m hm) hb⟩
theorem Mss.at {W : World} {ad : Addr} {n c : Nat} {X : List Ms} (h : Mss W (some ad) n c X) (j : Nat) (m : Ms) (hm : X[j]? = some m) : W.cell? (ad.add j) = some (.slice m.a m.n m.c) := by
  have := h.r.cells ad rfl j m.val (by simp [hm])
  exact this
theorem feed_below {w W W' : World} {R : Nat} (hb : Below w.heap.size w W) (hR : w.heap.size ≤ R) (hg : W.grownBy W' (some R)) : Below w.heap.size w W' := hb.grown hg hb.size (fun k hk => by cases hk; exact hR)
set_option maxRecDepth 100000 in
set_option maxHeartbeats 4000000 in
theorem streamAll_in (w : World) (A : Option Addr) (n c : Nat) (X : List Ms) (hX : Mss w A n c X) (hn : n ≤ 50) :
    Calls Try.prog 6 #[.slice A n c] w (Tells w (.bool true)) := by
  have hXn := hX.len
  have hn' : ¬ (50 : Int) < (n : Int) := by omega
  have hnc := hX.r.le
  have hR0 := Boxed.new w 48 (.slice none 0 0)
  have hb0 := below_new w (.cells #[.slice none 0 0] 48)
  obtain ⟨R, hRR⟩ : ∃ x, w.heap.size = x := ⟨_, rfl⟩
  have HXN := Lib.hid hXn
  clear hXn
  go_enter Try.func6, Try.ntmps6
  go_wp2_with (go_at_call 9; refine (newReader_ _).mono ?_; rintro e w' ⟨rfl, rfl⟩)
  rw [hRR] at hR0
  obtain ⟨W0, hW⟩ : ∃ x, w.alloc (.cells #[.slice none 0 0] 48) = x := ⟨_, rfl⟩
  rw [hW] at hR0 hb0 ⊢
  clear hW
  go_loopw [4, 5, 6] (fun u4 u5 u6 wr => ∃ (j told : Nat) (Aw : Option Addr) (nw cw : Nat) (lw : List UInt8), j ≤ n ∧ u6 = .int .i64 j ∧ u5 = .int .i64 told ∧ u4 = .int .i64 (szs ((X.map Ms.l).take j) : Nat) ∧ szs ((X.map Ms.l).take j) ≤ 65536 * j ∧ told + lw.length = szs ((X.map Ms.l).take j) ∧ lw.length < 65538 ∧ Boxed wr R 48 (.slice Aw nw cw) ∧ Rd wr 1 Aw nw cw (bs lw) ∧ Below w.heap.size w wr) (fun _ _ u6 _ => n - (intOf u6).toNat)
  case atStart => exact ⟨0, 0, none, 0, 0, [], Nat.zero_le _, rfl, rfl, rfl, by simp [szs], by simp [szs], by decide, hR0, Rd.nil _ _, hb0⟩
  case round =>
    obtain ⟨j, told, Aw, nw, cw, lw, hj, rfl, rfl, rfl, hs1, hs2, hs3, hbx, hrw, hbr⟩ := hrel
    have hXr := hX.below hbr
    have hlw := Rd.blen hrw
    obtain ⟨S, hS⟩ : ∃ S, szs ((X.map Ms.l).take j) = S := ⟨_, rfl⟩
    rw [hS] at hs1 hs2 ⊢
    have HS := Lib.hid hS
    clear hS
    by_cases hlt : j < n
    · have hlt' : (j : Int) < (n : Int) := by omega
      obtain ⟨m, hm⟩ : ∃ m, X[j]? = some m := ⟨_, List.getElem?_eq_getElem (by have := HXN.out; omega)⟩
      obtain ⟨ad, rfl⟩ : ∃ a, A = some a := by
        cases A with
        | none => have := (hX.r.nil_ rfl).1; omega
        | some a => exact ⟨a, rfl⟩
      have hcj := hXr.at j m hm
      have hmo := hXr.m m (List.mem_of_getElem? hm)
      have hml := hmo.len
      have hst := szs_take (X.map Ms.l) j m.l (by simp [hm])
      rw [HS.out] at hst
      have HST := Lib.hid hst
      have HLW := Lib.hid hlw
      have HML := Lib.hid hml
      have HS2 := Lib.hid hs2
      clear hst hlw hml hs2
      by_cases hbig : 65536 < m.n
      · have hbig' : (65536 : Int) < (m.n : Int) := by omega
        go_wp2_with (go_at_call 8; refine (wakes _).mono ?_; rintro e w7 ⟨rfl, hb7⟩)
        go_ret
        exact ⟨rfl, below_trans hbr hb7⟩
      · have hbig' : ¬ (65536 : Int) < (m.n : Int) := by omega
        have hf := feed_ wr R Aw nw cw lw m.a m.n m.c m.l hbx hrw hmo (by have := HLW.out; omega)
        unfold FeedP at hf
        have HF := Lib.hid hf
        clear hf
        go_upto_region 14 with (go_at_call 10; refine HF.out.mono ?_; rintro e w2 ⟨Y, v, r, rfl, ho, hY, hYl, hR2, hor, hg2⟩)
        obtain ⟨Av, cv, rfl, hrv⟩ := own_rd ho
        obtain ⟨Ar, cr, rfl, hrr⟩ := own_rd hor
        have hct := cut_tolds (lw ++ m.l)
        have hrest := cut_rest (lw ++ m.l)
        rw [List.length_append] at hct
        rw [← hYl] at hct
        obtain ⟨lr, hlr⟩ : ∃ x, (cut (lw ++ m.l)).2 = x := ⟨_, rfl⟩
        rw [hlr] at hct hrest hrr hor hR2
        obtain ⟨nr, hnr⟩ : ∃ x, lr.length = x := ⟨_, rfl⟩
        rw [hnr] at hct hrest hrr hor hR2
        have hb2 := feed_below hbr (show w.heap.size ≤ R by omega) hg2
        have HCT := Lib.hid hct
        have HNR := Lib.hid hnr
        have hYT : tolds (Y.map Ms.l) ≤ 131074 := by have := HLW.out; have := HML.out; omega
        have hYm : ∀ k y, Y[k]? = some y → MsOk w2 y := fun k y hk => (hY y (List.mem_of_getElem? hk)).1
        have HYM := Lib.hid hYm
        clear hct hnr hlr hY hYl ho hYm HF
        have hl2 := left_ w2 R Ar nr cr hR2.cell
        have HL2 := Lib.hid hl2
        clear hl2
        have htold : told ≤ 3276800 := by have := HS2.out; omega
        go_wp2
        go_loop [5, 9] (fun u5 u9 => ∃ k told2 : Nat, k ≤ Y.length ∧ u9 = .int .i64 k ∧ u5 = .int .i64 told2 ∧ told2 = told + tolds ((Y.map Ms.l).take k)) (fun _ u9 => Y.length - (intOf u9).toNat)
        case atStart => exact ⟨0, told, Nat.zero_le _, rfl, rfl, by simp [tolds]⟩
        case round =>
          obtain ⟨k, told2, hk, rfl, rfl, ht2⟩ := hrel
          have htl := tolds_le (Y.map Ms.l) k
          have htb : told2 ≤ 3407874 := by omega
          have HT2 := Lib.hid ht2
          clear ht2
          by_cases hky : k < Y.length
          · have hky' : (k : Int) < (Y.length : Int) := by omega
            obtain ⟨y, hy⟩ : ∃ y, Y[k]? = some y := ⟨_, List.getElem?_eq_getElem hky⟩
            obtain ⟨av, rfl⟩ : ∃ a, Av = some a := by
              cases Av with
              | none => have := (hrv.nil_ rfl).1; omega
              | some a => exact ⟨a, rfl⟩
            have hyc := hrv.cells av rfl k y.val (by simp [hy])
            unfold Ms.val at hyc
            have hyl := (HYM.out k y hy).len
            have hst2 := tolds_take (Y.map Ms.l) k y.l (by simp [hy])
            have htl2 := tolds_le (Y.map Ms.l) (k + 1)
            have hyn : y.n ≤ 131074 := by omega
            have HST2 := Lib.hid hst2
            have HYL := Lib.hid hyl
            have hlen63 : (Y.length : Int) ≤ 9223372036854775807 := by
              have := hrv.le
              have h2 : Y.length ≤ 131074 := by
                have h3 : ∀ q : List (List UInt8), q.length ≤ tolds q := by
                  intro q
                  induction q with
                  | nil => simp
                  | cons a q ih => simp [tolds] at ih ⊢; omega
                have := h3 (Y.map Ms.l)
                simp at this
                omega
              omega
            clear hst2 hyl htl2
            go_wp2
            go_round
            case rel => exact ⟨k + 1, told2 + 2 + y.n, by omega, by go_num, by go_num, by have := HST2.out; have := HT2.out; have := HYL.out; omega⟩
            case measure => simp [intOf]; omega
          · have hky' : ¬ (k : Int) < (Y.length : Int) := by omega
            have hfin : told2 + nr = S + m.n := by
              have h1 := HCT.out
              have h2 := HT2.out
              have h3 := HS2.out
              have h4 := HML.out
              rw [List.take_of_length_le (by simp; omega)] at h2
              omega
            have hne : ((told2 : Int) + (nr : Int) != (S : Int) + (m.n : Int)) = false := by
              have : (told2 : Int) + (nr : Int) = (S : Int) + (m.n : Int) := by omega
              rw [this]
              simp
            have HFIN := Lib.hid hfin
            clear hfin
            go_wp2_with (go_at_call 13; refine HL2.out.mono ?_; rintro e w' ⟨rfl, rfl⟩)
            go_roundw
            case rel => exact ⟨j + 1, told2, Ar, nr, cr, lr, by omega, by go_num, rfl, by rw [HST.out, HML.out]; go_num, by rw [HST.out, HML.out]; omega, by rw [HST.out, HML.out, HNR.out]; exact HFIN.out, by rw [HNR.out]; exact hrest, hR2, hrr, hb2⟩
            case measure => simp [intOf]; omega
    · have hlt' : ¬ (j : Int) < (n : Int) := by omega
      go_wp2_with (go_at_call 8; refine (wakes _).mono ?_; rintro e w7 ⟨rfl, hb7⟩)
      go_ret
      exact ⟨rfl, below_trans hbr hb7⟩
theorem streamAll_walk (w : World) (A : Option Addr) (n c : Nat) (X : List Ms) (hX : Mss w A n c X) (hXc : ∀ m ∈ X, m.c ≤ 140737488351232) :
    Calls Try.prog 6 #[.slice A n c] w (Tells w (.bool true)) := by
  by_cases h : n ≤ 50
  · exact streamAll_in w A n c X hX h
  · have h' : (50 : Int) < (n : Int) := by omega
    go_enter Try.func6, Try.ntmps6
    go_wp2_with (go_at_call 8; refine (wakes _).mono ?_; rintro e w7 ⟨rfl, hb7⟩)
    go_ret
    exact ⟨rfl, hb7⟩
end Go.Proofs.Ytmifnmnpihikgaa
