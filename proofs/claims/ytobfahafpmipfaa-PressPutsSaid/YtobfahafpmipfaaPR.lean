/- PressTwice: the plain law, and the walk. -/
import Derived.Test.YtobfahafpmipfaaPL
import Derived.Test.YtobfahafpmipfaaHR
namespace Go.Proofs.Ytobfahafpmipfaa
open Go.RowKit Go.HL
set_option linter.unusedVariables false
set_option linter.unusedSimpArgs false
theorem look_app {t t' : Tb} {m : List UInt8} {p : Nat} (h : HL.look t m = some p) : HL.look (t ++ t') m = some p := by
  unfold HL.look at *
  rw [List.find?_append]
  obtain ⟨x, h1, rfl⟩ := Option.map_eq_some_iff.1 h
  rw [h1]
  rfl
theorem look_none {t : Tb} {m : List UInt8} (h : ∀ p ∈ t, p.1 ≠ m) : HL.look t m = none := by
  unfold HL.look
  rw [Option.map_eq_none_iff, List.find?_eq_none]
  intro p hp
  simpa using h p hp
theorem en_len (plain : Bool) : ∀ (ls : List (List UInt8)) (tab : Tb) (off : Nat), (en plain tab ls off).2.length ≤ tab.length + ls.length
  | [], tab, off => by simp [en]
  | x :: r, tab, off => by
    rw [en]
    split
    · simp
    · have := en_len plain r (if (HL.look tab (gl (x :: r))).isSome || decide (16383 < off) then tab else tab ++ [(gl (x :: r), off)]) (off + (1 + x.length))
      refine Nat.le_trans this ?_
      split
      · simp
      · simp; omega
theorem en_pre (plain : Bool) : ∀ (ls : List (List UInt8)) (tab : Tb) (off : Nat), tab <+: (en plain tab ls off).2
  | [], tab, off => List.prefix_rfl
  | x :: r, tab, off => by
    rw [en]
    split
    · exact List.prefix_rfl
    · refine List.IsPrefix.trans ?_ (en_pre plain r _ _)
      split
      · exact List.prefix_rfl
      · exact List.prefix_append _ _
theorem en_fresh (plain : Bool) : ∀ (ls : List (List UInt8)) (tab : Tb) (off : Nat), (∀ p ∈ tab, (gl ls).length < p.1.length) → (en plain tab ls off).1 = gl ls
  | [], tab, off, _ => by rw [en]; rfl
  | x :: r, tab, off, h => by
    have hn : HL.look tab (gl (x :: r)) = none := look_none fun p hp e => by have := h p hp; rw [e] at this; omega
    have hl := gl_len x r
    rw [en, hn]
    simp only [Option.isSome_none, Bool.false_and, Bool.false_or, Bool.false_eq_true, if_false]
    rw [en_fresh plain r _ _ ?_, gl_cons]
    intro p hp
    split at hp
    · have := h p hp; omega
    · rcases List.mem_append.1 hp with h1 | h1
      · have := h p h1; omega
      · rw [List.mem_singleton.1 h1]; show (gl r).length < (gl (x :: r)).length; omega
theorem en_found (plain : Bool) (x : List UInt8) (r : List (List UInt8)) (tab : Tb) (off : Nat) (hn : HL.look tab (gl (x :: r)) = none) (h : off ≤ 16383) : HL.look (en plain tab (x :: r) off).2 (gl (x :: r)) = some off := by
  rw [en, hn]
  simp only [Option.isSome_none, Bool.false_and, Bool.false_or, Bool.false_eq_true, if_false]
  rw [if_neg (by simpa using h)]
  obtain ⟨t, ht⟩ := en_pre plain r (tab ++ [(gl (x :: r), off)]) (off + (1 + x.length))
  rw [← ht]
  exact look_app (by rw [look_snoc hn, if_pos rfl])
theorem Made.kept {w w' : World} {gt bm : Nat} {tab : Tb} {row : Option Nat} (h : Made w gt bm tab) (hg : w.grownBy w' row) (h1 : row ≠ some bm) (h2 : row ≠ some gt) : Made w' gt bm tab :=
  ⟨hg.cell h.cell (fun e => h2 e.symm), h.ne, h.tbl.kept hg (fun e => h1 e.symm)⟩
theorem some_twice {w1 w2 : World} {bm : Nat} {l : List UInt8} {x : List UInt8} {r : List (List UInt8)} (h : l.length ≤ 16383) {a b : Value}
    (hs : SomeB w1 bm false (l ++ gl (x :: r)) (x :: r) (en false [] (x :: r) l.length).2 a b w2) : ∃ A c, a = .slice A (l.length + (gl (x :: r)).length + 2) c ∧ b = .int .i64 0 ∧ w1.grownBy w2 (some bm) := by
  obtain ⟨h1, h2, h3, h4⟩ := hs
  have he : (en false (en false [] (x :: r) l.length).2 (x :: r) (l ++ gl (x :: r)).length).1.length = 2 := by
    have hf := en_found false x r [] l.length rfl h
    generalize (en false [] (x :: r) l.length).2 = tab at hf
    rw [en, hf]
    rfl
  rw [he, List.length_append] at h2
  obtain ⟨A, c, rfl, _⟩ := own_rd h2
  exact ⟨A, c, rfl, h1, h4⟩
theorem some_root {w1 w2 : World} {bm : Nat} {l : List UInt8} {tab : Tb} {a b : Value}
    (hs : SomeB w1 bm false l [] tab a b w2) : ∃ A c, a = .slice A (l.length + 1) c ∧ b = .int .i64 0 ∧ Rd w2 1 A (l.length + 1) c (bs (l ++ [0])) ∧ Tbl w2 bm tab ∧ w1.grownBy w2 (some bm) := by
  obtain ⟨h1, h2, h3, h4⟩ := hs
  obtain ⟨A, c, rfl, hr⟩ := own_rd h2
  exact ⟨A, c, rfl, h1, hr, h3, h4⟩
theorem some_first {w1 w2 : World} {bm : Nat} {l : List UInt8} {ls : List (List UInt8)} {a b : Value}
    (hs : SomeB w1 bm false l ls [] a b w2) : ∃ A c, a = .slice A (l.length + (gl ls).length) c ∧ b = .int .i64 0 ∧ Rd w2 1 A (l.length + (gl ls).length) c (bs (l ++ gl ls)) ∧ Tbl w2 bm (en false [] ls l.length).2 ∧ w1.grownBy w2 (some bm) := by
  obtain ⟨h1, h2, h3, h4⟩ := hs
  rw [en_fresh false ls [] l.length (fun p hp => by cases hp)] at h2
  obtain ⟨A, c, rfl, hr⟩ := own_rd h2
  exact ⟨A, c, rfl, h1, hr, h3, h4⟩
set_option maxHeartbeats 400000 in
theorem pressTwice_walk (w : World) (A : Option Addr) (n c : Nat) (l : List UInt8) (s : ByteArray) (hr : Rd w 1 A n c (bs l)) (hc : c * 1 ≤ 140737488351232) (hs : s.size ≤ 140737488351232) :
    Calls Try.prog 6 #[.slice A n c, .string s] w fun e w' => e = .returned (.bool true) ∧ Below w.heap.size w w' := by
  have hl := hr.blen
  have hn := hr.le
  have hck := check_ w s (by omega)
  cases hnm : isNm s with
  | false =>
    rw [hnm] at hck
    go_enter Try.func6, Try.ntmps6
    go_wp2_with (first | (go_at_call 12; refine hck.mono ?_; clear hck; rintro e w1 ⟨rfl, hb1⟩) | (go_at_call 11; refine (wakes_ _).mono ?_; rintro e w5 ⟨rfl, hb5⟩))
    go_ret
    exact ⟨rfl, hb1.trans (hb5.mono hb1.size)⟩
  | true =>
  rw [hnm] at hck
  by_cases hbig : 16383 < n
  · have hbig' : (16383 : Int) < (n : Int) := by omega
    go_enter Try.func6, Try.ntmps6
    go_wp2_with (first | (go_at_call 12; refine hck.mono ?_; clear hck; rintro e w1 ⟨rfl, hb1⟩) | (go_at_call 11; refine (wakes_ _).mono ?_; rintro e w5 ⟨rfl, hb5⟩))
    go_ret
    exact ⟨rfl, hb1.trans (hb5.mono hb1.size)⟩
  have hbig' : ¬ (16383 : Int) < (n : Int) := by omega
  have hsz := fun W => size_ W s (by omega)
  rw [hnm] at hsz
  obtain ⟨ls, hls, hok, h255, _⟩ := isNm_true hnm
  have hlc := gl_count ls
  clear hnm
  have hput := fun (W : World) (gt bm : Nat) (tab : Tb) (hM : Made W gt bm tab) (A' : Option Addr) (n' c' : Nat) (l' : List UInt8) (hr' : Rd W 1 A' n' c' (bs l')) (hn' : n' ≤ 140737488354000) (ht : tab.length ≤ 1000000) => put_ok W gt bm hM.cell hM.ne tab hM.tbl A' n' c' l' hr' hn' ls hok h255 ht
  rw [← hls] at hput
  have hz : s.size = (gl ls).length := by rw [hls, str_size]
  have ht1 := en_len false ls [] l.length
  simp only [if_true] at hsz
  rw [hz] at hsz
  obtain ⟨m, hm⟩ : ∃ m, (gl ls).length = m := ⟨_, rfl⟩
  rw [hm] at hsz
  cases ls with
  | nil =>
    have HP1 := Lib.hid hput
    have HP2 := Lib.hid hput
    have hroot : s.toList = [0] := by rw [hls]; exact str_toL _
    have HLS := Lib.hid hls
    have HZ := Lib.hid hz
    rw [hl] at ht1
    clear hput hls hz hsz ht1
    go_enter Try.func6, Try.ntmps6
    go_wp2_with (first | (go_at_call 12; refine hck.mono ?_; clear hck; rintro e w1 ⟨rfl, hb1⟩) | (go_at_call 13; refine (new_ _).mono ?_; rintro e w2 ⟨rfl, hw2⟩; have HM2 : Hid (Made w2 (w1.heap.size + 1) w1.heap.size []) := Lib.hid (hw2.symm.subst (motive := fun W => Made W (w1.heap.size + 1) w1.heap.size []) (Made.new w1)); have HB2 : Hid (Below w1.heap.size w1 w2) := Lib.hid (hw2.symm.subst (motive := fun W => Below w1.heap.size w1 W) (Made.below w1)); clear hw2) | (at_builtin; refine wpList_app_nil w2 w2 w2.heap.size rfl _ _ 22 22 5 (.int .u8 0) 1 1 rfl Try.underlying22 info_u8 rfl (by omega) (by omega) rfl _ n (bs l) rfl (.slice ((hr.below hb1).below HB2.out) (bs_one _)) (Below.refl _ _) (Nat.le_refl _) (by omega) ?_; intro v3 w3 ho3 hb3 hg3; obtain ⟨A3, c3, rfl, hr3⟩ := own_rd ho3; have HM3 := Lib.hid (HM2.out.kept hg3 (by simp) (by simp)); have HG3 := Lib.hid hg3) | (go_at_call 16; refine (HP1.out _ _ _ _ HM3.out _ _ _ _ hr3 (by omega) (by simp)).mono ?_; clear HP1; rintro e w4 ⟨a4, b4, rfl, hs4⟩; obtain ⟨A4, c4, rfl, rfl, hr4, ht4, hg4⟩ := some_root hs4; clear hs4; rw [hl] at hr4; have HM4 := Lib.hid (HM3.out.next hg4 ht4); have HG4 := Lib.hid hg4) | (go_at_call 16; refine (HP2.out _ _ _ _ HM4.out _ _ _ _ hr4 (by omega) (by simp)).mono ?_; clear HP2; rintro e w5 ⟨a5, b5, rfl, hs5⟩; obtain ⟨A5, c5, rfl, rfl, hr5, ht5, hg5⟩ := some_root hs5; clear hs5; have hl5 : (l ++ [0]).length = n + 1 := (by simp; omega); rw [hl5]; have HG5 := Lib.hid hg5) | (go_at_call 11; refine (wakes_ _).mono ?_; rintro e w6 ⟨rfl, hb6⟩))
    go_ret
    have hb2 := HB2.out
    have z1 := hb1.size
    have z2 := hb2.size
    have q3 : Below w1.heap.size w1 w3 := hb2.grown HG3.out z2 (fun k hk => by cases hk)
    have q4 : Below w1.heap.size w1 w4 := q3.grown HG4.out q3.size (fun k hk => by cases hk; exact Nat.le_refl _)
    have q5 : Below w1.heap.size w1 w5 := q4.grown HG5.out q4.size (fun k hk => by cases hk; exact Nat.le_refl _)
    exact ⟨rfl, hb1.trans ((q5.trans (hb6.mono q5.size)).mono z1)⟩
  | cons x r =>
    have HP1 := Lib.hid hput
    have HP2 := Lib.hid hput
    have hroot : (s.toList == [0]) = false := by
      rw [hls, str_toL, gl_cons]
      have := gl_pos r
      cases x with
      | nil => have := (hok [] (by simp)).1; simp at this
      | cons y z => simp
    have HLS := Lib.hid hls
    have HZ := Lib.hid hz
    have HL := Lib.hid hl
    have HM := Lib.hid hm
    have HT1 := Lib.hid ht1
    have hlen4 : (en false [] (x :: r) l.length).2.length ≤ 1000000 := by simp only [List.length_nil] at ht1; omega
    have HLEN := Lib.hid hlen4
    clear hput hls hz hl ht1 hlen4
    go_enter Try.func6, Try.ntmps6
    go_wp2_with (first | (go_at_call 12; refine hck.mono ?_; clear hck; rintro e w1 ⟨rfl, hb1⟩) | (go_at_call 13; refine (new_ _).mono ?_; rintro e w2 ⟨rfl, hw2⟩; have HM2 : Hid (Made w2 (w1.heap.size + 1) w1.heap.size []) := Lib.hid (hw2.symm.subst (motive := fun W => Made W (w1.heap.size + 1) w1.heap.size []) (Made.new w1)); have HB2 : Hid (Below w1.heap.size w1 w2) := Lib.hid (hw2.symm.subst (motive := fun W => Below w1.heap.size w1 W) (Made.below w1)); clear hw2) | (at_builtin; refine wpList_app_nil w2 w2 w2.heap.size rfl _ _ 22 22 5 (.int .u8 0) 1 1 rfl Try.underlying22 info_u8 rfl (by omega) (by omega) rfl _ n (bs l) rfl (.slice ((hr.below hb1).below HB2.out) (bs_one _)) (Below.refl _ _) (Nat.le_refl _) (by omega) ?_; intro v3 w3 ho3 hb3 hg3; obtain ⟨A3, c3, rfl, hr3⟩ := own_rd ho3; have HM3 := Lib.hid (HM2.out.kept hg3 (by simp) (by simp)); have HG3 := Lib.hid hg3) | (go_at_call 16; refine (HP1.out _ _ _ _ HM3.out _ _ _ _ hr3 (by omega) (by simp)).mono ?_; clear HP1; rintro e w4 ⟨a4, b4, rfl, hs4⟩; obtain ⟨A4, c4, rfl, rfl, hr4, ht4, hg4⟩ := some_first hs4; clear hs4; rw [HL.out, HM.out] at hr4; rw [HL.out, HM.out]; have HM4 := Lib.hid (HM3.out.next hg4 ht4); have HG4 := Lib.hid hg4; clear hg4 ht4) | (go_at_call 16; refine (HP2.out _ _ _ _ HM4.out _ _ _ _ hr4 (by omega) HLEN.out).mono ?_; clear HP2; rintro e w5 ⟨a5, b5, rfl, hs5⟩; obtain ⟨A5, c5, rfl, rfl, hg5⟩ := some_twice (by have := HL.out; omega) hs5; clear hs5; rw [HL.out, HM.out]; have HG5 := Lib.hid hg5; clear hg5) | (go_at_call 19; refine (hsz _).mono ?_; clear hsz; rintro e w7 ⟨rfl, hb7⟩) | (go_at_call 11; refine (wakes_ _).mono ?_; rintro e w6 ⟨rfl, hb6⟩))
    go_ret
    have hb2 := HB2.out
    have z1 := hb1.size
    have z2 := hb2.size
    have q3 : Below w1.heap.size w1 w3 := hb2.grown HG3.out z2 (fun k hk => by cases hk)
    have q4 : Below w1.heap.size w1 w4 := q3.grown HG4.out q3.size (fun k hk => by cases hk; exact Nat.le_refl _)
    have q5 : Below w1.heap.size w1 w5 := q4.grown HG5.out q4.size (fun k hk => by cases hk; exact Nat.le_refl _)
    have q7 : Below w1.heap.size w1 w7 := q5.trans (hb7.mono q5.size)
    exact ⟨rfl, hb1.trans ((q7.trans (hb6.mono q7.size)).mono z1)⟩
end Go.Proofs.Ytobfahafpmipfaa
