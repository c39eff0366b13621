/- What was written is read back: the plain law. -/
import Derived.Test.YtobfahafpmipfaaPO
import Derived.Test.YtobfahafpmipfaaPR
namespace Go.Proofs.Ytobfahafpmipfaa
open Go.RowKit Go.HL
set_option linter.unusedVariables false
set_option linter.unusedSimpArgs false
/-- At a place stands a name: its end; a pointer leads to before the row. -/
inductive Sq (b : List UInt8) : Nat → Nat → List (List UInt8) → Nat → Prop
  | zero {rr p : Nat} (h : b[p]? = some 0) : Sq b rr p [] (p + 1)
  | lab {rr p : Nat} {x : List UInt8} {r : List (List UInt8)} {e : Nat} (h1 : 1 ≤ x.length) (h2 : x.length ≤ 63) (h3 : (b.drop p).take (1 + x.length) = UInt8.ofNat x.length :: x) (h : Sq b rr (p + 1 + x.length) r e) : Sq b rr p (x :: r) e
  | ptr {rr p q : Nat} {ls : List (List UInt8)} {e : Nat} (h1 : (b.drop p).take 2 = be 2 (49152 + (q : Int))) (h2 : q < 16384) (h3 : q < rr) (h : Sq b q q ls e) : Sq b rr p ls (p + 2)
theorem Sq.mono {b : List UInt8} {rr rr' p : Nat} {ls : List (List UInt8)} {e : Nat} (h : Sq b rr p ls e) (hr : rr ≤ rr') : Sq b rr' p ls e := by
  induction h generalizing rr' with
  | zero h => exact .zero h
  | lab h1 h2 h3 h ih => exact .lab h1 h2 h3 (ih hr)
  | ptr h1 h2 h3 h ih => exact .ptr h1 h2 (by omega) h
theorem take_app {b z : List UInt8} {p k : Nat} {x : List UInt8} (hx : x.length = k) (hk : 0 < k) (h : (b.drop p).take k = x) : ((b ++ z).drop p).take k = x := by
  have hl : k ≤ b.length - p := by
    have := congrArg List.length h
    rw [List.length_take, List.length_drop, hx] at this
    omega
  rw [List.drop_append_of_le_length (by omega), List.take_append_of_le_length (by rw [List.length_drop]; omega)]
  exact h
theorem Sq.app {b : List UInt8} {rr p : Nat} {ls : List (List UInt8)} {e : Nat} (h : Sq b rr p ls e) (z : List UInt8) : Sq (b ++ z) rr p ls e := by
  induction h with
  | zero h => exact .zero (by rw [List.getElem?_append_left (List.getElem?_eq_some_iff.1 h).1]; exact h)
  | lab h1 h2 h3 h ih => exact .lab h1 h2 (take_app (by simp; omega) (by omega) h3) ih
  | ptr h1 h2 h3 h ih => exact .ptr (take_app rfl (by omega) h1) h2 h3 ih
theorem Sq.ok {b : List UInt8} {rr p : Nat} {ls : List (List UInt8)} {e : Nat} (h : Sq b rr p ls e) : okL ls := by
  induction h with
  | zero h => intro x hx; cases hx
  | lab h1 h2 h3 h ih => intro y hy; rcases List.mem_cons.1 hy with rfl | hy; exact ⟨h1, h2⟩; exact ih y hy
  | ptr h1 h2 h3 h ih => exact ih
theorem getD_take {b : List UInt8} {p k : Nat} {y : UInt8} {x : List UInt8} (h : (b.drop p).take k = y :: x) : b.getD p 0 = y ∧ p < b.length := by
  have h1 := congrArg (fun l => l[0]?) h
  simp only [List.getElem?_cons_zero] at h1
  rw [List.getElem?_take] at h1
  split at h1
  · rw [List.getElem?_drop, Nat.add_zero] at h1
    exact ⟨by rw [List.getD_eq_getElem?_getD, h1]; rfl, (List.getElem?_eq_some_iff.1 h1).1⟩
  · cases h1
theorem getD_take1 {b : List UInt8} {p k : Nat} {y z : UInt8} {x : List UInt8} (h : (b.drop p).take k = y :: z :: x) : b.getD (p + 1) 0 = z ∧ p + 1 < b.length := by
  have h1 := congrArg (fun l => l[1]?) h
  simp only [List.getElem?_cons_succ, List.getElem?_cons_zero] at h1
  rw [List.getElem?_take] at h1
  split at h1
  · rw [List.getElem?_drop] at h1
    exact ⟨by rw [List.getD_eq_getElem?_getD, h1]; rfl, (List.getElem?_eq_some_iff.1 h1).1⟩
  · cases h1
theorem Sq.read {b : List UInt8} {rr p : Nat} {ls : List (List UInt8)} {e : Nat} (h : Sq b rr p ls e) : ∀ (f nx : Nat) (out : List UInt8), rr * (b.length + 1) + (b.length - p) < f → out.length + (flat ls).length ≤ 254 → tk b f p nx rr out = (out ++ gl ls, ((if nx = 0 then e else nx : Nat) : Int), 0) := by
  induction h with
  | @zero rr p h =>
    intro f nx out hf hl
    obtain ⟨h1, h2⟩ := List.getElem?_eq_some_iff.1 h
    have hg : (b.getD p 0).toNat = 0 := by rw [List.getD_eq_getElem?_getD, h]; rfl
    cases f with
    | zero => omega
    | succ f =>
      rw [tk, if_neg (by omega), hg, if_neg (by omega), if_neg (by omega), if_neg (by omega), if_neg (by omega), if_pos rfl]
      rfl
  | @lab rr p x r e h1 h2 h3 h ih =>
    intro f nx out hf hl
    obtain ⟨hg, hp⟩ := getD_take h3
    have hk : (b.getD p 0).toNat = x.length := by rw [hg]; exact ofNat_len (by omega)
    have hlen : p + 1 + x.length ≤ b.length := by
      have := congrArg List.length h3
      rw [List.length_take, List.length_drop, List.length_cons] at this
      omega
    have hfl : (flat (x :: r)).length = 1 + x.length + (flat r).length := by simp [flat]; omega
    cases f with
    | zero => omega
    | succ f =>
      rw [tk, if_neg (by omega), hk, if_neg (by omega), if_neg (by omega), if_neg (by omega), if_neg (by omega), if_neg (by omega), h3, ih f nx _ (by omega) (by rw [List.length_append, List.length_cons]; omega)]
      rw [gl_cons]
      simp
  | @ptr rr p q ls e h1 h2 h3 h ih =>
    intro f nx out hf hl
    have hb2 : be 2 (49152 + (q : Int)) = [byteAt (49152 + (q : Int)) 1, byteAt (49152 + (q : Int)) 0] := rfl
    rw [hb2] at h1
    obtain ⟨g0, l0⟩ := getD_take h1
    obtain ⟨g1, l1⟩ := getD_take1 h1
    have t1 : (b.getD p 0).toNat = 192 + q / 256 := by
      rw [g0]
      have := byteAt_toNat (49152 + (q : Int)) 1
      omega
    have t0 : (b.getD (p + 1) 0).toNat = q % 256 := by
      rw [g1]
      have := byteAt_toNat (49152 + (q : Int)) 0
      omega
    have hm := mul_fall (n := b.length) (show q + 1 ≤ rr by omega) p
    cases f with
    | zero => omega
    | succ f =>
      rw [tk, if_neg (by omega), t1, t0, if_pos (by omega), if_neg (by omega), show ((192 + q / 256) * 256 + q % 256) % 16384 = q by omega, if_neg (by omega), ih f _ out (by omega) hl]
      by_cases h5 : nx = 0
      · rw [if_pos h5, if_neg (by omega)]
      · rw [if_neg h5, if_neg h5]
/-- What is remembered stands where it is said. -/
def TOk (b : List UInt8) (tab : Tb) : Prop := ∀ m q, (m, q) ∈ tab → q ≤ 16383 ∧ q < b.length ∧ ∃ ls e, m = gl ls ∧ okL ls ∧ Sq b q q ls e
theorem TOk.app {b : List UInt8} {tab : Tb} (h : TOk b tab) (z : List UInt8) : TOk (b ++ z) tab := fun m q hm => by
  obtain ⟨h1, h2, ls, e, h3, h4, h5⟩ := h m q hm
  exact ⟨h1, by rw [List.length_append]; omega, ls, e, h3, h4, h5.app z⟩
theorem gl_inj {a b : List (List UInt8)} (ha : okL a) (hb : okL b) (h : gl a = gl b) : a = b := by
  have h1 := labsT_gl a ha
  rw [h, labsT_gl b hb] at h1
  injection h1 with h1
  exact h1.symm
theorem look_mem {t : Tb} {m : List UInt8} {q : Nat} (h : HL.look t m = some q) : (m, q) ∈ t := by
  unfold HL.look at h
  obtain ⟨x, h1, rfl⟩ := Option.map_eq_some_iff.1 h
  have h2 := List.find?_some h1
  have h3 := List.mem_of_find?_eq_some h1
  have h4 : x.1 = m := by simpa using h2
  rw [← h4]
  exact h3
/-- Writing a name behind some bytes. 's': where the name began; what was remembered before lies ahead of it. -/
theorem en_sq (plain : Bool) : ∀ (ls : List (List UInt8)) (tab : Tb) (b : List UInt8) (s : Nat), s ≤ b.length → okL ls → (∀ m q, (m, q) ∈ tab → (q < s ∧ q ≤ 16383 ∧ ∃ l e, m = gl l ∧ okL l ∧ Sq b q q l e) ∨ (gl ls).length < m.length) →
    Sq (b ++ (en plain tab ls b.length).1) s b.length ls (b.length + (en plain tab ls b.length).1.length) ∧
    (∀ m q, (m, q) ∈ (en plain tab ls b.length).2 → (m, q) ∈ tab ∨ (q ≤ 16383 ∧ q < b.length + (en plain tab ls b.length).1.length ∧ ∃ l e, m = gl l ∧ okL l ∧ Sq (b ++ (en plain tab ls b.length).1) q q l e))
  | [], tab, b, s, hs, hok, ht => by
    rw [en]
    exact ⟨.zero (by simp), fun m q h => .inl h⟩
  | x :: r, tab, b, s, hs, hok, ht => by
    have hx := hok x (by simp)
    have hgl := gl_len x r
    rw [en]
    split
    · rename_i hc
      obtain ⟨q, hq⟩ : ∃ q, HL.look tab (gl (x :: r)) = some q := by
        simp only [Bool.and_eq_true] at hc
        exact Option.isSome_iff_exists.1 hc.1
      rw [hq]
      refine ⟨?_, fun m q h => .inl h⟩
      rcases ht _ _ (look_mem hq) with ⟨h1, h2, l, e, h3, h4, h5⟩ | h1
      · have he := gl_inj hok h4 h3
        rw [he]
        show Sq (b ++ be 2 (49152 + (q : Int))) s b.length l (b.length + 2)
        exact .ptr (by rw [List.drop_left]; rfl) (by omega) h1 (h5.app _)
      · exact absurd h1 (by omega)
    · rename_i hc
      obtain ⟨tab2, htab2⟩ : ∃ t, (if (HL.look tab (gl (x :: r))).isSome || decide (16383 < b.length) then tab else tab ++ [(gl (x :: r), b.length)]) = t := ⟨_, rfl⟩
      rw [htab2]
      have hlen2 : (b ++ (UInt8.ofNat x.length :: x)).length = b.length + (1 + x.length) := by simp; omega
      have ih := en_sq plain r tab2 (b ++ (UInt8.ofNat x.length :: x)) s (by omega) hok.tail (fun m q hm => by
        have hold : (m, q) ∈ tab → (q < s ∧ q ≤ 16383 ∧ ∃ l e, m = gl l ∧ okL l ∧ Sq (b ++ (UInt8.ofNat x.length :: x)) q q l e) ∨ (gl r).length < m.length := fun hm => by
          rcases ht m q hm with ⟨h1, h2, l, e, h3, h4, h5⟩ | h1
          · exact .inl ⟨h1, h2, l, e, h3, h4, h5.app _⟩
          · exact .inr (by omega)
        rw [← htab2] at hm
        split at hm
        · exact hold hm
        · rcases List.mem_append.1 hm with hm | hm
          · exact hold hm
          · have := List.mem_singleton.1 hm
            injection this with e1 e2
            exact .inr (by rw [e1]; omega))
      rw [hlen2] at ih
      obtain ⟨i1, i2⟩ := ih
      have happ : b ++ (UInt8.ofNat x.length :: x) ++ (en plain tab2 r (b.length + (1 + x.length))).1 = b ++ (UInt8.ofNat x.length :: (x ++ (en plain tab2 r (b.length + (1 + x.length))).1)) := by simp
      rw [happ] at i1 i2
      have hlen3 : b.length + (UInt8.ofNat x.length :: (x ++ (en plain tab2 r (b.length + (1 + x.length))).1)).length = b.length + (1 + x.length) + (en plain tab2 r (b.length + (1 + x.length))).1.length := by simp; omega
      have hlab : ∀ rr e, Sq (b ++ (UInt8.ofNat x.length :: (x ++ (en plain tab2 r (b.length + (1 + x.length))).1))) rr (b.length + (1 + x.length)) r e → Sq (b ++ (UInt8.ofNat x.length :: (x ++ (en plain tab2 r (b.length + (1 + x.length))).1))) rr b.length (x :: r) e := fun rr e h => .lab hx.1 hx.2 (by
        rw [List.drop_left, Nat.add_comm 1, List.take_succ_cons, List.take_left]) (by rw [Nat.add_assoc]; exact h)
      refine ⟨?_, fun m q hm => ?_⟩
      · rw [hlen3]
        exact hlab _ _ i1
      · rw [hlen3]
        rcases i2 m q hm with h | h
        · rw [← htab2] at h
          split at h
          · exact .inl h
          · rename_i hc2
            rcases List.mem_append.1 h with h | h
            · exact .inl h
            · have := List.mem_singleton.1 h
              injection this with e1 e2
              simp only [Bool.or_eq_true, decide_eq_true_eq, not_or] at hc2
              have h9 := hlab _ _ (i1.mono hs)
              subst e2
              exact .inr ⟨by omega, by omega, x :: r, _, e1, hok, h9⟩
        · exact .inr h
theorem en_back (plain : Bool) (ls : List (List UInt8)) (tab : Tb) (b : List UInt8) (hok : okL ls) (ht : TOk b tab) :
    Sq (b ++ (en plain tab ls b.length).1) b.length b.length ls (b.length + (en plain tab ls b.length).1.length) ∧ TOk (b ++ (en plain tab ls b.length).1) (en plain tab ls b.length).2 := by
  have h := en_sq plain ls tab b b.length (Nat.le_refl _) hok (fun m q hm => by
    obtain ⟨h1, h2, l, e, h3, h4, h5⟩ := ht m q hm
    exact .inl ⟨h2, h1, l, e, h3, h4, h5⟩)
  refine ⟨h.1, fun m q hm => ?_⟩
  rcases h.2 m q hm with h1 | ⟨h1, h2, h3⟩
  · obtain ⟨k1, k2, l, e, k3, k4, k5⟩ := ht m q h1
    exact ⟨k1, by rw [List.length_append]; omega, l, e, k3, k4, k5.app _⟩
  · exact ⟨h1, by rw [List.length_append]; omega, h3⟩
theorem Sq.take {b : List UInt8} {p : Nat} {ls : List (List UInt8)} {e : Nat} (h : Sq b p p ls e) (hp : p < b.length) (hl : (gl ls).length ≤ 255) : tkR b (p : Int) = (gl ls, (e : Int), 0) := by
  unfold tkR
  rw [if_neg (by omega), Int.toNat_natCast, h.read _ 0 [] (by omega) (by rw [gl_flat, List.length_append] at hl; simp at hl ⊢; omega)]
  simp
theorem en_size (plain : Bool) : ∀ (ls : List (List UInt8)) (tab : Tb) (off : Nat), 1 ≤ (en plain tab ls off).1.length ∧ (en plain tab ls off).1.length ≤ (gl ls).length ∧ (plain = true → (en plain tab ls off).1 = gl ls)
  | [], tab, off => by rw [en]; exact ⟨by simp, by simp [gl_nil], fun _ => rfl⟩
  | x :: r, tab, off => by
    have hgl := gl_len x r
    have hgp := gl_pos r
    rw [en]
    split
    · rename_i hc
      refine ⟨by show 1 ≤ 2; omega, by show 2 ≤ _; rw [hgl]; cases x with | nil => simp; omega | cons => simp; omega, fun hp => ?_⟩
      rw [hp] at hc
      simp at hc
    · obtain ⟨h1, h2, h3⟩ := en_size plain r (if (HL.look tab (gl (x :: r))).isSome || decide (16383 < off) then tab else tab ++ [(gl (x :: r), off)]) (off + (1 + x.length))
      refine ⟨by simp, ?_, fun hp => ?_⟩
      · rw [hgl, List.length_cons, List.length_append]; omega
      · rw [h3 hp, gl_cons]
end Go.Proofs.Ytobfahafpmipfaa
