/- stream: cutting and framing, in plain words. -/
import Derived.Test.YtmifnmnpihikgaaSG
namespace Go.Proofs.Ytmifnmnpihikgaa
open Go.RowKit Go.HL
set_option linter.unusedVariables false
set_option linter.unusedSimpArgs false

theorem cutL_fuel : ∀ (k j : Nat) (l : List UInt8), l.length ≤ k → l.length ≤ j → cutL k l = cutL j l
  | 0, 0, l, _, _ => rfl
  | 0, j + 1, l, h, _ => by rw [cutL, cutL, if_pos (by omega)]
  | k + 1, 0, l, _, h => by rw [cutL, cutL, if_pos (by omega)]
  | k + 1, j + 1, l, h1, h2 => by
    rw [cutL, cutL]
    by_cases hs : l.length < 2 ∨ l.length < 2 + nW l
    · rw [if_pos hs, if_pos hs]
    · rw [if_neg hs, if_neg hs, cutL_fuel k j _ (by simp; omega) (by simp; omega)]
theorem cut_small {l : List UInt8} (h : l.length < 2 ∨ l.length < 2 + nW l) : cut l = ([], l) := by
  unfold cut
  cases hl : l.length with
  | zero => rfl
  | succ k => rw [cutL, if_pos h]
theorem cut_step {l : List UInt8} (h : ¬ (l.length < 2 ∨ l.length < 2 + nW l)) : cut l = ((l.drop 2).take (nW l) :: (cut (l.drop (2 + nW l))).1, (cut (l.drop (2 + nW l))).2) := by
  unfold cut
  obtain ⟨k, hk⟩ : ∃ k, l.length = k + 1 := ⟨l.length - 1, by omega⟩
  rw [hk, cutL, if_neg h, cutL_fuel k (l.drop (2 + nW l)).length _ (by simp; omega) (Nat.le_refl _)]
theorem nW_app (a b : List UInt8) (h : 2 ≤ a.length) : nW (a ++ b) = nW a := by
  unfold nW
  rw [List.take_append_of_le_length h]
theorem cut_append : ∀ (k : Nat) (a b : List UInt8), a.length ≤ k → cut (a ++ b) = ((cut a).1 ++ (cut ((cut a).2 ++ b)).1, (cut ((cut a).2 ++ b)).2)
  | 0, a, b, h => by
    obtain rfl : a = [] := List.eq_nil_of_length_eq_zero (by omega)
    rfl
  | k + 1, a, b, h => by
    by_cases hs : a.length < 2 ∨ a.length < 2 + nW a
    · rw [cut_small hs]; simp
    · have hn := nW_app a b (by omega)
      have hs2 : ¬ ((a ++ b).length < 2 ∨ (a ++ b).length < 2 + nW (a ++ b)) := by rw [hn]; simp; omega
      have ih := cut_append k (a.drop (2 + nW a)) b (by simp; omega)
      rw [cut_step hs, cut_step hs2, hn, List.drop_append_of_le_length (by omega), List.drop_append_of_le_length (by omega), List.take_append_of_le_length (by simp; omega), ih]
      rfl
theorem nW_frm (m r : List UInt8) (h : m.length ≤ 65535) : nW (frm m ++ r) = m.length := by
  unfold nW frm
  rw [List.append_assoc, List.take_left' (be_length _ _), val_be]
  have : (m.length : Int) % 256 ^ 2 = (m.length : Int) := Int.emod_eq_of_lt (by omega) (by simp; omega)
  rw [this]
  simp
theorem cut_frm (m r : List UInt8) (h : m.length ≤ 65535) : cut (frm m ++ r) = (m :: (cut r).1, (cut r).2) := by
  have hn := nW_frm m r h
  have hl : (frm m).length = 2 + m.length := by simp [frm, be_length]
  have hs : ¬ ((frm m ++ r).length < 2 ∨ (frm m ++ r).length < 2 + nW (frm m ++ r)) := by rw [hn, List.length_append, hl]; omega
  rw [cut_step hs, hn]
  have e1 : ((frm m ++ r).drop 2).take m.length = m := by
    unfold frm
    rw [List.append_assoc, List.drop_left' (be_length _ _), List.take_left' rfl]
  have e2 : (frm m ++ r).drop (2 + m.length) = r := by rw [List.drop_left' hl]
  rw [e1, e2]
def frms (l : List (List UInt8)) : List UInt8 := l.flatMap frm
theorem frms_take (l : List (List UInt8)) (j : Nat) (x : List UInt8) (h : l[j]? = some x) : frms (l.take (j + 1)) = frms (l.take j) ++ frm x := by
  rw [List.take_add_one, h]
  simp [frms]
theorem frms_len (l : List (List UInt8)) : (frms l).length = szs l + 2 * l.length := by
  induction l with
  | nil => rfl
  | cons x l ih =>
    simp only [frms, szs, List.flatMap_cons, List.length_append, List.map_cons, List.sum_cons, List.length_cons] at ih ⊢
    rw [ih]
    simp [frm, be_length]
    omega
theorem cut_frms : ∀ (l : List (List UInt8)), (∀ x ∈ l, x.length ≤ 65535) → cut (frms l) = (l, [])
  | [], _ => rfl
  | x :: l, h => by
    show cut (frm x ++ frms l) = _
    rw [cut_frm x _ (h x (by simp)), cut_frms l (fun y hy => h y (by simp [hy]))]
theorem cut_more (F : List UInt8) (p k : Nat) : cut (F.take (p + k)) = ((cut (F.take p)).1 ++ (cut ((cut (F.take p)).2 ++ (F.drop p).take k)).1, (cut ((cut (F.take p)).2 ++ (F.drop p).take k)).2) := by
  rw [List.take_add]
  exact cut_append _ _ _ (Nat.le_refl _)
theorem szs_le (l : List (List UInt8)) (x : List UInt8) (h : x ∈ l) : x.length ≤ szs l := by
  induction l with
  | nil => cases h
  | cons a l ih =>
    simp only [szs, List.map_cons, List.sum_cons] at ih ⊢
    rcases List.mem_cons.1 h with rfl | h
    · omega
    · have := ih h; omega
/-- Bytes that lie in a row of bytes. -/
def MsT (W : World) (m : Ms) : Prop := MsOk W m ∧ ∀ a, m.a = some a → Byt W a.block
theorem MsT.kept {W W' : World} {m : Ms} {row : Option Nat} (h : MsT W m) (hg : W.grownBy W' row) (hrow : ∀ k, row = some k → ¬ Byt W k) : MsT W' m :=
  ⟨rd_grown h.1 hg (fun a ha e => hrow _ e.symm (h.2 a ha)), fun a ha => (h.2 a ha).kept hg (fun e => hrow _ e.symm (h.2 a ha))⟩
theorem MsT.below {W W' : World} {m : Ms} (h : MsT W m) (hb : Below W.heap.size W W') : MsT W' m := ⟨Rd.below h.1 hb, fun a ha => (h.2 a ha).below hb⟩
theorem not_byt_box {W : World} {R : Nat} {v : Value} (h : Boxed W R 48 v) : ¬ Byt W R := fun ⟨cs, fr, hb⟩ => by
  have h' : W.heap[R]? = _ := h
  rw [h'] at hb
  cases hb
theorem not_byt_own {W : World} {base n : Nat} {v : Value} {xs : List Value} (h : W.ownsRow base 26 1 v n xs) (k : Nat) (hk : v.ownBlock = some k) : ¬ Byt W k := fun ⟨cs, fr, hb⟩ => by
  rcases h.2 with ⟨rfl, _⟩ | ⟨g, cap, cur, rfl, _, hh, _⟩
  · cases hk
  · cases hk
    rw [hh] at hb
    cases hb
end Go.Proofs.Ytmifnmnpihikgaa
