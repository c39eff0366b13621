/- Names as labels: plain words. No program in sight. -/
import Derived.Test.YtioehogncgloiaaHL
namespace Go.HL
open Go.RowKit
set_option linter.unusedVariables false
set_option linter.unusedSimpArgs false

/-- The labels of what stands here, up to a nought that stands last. -/
def labs : Nat → List UInt8 → Option (List (List UInt8))
  | 0, _ => none
  | _ + 1, [] => none
  | f + 1, b :: r => if b = 0 then (if r = [] then some [] else none) else if 63 < b.toNat ∨ r.length < b.toNat then none else (labs f (r.drop b.toNat)).map (r.take b.toNat :: ·)
def labsT (l : List UInt8) : Option (List (List UInt8)) := labs (l.length + 1) l
theorem labs_fuel : ∀ (n : Nat) (f : Nat) (l : List UInt8), l.length ≤ n → l.length + 1 ≤ f → labs f l = labsT l := by
  intro n
  induction n with
  | zero =>
    intro f l hl hf
    obtain rfl : l = [] := List.eq_nil_of_length_eq_zero (by omega)
    cases f with
    | zero => simp at hf
    | succ f => rfl
  | succ n ih =>
    intro f l hl hf
    cases f with
    | zero => omega
    | succ f =>
      cases l with
      | nil => rfl
      | cons b r =>
        simp only [List.length_cons] at hl hf
        have h1 := ih f (r.drop b.toNat) (by rw [List.length_drop]; omega) (by rw [List.length_drop]; omega)
        have h2 := ih (r.length + 1) (r.drop b.toNat) (by rw [List.length_drop]; omega) (by rw [List.length_drop]; omega)
        unfold labsT
        simp only [labs, List.length_cons]
        rw [h1, h2]
theorem labsT_nil : labsT [] = none := rfl
theorem labsT_zero (r : List UInt8) : labsT (0 :: r) = if r = [] then some [] else none := by
  unfold labsT
  simp [labs]
theorem labsT_big (b : UInt8) (r : List UInt8) (h : 63 < b.toNat) : labsT (b :: r) = none := by
  have h0 : b ≠ 0 := fun e => by subst e; simp at h
  unfold labsT
  simp [labs, h0, h]
theorem labsT_cons (b : UInt8) (r : List UInt8) (h0 : b ≠ 0) (h : b.toNat ≤ 63) : labsT (b :: r) = if r.length < b.toNat then none else (labsT (r.drop b.toNat)).map (r.take b.toNat :: ·) := by
  have h1 := labs_fuel r.length (r.length + 1) (r.drop b.toNat) (by rw [List.length_drop]; omega) (by rw [List.length_drop]; omega)
  have h2 : ¬ 63 < b.toNat := by omega
  conv => lhs; unfold labsT
  simp only [labs, List.length_cons]
  rw [if_neg h0, h1]
  simp [h2]
theorem labsT_step (l : List UInt8) (i : Nat) (b : UInt8) (k : Nat) (hb : l[i]? = some b) (h0 : b ≠ 0) (h : b.toNat ≤ 63) :
    (labsT (l.drop i)).map (fun x => x.length + k) = (labsT (l.drop (i + (1 + b.toNat)))).map (fun x => x.length + (k + 1)) := by
  have hi := (List.getElem?_eq_some_iff.1 hb)
  obtain ⟨hil, hie⟩ := hi
  rw [List.drop_eq_getElem_cons hil, hie, labsT_cons b _ h0 h]
  rw [List.drop_drop, show i + 1 + b.toNat = i + (1 + b.toNat) by omega]
  split
  · rename_i h3
    rw [List.length_drop] at h3
    rw [List.drop_eq_nil_of_le (by omega)]
    rfl
  · cases labsT (l.drop (i + (1 + b.toNat))) with
    | none => rfl
    | some x => simp; omega
theorem labsT_at (l : List UInt8) (i : Nat) (hb : l[i]? = some 0) : labsT (l.drop i) = if i + 1 = l.length then some [] else none := by
  obtain ⟨hil, hie⟩ := (List.getElem?_eq_some_iff.1 hb)
  rw [List.drop_eq_getElem_cons hil, hie, labsT_zero]
  by_cases h : i + 1 = l.length
  · rw [if_pos h, if_pos (List.drop_eq_nil_of_le (by omega))]
  · rw [if_neg h, if_neg (fun e => by have := congrArg List.length e; rw [List.length_drop] at this; simp at this; omega)]
theorem labsT_over (l : List UInt8) (i : Nat) (b : UInt8) (hb : l[i]? = some b) (h : 63 < b.toNat) : labsT (l.drop i) = none := by
  obtain ⟨hil, hie⟩ := (List.getElem?_eq_some_iff.1 hb)
  rw [List.drop_eq_getElem_cons hil, hie, labsT_big _ _ h]

/-- Labels as a name. -/
def gl (ls : List (List UInt8)) : List UInt8 := ls.flatMap (fun x => UInt8.ofNat x.length :: x) ++ [0]
def okL (ls : List (List UInt8)) : Prop := ∀ x ∈ ls, 1 ≤ x.length ∧ x.length ≤ 63
theorem okL.tail {x : List UInt8} {ls : List (List UInt8)} (h : okL (x :: ls)) : okL ls := fun y hy => h y (List.mem_cons_of_mem _ hy)
theorem ofNat_len {k : Nat} (h : k ≤ 255) : (UInt8.ofNat k).toNat = k := by rw [UInt8.toNat_ofNat']; omega
theorem gl_nil : gl [] = [0] := rfl
theorem gl_cons (x : List UInt8) (ls : List (List UInt8)) : gl (x :: ls) = UInt8.ofNat x.length :: (x ++ gl ls) := by simp [gl]
theorem gl_len (x : List UInt8) (ls : List (List UInt8)) : (gl (x :: ls)).length = 1 + x.length + (gl ls).length := by rw [gl_cons]; simp; omega
theorem gl_pos (ls : List (List UInt8)) : 1 ≤ (gl ls).length := by simp [gl]
theorem ofNat_ne {k : Nat} (h : 1 ≤ k) (h2 : k ≤ 63) : UInt8.ofNat k ≠ 0 := fun e => by
  have := congrArg UInt8.toNat e
  rw [ofNat_len (by omega)] at this
  simp at this
  omega
theorem labsT_gl : ∀ (ls : List (List UInt8)), okL ls → labsT (gl ls) = some ls
  | [], _ => rfl
  | x :: ls, h => by
    have hx := h x (by simp)
    rw [gl_cons, labsT_cons _ _ (ofNat_ne hx.1 hx.2) (by rw [ofNat_len (by omega)]; omega), ofNat_len (by omega), if_neg (by simp), List.drop_left, List.take_left, labsT_gl ls h.tail]
    rfl
theorem gl_labsT : ∀ (n : Nat) (l : List UInt8) (ls : List (List UInt8)), l.length ≤ n → labsT l = some ls → gl ls = l ∧ okL ls := by
  intro n
  induction n with
  | zero =>
    intro l ls hn h
    obtain rfl : l = [] := List.eq_nil_of_length_eq_zero (by omega)
    cases h
  | succ n ih =>
    intro l ls hn h
    cases l with
    | nil => cases h
    | cons b r =>
      simp only [List.length_cons] at hn
      by_cases h0 : b = 0
      · subst h0
        rw [labsT_zero] at h
        split at h
        · rename_i hr
          subst hr
          cases h
          exact ⟨rfl, fun x hx => by cases hx⟩
        · cases h
      · by_cases h63 : 63 < b.toNat
        · rw [labsT_big _ _ h63] at h; cases h
        · rw [labsT_cons b r h0 (by omega)] at h
          split at h
          · cases h
          · rename_i hlt
            obtain ⟨ls', h1, rfl⟩ := Option.map_eq_some_iff.1 h
            obtain ⟨h2, h3⟩ := ih _ _ (by rw [List.length_drop]; omega) h1
            have hl : (r.take b.toNat).length = b.toNat := by rw [List.length_take]; omega
            have hbn : 1 ≤ b.toNat := by
              rcases Nat.eq_zero_or_pos b.toNat with h | h
              · exact absurd (UInt8.toNat_inj.1 (by simpa using h)) h0
              · exact h
            refine ⟨?_, fun x hx => ?_⟩
            · rw [gl_cons, h2, hl, List.take_append_drop]
              congr 1
              exact UInt8.toNat_inj.1 (ofNat_len (by omega))
            · rcases List.mem_cons.1 hx with rfl | hx
              · omega
              · exact h3 x hx
/-- Is it a name? -/
def isNm (s : ByteArray) : Bool := decide (s.size ≤ 255) && (labsT s.data.toList).isSome
theorem isNm_true {s : ByteArray} (h : isNm s = true) : ∃ ls, s = str (gl ls) ∧ okL ls ∧ (gl ls).length ≤ 255 ∧ labsT s.data.toList = some ls := by
  unfold isNm at h
  rw [Bool.and_eq_true] at h
  obtain ⟨h1, h2⟩ := h
  obtain ⟨ls, h3⟩ := Option.isSome_iff_exists.1 h2
  obtain ⟨h4, h5⟩ := gl_labsT _ _ _ (Nat.le_refl _) h3
  have h1' : s.size ≤ 255 := of_decide_eq_true h1
  refine ⟨ls, ?_, h5, ?_, h3⟩
  · rw [h4]; simp [str]
  · rw [h4, Array.length_toList]; exact h1'
theorem isNm_gl {ls : List (List UInt8)} (h : okL ls) : isNm (str (gl ls)) = decide ((gl ls).length ≤ 255) := by
  unfold isNm
  rw [str_size, str_toList, labsT_gl ls h]
  simp
/-- A name, its ends, but the root. -/
def frs : List (List UInt8) → List ByteArray
  | [] => []
  | x :: r => str (gl (x :: r)) :: frs r
theorem frs_len : ∀ ls, (frs ls).length = ls.length
  | [] => rfl
  | x :: r => by simp [frs, frs_len r]
theorem gl_count : ∀ ls : List (List UInt8), ls.length ≤ (gl ls).length
  | [] => by simp
  | x :: r => by have := gl_count r; rw [gl_len, List.length_cons]; omega
theorem idx_str {P : Program} (t : TypeId) (ht : P.underlying t = some .string) (k : IntKind) (i : Nat) (s : ByteArray) (hi : i < s.size) (w : World) :
    (Instr.index t (.string s) (.int k (i : Int))).run P w = .ok (.int .u8 ((s.data.toList.getD i 0).toNat : Int)) w := by
  rw [run_index_string w t s k _ ht, dif_pos ⟨by omega, by omega⟩]
  have e : ((i : Int)).toNat = i := by omega
  simp only [e]
  have h' : i < s.data.toList.length := by simpa using hi
  rw [List.getD_eq_getElem?_getD, List.getElem?_eq_getElem h']
  rfl
theorem getD_some {l : List UInt8} {i : Nat} (h : i < l.length) : l[i]? = some (l.getD i 0) := by
  rw [List.getD_eq_getElem?_getD, List.getElem?_eq_getElem h]; rfl
end Go.HL
