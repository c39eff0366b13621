/- edns: what is found again, in plain words. -/
import Derived.Test.YtdgdgioenfglnaaLU
import Derived.Test.YtdgdgioenfglnaaLD
namespace Go.Proofs.Ytdgdgioenfglnaa
open Go.RowKit Go.HL
set_option linter.unusedVariables false
set_option linter.unusedSimpArgs false
theorem kept_no {l : List Rc} {j : Nat} {r : Rc} (h : (kept l)[j]? = some r) : isOpt r = false := by
  have h1 := List.mem_of_getElem? h
  unfold kept at h1
  have h2 := (List.mem_filter.1 h1).2
  simpa using h2
theorem idx_some {l : List Rc} {i : Nat} {r : Rc} (h2 : l[i]? = some r) (h3 : isOpt r = true) (h4 : ∀ (j : Nat) q, j < i → l[j]? = some q → isOpt q = false) : idx l = i := by
  have hil := (List.getElem?_eq_some_iff.1 h2)
  obtain ⟨hl, he⟩ := hil
  have : l.findIdx? isOpt = some i := by
    rw [List.findIdx?_eq_some_iff_getElem]
    refine ⟨hl, by rw [he]; exact h3, fun j hj => ?_⟩
    have := h4 j l[j] hj (List.getElem?_eq_getElem (by omega))
    simp [this]
  unfold idx
  rw [this]
theorem kept_at {l : List Rc} {k : Nat} {q : Rc} (h : l[k]? = some q) (hq : isOpt q = false) : (kept l)[(kept (l.take k)).length]? = some q := by
  have hk := (List.getElem?_eq_some_iff.1 h).1
  have e : l = l.take k ++ q :: l.drop (k + 1) := by
    have h1 := List.take_append_drop k l
    rw [List.drop_eq_getElem_cons hk] at h1
    rw [(List.getElem?_eq_some_iff.1 h).2] at h1
    exact h1.symm
  have e2 : kept l = kept (l.take k) ++ q :: kept (l.drop (k + 1)) := by
    conv => lhs; rw [e]
    unfold kept
    rw [List.filter_append, List.filter_cons_of_pos (by simp [hq])]
  rw [e2, List.getElem?_append_right (Nat.le_refl _)]
  simp
section
variable (l : List Rc) (code sz ve fl : Int) (s : ByteArray)
theorem back_at : (kept l ++ [optRc code sz ve fl s])[(kept l).length]? = some (optRc code sz ve fl s) := by simp
theorem back_no (j : Nat) (q : Rc) (hj : j < (kept l).length) (h : (kept l ++ [optRc code sz ve fl s])[j]? = some q) : isOpt q = false := by
  rw [List.getElem?_append_left hj] at h
  exact kept_no h
theorem back_idx : idx (kept l ++ [optRc code sz ve fl s]) = ((kept l).length : Int) := idx_some (back_at l code sz ve fl s) rfl (back_no l code sz ve fl s)
theorem back_good (h : okOf s = true) : goodAt (kept l ++ [optRc code sz ve fl s]) (kept l).length (optRc code sz ve fl s) = true := by
  unfold goodAt
  have h1 : (kept l ++ [optRc code sz ve fl s]).drop ((kept l).length + 1) = [] := List.drop_eq_nil_of_le (by simp)
  rw [h1, show (optRc code sz ve fl s).raw = s from rfl, h]
  have h2 : dataEq (optRc code sz ve fl s) = true := by
    unfold dataEq optRc
    simp
  rw [h2, show decide ((optRc code sz ve fl s).nm.toList = [0]) = true from (by decide +kernel : decide ((⟨#[0]⟩ : ByteArray).toList = [0]) = true)]
  rfl
theorem back_says (k0 : 0 ≤ code) (k1 : code ≤ 4095) (v0 : 0 ≤ ve) (v1 : ve < 256) (f0 : 0 ≤ fl) (f1 : fl < 65536) : saysOf (optRc code sz ve fl s) = ednsCells sz (code / 16) ve fl s := by
  unfold saysOf optRc ednsCells
  have e1 : (code / 16 * 16777216 + ve * 65536 + fl) / 16777216 = code / 16 := by omega
  have e2 : (code / 16 * 16777216 + ve * 65536 + fl) / 65536 % 256 = ve := by omega
  have e3 : (code / 16 * 16777216 + ve * 65536 + fl) % 65536 = fl := by omega
  dsimp only
  rw [e1, e2, e3]
theorem back_code (k0 : 0 ≤ code) (k1 : code ≤ 4095) (v0 : 0 ≤ ve) (v1 : ve < 256) (f0 : 0 ≤ fl) (f1 : fl < 65536) : codeV (code % 16) (kept l ++ [optRc code sz ve fl s]) = code := by
  rw [codeV_some (back_at l code sz ve fl s) rfl (back_no l code sz ve fl s)]
  have e1 : (optRc code sz ve fl s).ttl / 16777216 = code / 16 := by
    show (code / 16 * 16777216 + ve * 65536 + fl) / 16777216 = _
    omega
  rw [e1]
  omega
end
end Go.Proofs.Ytdgdgioenfglnaa
