/- gossip: what bytes tell, in plain words. -/
import Derived.Test.YtijpfhgcdncmhaaGE
namespace Go.Proofs.Ytijpfhgcdncmhaa
open Go.RowKit Go.HL
set_option linter.unusedVariables false
set_option linter.unusedSimpArgs false

/-- The number of k bytes at place i. -/
def vat (k : Nat) (l : List UInt8) (i : Nat) : Int := val ((l.drop i).take k)
theorem vat_nonneg (k : Nat) (l : List UInt8) (i : Nat) : 0 ≤ vat k l i := val_nonneg _
theorem pow256_mono (a : Nat) : ∀ d : Nat, (256 : Int) ^ a ≤ 256 ^ (a + d)
  | 0 => by simp
  | d + 1 => by
    have h := pow256_mono a d
    have hp : (0 : Int) < 256 ^ (a + d) := Int.pow_pos (by decide)
    rw [show a + (d + 1) = (a + d) + 1 by omega, Int.pow_succ]
    omega
theorem vat_lt (k : Nat) (l : List UInt8) (i : Nat) : vat k l i < 256 ^ k := by
  have h := val_lt ((l.drop i).take k)
  have h2 : ((l.drop i).take k).length ≤ k := by simp; omega
  have h3 : (256 : Int) ^ ((l.drop i).take k).length ≤ 256 ^ k := by
    have := pow256_mono ((l.drop i).take k).length (k - ((l.drop i).take k).length)
    rwa [show ((l.drop i).take k).length + (k - ((l.drop i).take k).length) = k by omega] at this
  unfold vat
  omega
theorem tk_ok {k : Nat} {l : List UInt8} {i : Nat} (h : i + k ≤ l.length) : tk k l i 0 = (vat k l i, i + k, 0) := by
  unfold tk vat; rw [if_pos rfl, if_pos h]
theorem tk_short {k : Nat} {l : List UInt8} {i : Nat} (h : l.length < i + k) : tk k l i 0 = (0, i, 6) := by
  unfold tk; rw [if_pos rfl, if_neg (by omega)]
theorem tk_err {k : Nat} {l : List UInt8} {i : Nat} {e : Int} (h : e ≠ 0) : tk k l i e = (0, i, e) := by
  unfold tk; rw [if_neg h]
theorem tk_le {k : Nat} {l : List UInt8} {i : Nat} {e : Int} (h : i ≤ l.length) : (tk k l i e).2.1 ≤ l.length := by
  unfold tk; split <;> (try split) <;> simp <;> omega
theorem tk_lt {k : Nat} {l : List UInt8} {i : Nat} {e : Int} : 0 ≤ (tk k l i e).1 ∧ (tk k l i e).1 < 256 ^ k := by
  have hp : (0 : Int) < 256 ^ k := Int.pow_pos (by decide)
  unfold tk
  split
  · split
    · exact ⟨vat_nonneg k l i, vat_lt k l i⟩
    · exact ⟨by simp, by simpa using hp⟩
  · exact ⟨by simp, by simpa using hp⟩
/-! ### One rumor -/
def rumE (l : List UInt8) (i : Nat) : Int :=
  if l.length < i + 9 then 6 else if 3 < vat 1 l (i + 8) then 170 else if l.length < i + 11 then 6 else if 400 < vat 2 l (i + 9) then 170 else if (l.length : Int) < ((i + 11 : Nat) : Int) + vat 2 l (i + 9) then 6 else 0
def rumN (l : List UInt8) (i : Nat) : Nat := i + 11 + (vat 2 l (i + 9)).toNat
def rumM (l : List UInt8) (i : Nat) : Mb := ⟨vat 4 l i, vat 4 l (i + 4), vat 1 l (i + 8), str ((l.drop (i + 11)).take (vat 2 l (i + 9)).toNat)⟩
/-- What the reader makes of it. -/
theorem rum_chain (l : List UInt8) (i : Nat) (hi : i ≤ l.length) (a b s k : Int) (i1 i2 i3 i4 : Nat) (e1 e2 e3 e4 : Int)
    (h1 : tk 4 l i 0 = (a, i1, e1)) (h2 : tk 4 l i1 e1 = (b, i2, e2)) (h3 : tk 1 l i2 e2 = (s, i3, e3)) (h4 : tk 2 l i3 (msE (decide (s ≤ 3)) 170 e3) = (k, i4, e4)) :
    msE (decide (k ≤ (l.length : Int) - (i4 : Int))) 6 (msE (decide (k ≤ 400)) 170 e4) = rumE l i ∧ i4 ≤ l.length ∧ (0 ≤ k ∧ k < 65536) ∧ (0 ≤ s ∧ s < 256) ∧ (rumE l i = 0 → a = vat 4 l i ∧ b = vat 4 l (i + 4) ∧ s = vat 1 l (i + 8) ∧ k = vat 2 l (i + 9) ∧ i4 = i + 11) := by
  have l4 : i4 ≤ l.length := by
    have g1 := tk_le (k := 4) (e := 0) hi
    rw [h1] at g1
    have g2 := tk_le (k := 4) (e := e1) g1
    rw [h2] at g2
    have g3 := tk_le (k := 1) (e := e2) g2
    rw [h3] at g3
    have g4 := tk_le (k := 2) (e := msE (decide (s ≤ 3)) 170 e3) g3
    rw [h4] at g4
    exact g4
  have lk : 0 ≤ k ∧ k < 65536 := by
    have := tk_lt (k := 2) (l := l) (i := i3) (e := msE (decide (s ≤ 3)) 170 e3)
    rw [h4] at this
    exact this
  have ls : 0 ≤ s ∧ s < 256 := by
    have := tk_lt (k := 1) (l := l) (i := i2) (e := e2)
    rw [h3] at this
    exact this
  have hm : ∀ (b : Bool) (x y : Int), y ≠ 0 → msE b x y = y := fun b x y h => by unfold msE; rw [if_neg h]
  refine ⟨?_, l4, lk, ls, ?_⟩
  all_goals
    unfold rumE
    by_cases c1 : l.length < i + 4
    · rw [tk_short c1] at h1
      cases h1
      rw [tk_err (by decide)] at h2
      cases h2
      rw [tk_err (by decide)] at h3
      cases h3
      rw [hm _ _ _ (by decide), tk_err (by decide)] at h4
      cases h4
      rw [if_pos (by omega)]
      first | (rw [hm _ _ _ (by decide), hm _ _ _ (by decide)]) | (intro h; cases h)
    rw [tk_ok (by omega)] at h1
    cases h1
    by_cases c2 : l.length < i + 4 + 4
    · rw [tk_short c2] at h2
      cases h2
      rw [tk_err (by decide)] at h3
      cases h3
      rw [hm _ _ _ (by decide), tk_err (by decide)] at h4
      cases h4
      rw [if_pos (by omega)]
      first | (rw [hm _ _ _ (by decide), hm _ _ _ (by decide)]) | (intro h; cases h)
    rw [tk_ok (by omega)] at h2
    cases h2
    by_cases c3 : l.length < i + 4 + 4 + 1
    · rw [tk_short c3] at h3
      cases h3
      rw [hm _ _ _ (by decide), tk_err (by decide)] at h4
      cases h4
      rw [if_pos (by omega)]
      first | (rw [hm _ _ _ (by decide), hm _ _ _ (by decide)]) | (intro h; cases h)
    rw [tk_ok (by omega)] at h3
    cases h3
    rw [if_neg (by omega)]
    rw [show i + 4 + 4 = i + 8 by omega] at *
    by_cases c4 : 3 < vat 1 l (i + 8)
    · rw [show msE (decide (vat 1 l (i + 8) ≤ 3)) 170 0 = 170 by rw [decide_eq_false (by omega)]; rfl, tk_err (by decide)] at h4
      cases h4
      rw [if_pos c4]
      first | (rw [hm _ _ _ (by decide), hm _ _ _ (by decide)]) | (intro h; cases h)
    rw [show msE (decide (vat 1 l (i + 8) ≤ 3)) 170 0 = 0 by rw [decide_eq_true (by omega)]; rfl] at h4
    rw [if_neg c4]
    by_cases c5 : l.length < i + 8 + 1 + 2
    · rw [tk_short c5] at h4
      cases h4
      rw [if_pos (by omega)]
      first | (rw [hm _ _ _ (by decide), hm _ _ _ (by decide)]) | (intro h; cases h)
    rw [tk_ok (by omega)] at h4
    cases h4
    rw [if_neg (by omega)]
    rw [show i + 8 + 1 = i + 9 by omega] at *
    by_cases c6 : 400 < vat 2 l (i + 9)
    · rw [if_pos c6]
      first | (rw [show msE (decide (vat 2 l (i + 9) ≤ 400)) 170 0 = 170 by rw [decide_eq_false (by omega)]; rfl, hm _ _ _ (by decide)]) | (intro h; cases h)
    rw [if_neg c6]
    by_cases c7 : (l.length : Int) < ((i + 11 : Nat) : Int) + vat 2 l (i + 9)
    · rw [if_pos c7]
      first | (rw [show msE (decide (vat 2 l (i + 9) ≤ 400)) 170 0 = 0 by rw [decide_eq_true (by omega)]; rfl, show decide (vat 2 l (i + 9) ≤ (l.length : Int) - ((i + 9 + 2 : Nat) : Int)) = false by rw [decide_eq_false]; omega]; rfl) | (intro h; cases h)
    rw [if_neg c7]
    first | (rw [show msE (decide (vat 2 l (i + 9) ≤ 400)) 170 0 = 0 by rw [decide_eq_true (by omega)]; rfl, show decide (vat 2 l (i + 9) ≤ (l.length : Int) - ((i + 9 + 2 : Nat) : Int)) = true by rw [decide_eq_true]; omega]; rfl) | (intro _; exact ⟨rfl, rfl, rfl, rfl, by omega⟩)
/-! ### The head -/
def hdE (l : List UInt8) : Int :=
  if l.length < 1 then 6 else if headB (vat 1 l 0) 0 = false then 190 else if l.length < 9 then 6 else if headB (vat 1 l 0) (vat 4 l 5) = false then 190 else if l.length < 10 then 6 else if 32 < vat 1 l 9 then 2 else 0
theorem hd_chain (l : List UInt8) (k s t q : Int) (i1 i2 i3 i4 : Nat) (e1 e2 e3 e4 : Int)
    (h1 : tk 1 l 0 0 = (k, i1, e1)) (h2 : tk 4 l i1 (msE (headB k 0) 190 e1) = (s, i2, e2)) (h3 : tk 4 l i2 e2 = (t, i3, e3)) (h4 : tk 1 l i3 (msE (headB k t) 190 e3) = (q, i4, e4)) :
    msE (decide (q ≤ 32)) 2 e4 = hdE l ∧ i4 ≤ l.length ∧ (0 ≤ q ∧ q < 256) ∧ (hdE l = 0 → k = vat 1 l 0 ∧ s = vat 4 l 1 ∧ t = vat 4 l 5 ∧ q = vat 1 l 9 ∧ i4 = 10) := by
  have l4 : i4 ≤ l.length := by
    have g1 := tk_le (k := 1) (e := 0) (Nat.zero_le l.length)
    rw [h1] at g1
    have g2 := tk_le (k := 4) (e := msE (headB k 0) 190 e1) g1
    rw [h2] at g2
    have g3 := tk_le (k := 4) (e := e2) g2
    rw [h3] at g3
    have g4 := tk_le (k := 1) (e := msE (headB k t) 190 e3) g3
    rw [h4] at g4
    exact g4
  have lq : 0 ≤ q ∧ q < 256 := by
    have := tk_lt (k := 1) (l := l) (i := i3) (e := msE (headB k t) 190 e3)
    rw [h4] at this
    exact this
  have hm : ∀ (b : Bool) (x y : Int), y ≠ 0 → msE b x y = y := fun b x y h => by unfold msE; rw [if_neg h]
  refine ⟨?_, l4, lq, ?_⟩
  all_goals
    unfold hdE
    by_cases c1 : l.length < 1
    · rw [tk_short (by omega)] at h1
      cases h1
      rw [hm _ _ _ (by decide), tk_err (by decide)] at h2
      cases h2
      rw [tk_err (by decide)] at h3
      cases h3
      rw [hm _ _ _ (by decide), tk_err (by decide)] at h4
      cases h4
      rw [if_pos c1]
      first | (rw [hm _ _ _ (by decide)]) | (intro h; cases h)
    rw [tk_ok (by omega)] at h1
    cases h1
    rw [if_neg c1]
    cases c2 : headB (vat 1 l 0) 0 with
    | false =>
      rw [c2, show msE false 190 0 = 190 from rfl, tk_err (by decide)] at h2
      cases h2
      rw [tk_err (by decide)] at h3
      cases h3
      rw [hm _ _ _ (by decide), tk_err (by decide)] at h4
      cases h4
      rw [if_pos rfl]
      first | (rw [hm _ _ _ (by decide)]) | (intro h; cases h)
    | true =>
    rw [if_neg (by decide)]
    rw [c2, show msE true 190 0 = 0 from rfl] at h2
    by_cases c3 : l.length < 0 + 1 + 4
    · rw [tk_short c3] at h2
      cases h2
      rw [tk_err (by decide)] at h3
      cases h3
      rw [hm _ _ _ (by decide), tk_err (by decide)] at h4
      cases h4
      rw [if_pos (by omega)]
      first | (rw [hm _ _ _ (by decide)]) | (intro h; cases h)
    rw [tk_ok (by omega)] at h2
    cases h2
    by_cases c4 : l.length < 0 + 1 + 4 + 4
    · rw [tk_short c4] at h3
      cases h3
      rw [hm _ _ _ (by decide), tk_err (by decide)] at h4
      cases h4
      rw [if_pos (by omega)]
      first | (rw [hm _ _ _ (by decide)]) | (intro h; cases h)
    rw [tk_ok (by omega)] at h3
    cases h3
    rw [if_neg (by omega)]
    rw [show 0 + 1 + 4 + 4 = 9 from rfl, show 0 + 1 + 4 = 5 from rfl] at *
    cases c5 : headB (vat 1 l 0) (vat 4 l 5) with
    | false =>
      rw [c5, show msE false 190 0 = 190 from rfl, tk_err (by decide)] at h4
      cases h4
      rw [if_pos rfl]
      first | (rw [hm _ _ _ (by decide)]) | (intro h; cases h)
    | true =>
    rw [if_neg (by decide)]
    rw [c5, show msE true 190 0 = 0 from rfl] at h4
    by_cases c6 : l.length < 9 + 1
    · rw [tk_short c6] at h4
      cases h4
      rw [if_pos (by omega)]
      first | (rw [hm _ _ _ (by decide)]) | (intro h; cases h)
    rw [tk_ok (by omega)] at h4
    cases h4
    rw [if_neg (by omega)]
    by_cases c7 : 32 < vat 1 l 9
    · rw [if_pos c7]
      first | (rw [decide_eq_false (by omega)]; rfl) | (intro h; cases h)
    · rw [if_neg c7]
      first | (rw [decide_eq_true (by omega)]; rfl) | (intro _; exact ⟨rfl, rfl, rfl, rfl, rfl⟩)
/-! ### All of them -/
def rums (l : List UInt8) : Nat → Nat → List Mb × Nat × Int
  | 0, i => ([], i, 0)
  | n + 1, i => if rumE l i = 0 then (rumM l i :: (rums l n (rumN l i)).1, (rums l n (rumN l i)).2) else ([], 0, rumE l i)
/-- How bytes are refused. -/
def unpE (l : List UInt8) : Int :=
  if 16384 < l.length then 2 else if hdE l = 0 then (if (rums l (vat 1 l 9).toNat 10).2.2 = 0 then (if (rums l (vat 1 l 9).toNat 10).2.1 = l.length then 0 else 60) else (rums l (vat 1 l 9).toNat 10).2.2) else hdE l
def uL (l : List UInt8) : List Mb := if unpE l = 0 then (rums l (vat 1 l 9).toNat 10).1 else []
def uK (l : List UInt8) : Int := if unpE l = 0 then vat 1 l 0 else 0
def uS (l : List UInt8) : Int := if unpE l = 0 then vat 4 l 1 else 0
def uT (l : List UInt8) : Int := if unpE l = 0 then vat 4 l 5 else 0
def UnpP (w : World) (l : List UInt8) (e : Ending) (w' : World) : Prop :=
  ∃ A1 c1, e = .returned (.tuple #[pkVal (uK l) (uS l) (uT l) A1 (uL l).length c1, .int .i64 (unpE l)]) ∧ Rd w' 4 A1 (uL l).length c1 (mbs (uL l)) ∧ Below w.heap.size w w'
theorem unpP_no {w : World} {l : List UInt8} {e : Ending} {w' : World} (x : Int) (hx : unpE l = x) (hx0 : x ≠ 0) (he : e = .returned (.tuple #[pkVal 0 0 0 none 0 0, .int .i64 x])) (hb : Below w.heap.size w w') : UnpP w l e w' := by
  have h0 : ¬ unpE l = 0 := by rw [hx]; exact hx0
  refine ⟨none, 0, ?_, ?_, hb⟩
  · unfold uK uS uT uL
    rw [if_neg h0, if_neg h0, if_neg h0, if_neg h0, hx]
    exact he
  · unfold uL
    rw [if_neg h0]
    exact Rd.nil _ _
theorem unpP_ok {w : World} {l : List UInt8} {e : Ending} {w' : World} {k s t : Int} {A1 : Option Addr} {n c1 : Nat} {X : List Mb} (hx : unpE l = 0) (hk : k = vat 1 l 0) (hs : s = vat 4 l 1) (ht : t = vat 4 l 5) (hX : X = (rums l (vat 1 l 9).toNat 10).1) (he : e = .returned (.tuple #[pkVal k s t A1 n c1, .int .i64 0])) (hr : Rd w' 4 A1 n c1 (mbs X)) (hb : Below w.heap.size w w') : UnpP w l e w' := by
  have hu : uL l = X := by unfold uL; rw [if_pos hx, hX]
  have hn := Rd.mbs hr
  refine ⟨A1, c1, ?_, ?_, hb⟩
  · unfold uK uS uT
    rw [hu, if_pos hx, if_pos hx, if_pos hx, hx, ← hk, ← hs, ← ht, hn]
    exact he
  · rw [hu, hn]
    exact hr
/-- All are read but the first i; the walk's word. -/
theorem rums_snoc {l : List UInt8} {n i : Nat} (h : rumE l i = 0) : rums l (n + 1) i = (rumM l i :: (rums l n (rumN l i)).1, (rums l n (rumN l i)).2) := by
  rw [rums, if_pos h]
theorem rums_no {l : List UInt8} {n i : Nat} (h : rumE l i ≠ 0) : rums l (n + 1) i = ([], 0, rumE l i) := by
  rw [rums, if_neg h]
theorem rumN_le {l : List UInt8} {i : Nat} (h : rumE l i = 0) : rumN l i ≤ l.length := by
  have h0 := vat_nonneg 2 l (i + 9)
  unfold rumE at h
  unfold rumN
  repeat' split at h
  all_goals first | omega | (cases h)
end Go.Proofs.Ytijpfhgcdncmhaa
