/- gossip: packets and their bytes, in plain words: what is written is read, what is read is written. -/
import Derived.Test.YtijpfhgcdncmhaaGF
namespace Go.Proofs.Ytijpfhgcdncmhaa
open Go.RowKit Go.HL
set_option linter.unusedVariables false
set_option linter.unusedSimpArgs false

theorem val_inj : ∀ (n : Nat) (l m : List UInt8), l.length = n → m.length = n → val l = val m → l = m
  | 0, l, m, h1, h2, _ => by rw [List.eq_nil_of_length_eq_zero h1, List.eq_nil_of_length_eq_zero h2]
  | n + 1, l, m, h1, h2, h => by
    obtain ⟨a, x, rfl⟩ : ∃ a x, l = a ++ [x] := by
      rcases List.eq_nil_or_concat l with rfl | ⟨a, x, h⟩
      · simp at h1
      · exact ⟨a, x, by rw [h, List.concat_eq_append]⟩
    obtain ⟨b, y, rfl⟩ : ∃ b y, m = b ++ [y] := by
      rcases List.eq_nil_or_concat m with rfl | ⟨b, y, h⟩
      · simp at h2
      · exact ⟨b, y, by rw [h, List.concat_eq_append]⟩
    rw [val_snoc, val_snoc] at h
    have hx := x.toNat_lt
    have hy := y.toNat_lt
    simp at h1 h2
    have hxy : x = y := UInt8.toNat_inj.1 (by omega)
    subst hxy
    rw [val_inj n a b h1 h2 (by omega)]
theorem be_val (l : List UInt8) : be l.length (val l) = l := by
  apply val_inj l.length _ _ (be_length _ _) rfl
  rw [val_be]
  exact Int.emod_eq_of_lt (val_nonneg l) (val_lt l)
theorem be_vat (k : Nat) (l : List UInt8) (i : Nat) (h : i + k ≤ l.length) : be k (vat k l i) = (l.drop i).take k := by
  have h1 : ((l.drop i).take k).length = k := by simp; omega
  have h2 := be_val ((l.drop i).take k)
  rw [h1] at h2
  exact h2
theorem vat_mid (p m q : List UInt8) (k i : Nat) (hi : p.length = i) (hk : m.length = k) : vat k (p ++ m ++ q) i = val m := by
  unfold vat; rw [mid_take p m q i k hi hk]
theorem vat_be (p q : List UInt8) (k i : Nat) (v : Int) (hi : p.length = i) (h0 : 0 ≤ v) (h1 : v < 256 ^ k) (L : List UInt8) (hL : L = p ++ be k v ++ q) : vat k L i = v := by
  rw [hL, vat_mid p _ q k i hi (be_length _ _), val_be]
  exact Int.emod_eq_of_lt h0 h1
theorem rumE_zero (l : List UInt8) (i : Nat) : rumE l i = 0 ↔ (i + 11 ≤ l.length ∧ vat 1 l (i + 8) ≤ 3 ∧ vat 2 l (i + 9) ≤ 400 ∧ rumN l i ≤ l.length) := by
  have h0 := vat_nonneg 2 l (i + 9)
  unfold rumE rumN
  constructor
  · intro h
    repeat' split at h
    all_goals first | (refine ⟨?_, ?_, ?_, ?_⟩ <;> omega) | (cases h)
  · rintro ⟨h1, h2, h3, h4⟩
    rw [if_neg (by omega), if_neg (by omega), if_neg (by omega), if_neg (by omega), if_neg (by omega)]
theorem mayB_iff (m : Mb) : mayB m = true ↔ m.st ≤ 3 ∧ m.me.size ≤ 400 := by simp [mayB]
theorem rum_enc (p q : List UInt8) (m : Mb) (hok : m.ok) (hmay : mayB m = true) :
    rumE (p ++ enc m ++ q) p.length = 0 ∧ rumM (p ++ enc m ++ q) p.length = m ∧ rumN (p ++ enc m ++ q) p.length = p.length + (enc m).length := by
  obtain ⟨hs, hz⟩ := (mayB_iff m).1 hmay
  have e1 : vat 4 (p ++ enc m ++ q) p.length = m.ad := vat_be p (be 4 m.inc ++ be 1 m.st ++ be 2 (m.me.size : Int) ++ m.me.data.toList ++ q) 4 _ _ rfl hok.a0 (by simpa using hok.a1) _ (by simp [enc, List.append_assoc])
  have e2 : vat 4 (p ++ enc m ++ q) (p.length + 4) = m.inc := vat_be (p ++ be 4 m.ad) (be 1 m.st ++ be 2 (m.me.size : Int) ++ m.me.data.toList ++ q) 4 _ _ (by simp [be_length]) hok.i0 (by simpa using hok.i1) _ (by simp [enc, List.append_assoc])
  have e3 : vat 1 (p ++ enc m ++ q) (p.length + 8) = m.st := vat_be (p ++ be 4 m.ad ++ be 4 m.inc) (be 2 (m.me.size : Int) ++ m.me.data.toList ++ q) 1 _ _ (by simp [be_length]) hok.s0 (by simpa using hok.s1) _ (by simp [enc, List.append_assoc])
  have e4 : vat 2 (p ++ enc m ++ q) (p.length + 9) = (m.me.size : Int) := vat_be (p ++ be 4 m.ad ++ be 4 m.inc ++ be 1 m.st) (m.me.data.toList ++ q) 2 _ _ (by simp [be_length]) (by omega) (by simp; omega) _ (by simp [enc, List.append_assoc])
  have e5 : ((p ++ enc m ++ q).drop (p.length + 11)).take m.me.size = m.me.data.toList := by
    have h := mid_take (p ++ be 4 m.ad ++ be 4 m.inc ++ be 1 m.st ++ be 2 (m.me.size : Int)) m.me.data.toList q (p.length + 11) m.me.size (by simp [be_length]) (by rw [Array.length_toList]; rfl)
    rw [show p ++ enc m ++ q = p ++ be 4 m.ad ++ be 4 m.inc ++ be 1 m.st ++ be 2 (m.me.size : Int) ++ m.me.data.toList ++ q by simp [enc, List.append_assoc]]
    exact h
  have hlen : (p ++ enc m ++ q).length = p.length + 11 + m.me.size + q.length := by simp [enc_len]; omega
  have hN : rumN (p ++ enc m ++ q) p.length = p.length + (enc m).length := by unfold rumN; rw [e4, enc_len]; omega
  refine ⟨(rumE_zero _ _).2 ⟨by omega, by rw [e3]; exact hs, by rw [e4]; omega, by rw [hN, enc_len]; omega⟩, ?_, hN⟩
  unfold rumM
  rw [e1, e2, e3, e4, Int.toNat_natCast, e5]
  have : str m.me.data.toList = m.me := by simp [str]
  rw [this]
theorem rums_enc : ∀ (X : List Mb) (p q : List UInt8), (∀ m ∈ X, m.ok ∧ mayB m = true) → rums (p ++ encs X ++ q) X.length p.length = (X, p.length + (encs X).length, 0)
  | [], p, q, _ => by simp [rums, encs]
  | m :: X, p, q, h => by
    obtain ⟨h1, h2, h3⟩ := rum_enc p (encs X ++ q) m (h m (by simp)).1 (h m (by simp)).2
    have he : p ++ encs (m :: X) ++ q = p ++ enc m ++ (encs X ++ q) := by simp [encs, List.append_assoc]
    have ih := rums_enc X (p ++ enc m) q (fun m' hm => h m' (by simp [hm]))
    rw [he, List.length_cons, rums_snoc h1, h2, h3]
    rw [show p ++ enc m ++ encs X ++ q = p ++ enc m ++ (encs X ++ q) by simp [List.append_assoc], show (p ++ enc m).length = p.length + (enc m).length by simp] at ih
    rw [ih]
    simp [encs]
    omega
theorem vat_ext (p q : List UInt8) (k i : Nat) (h : i + k ≤ p.length) : vat k (p ++ q) i = vat k p i := by
  unfold vat
  rw [List.drop_append_of_le_length (by omega), List.take_append_of_le_length (by simp; omega)]
theorem rum_ext (p q : List UInt8) (i : Nat) (h : rumE p i = 0) : rumE (p ++ q) i = 0 ∧ rumM (p ++ q) i = rumM p i ∧ rumN (p ++ q) i = rumN p i := by
  obtain ⟨h1, h2, h3, h4⟩ := (rumE_zero p i).1 h
  have e1 := vat_ext p q 4 i (by omega)
  have e2 := vat_ext p q 4 (i + 4) (by omega)
  have e3 := vat_ext p q 1 (i + 8) (by omega)
  have e4 := vat_ext p q 2 (i + 9) (by omega)
  have hN : rumN (p ++ q) i = rumN p i := by unfold rumN; rw [e4]
  refine ⟨(rumE_zero _ _).2 ⟨by simp; omega, by rw [e3]; exact h2, by rw [e4]; exact h3, by rw [hN]; simp; omega⟩, ?_, hN⟩
  unfold rumM
  rw [e1, e2, e3, e4]
  unfold rumN at h4
  rw [List.drop_append_of_le_length (by omega), List.take_append_of_le_length (by simp; omega)]
theorem rums_ext (p q : List UInt8) : ∀ (n i : Nat) (X : List Mb) (j : Nat), rums p n i = (X, j, 0) → rums (p ++ q) n i = (X, j, 0)
  | 0, i, X, j, h => h
  | n + 1, i, X, j, h => by
    by_cases h0 : rumE p i = 0
    · obtain ⟨h1, h2, h3⟩ := rum_ext p q i h0
      rw [rums_snoc h0] at h
      rw [rums_snoc h1, h2, h3]
      obtain ⟨Y, j', e', hr⟩ : ∃ Y j' e', rums p n (rumN p i) = (Y, j', e') := ⟨_, _, _, rfl⟩
      rw [hr] at h
      simp only [Prod.mk.injEq] at h
      obtain ⟨rfl, rfl, rfl⟩ := h
      rw [rums_ext p q n (rumN p i) Y j' hr]
    · rw [rums_no h0] at h
      simp only [Prod.mk.injEq] at h
      exact absurd h.2.2 h0
theorem rum_back (l : List UInt8) (i : Nat) (h : rumE l i = 0) : enc (rumM l i) = (l.drop i).take (rumN l i - i) ∧ (rumM l i).ok ∧ mayB (rumM l i) = true := by
  obtain ⟨h1, h2, h3, h4⟩ := (rumE_zero l i).1 h
  have h0 := vat_nonneg 2 l (i + 9)
  have hN : rumN l i = i + 11 + (vat 2 l (i + 9)).toNat := rfl
  have hlen : ((l.drop (i + 11)).take (vat 2 l (i + 9)).toNat).length = (vat 2 l (i + 9)).toNat := by simp; omega
  have hsz : (rumM l i).me.size = (vat 2 l (i + 9)).toNat := by unfold rumM; rw [str_size, hlen]
  refine ⟨?_, ⟨vat_nonneg _ _ _, by simpa [rumM] using vat_lt 4 l i, vat_nonneg _ _ _, by simpa [rumM] using vat_lt 4 l (i + 4), vat_nonneg _ _ _, by simpa [rumM] using vat_lt 1 l (i + 8)⟩, (mayB_iff _).2 ⟨h2, by rw [hsz]; omega⟩⟩
  have hc : ((vat 2 l (i + 9)).toNat : Int) = vat 2 l (i + 9) := by omega
  unfold enc
  rw [hsz, hc]
  show be 4 (vat 4 l i) ++ be 4 (vat 4 l (i + 4)) ++ be 1 (vat 1 l (i + 8)) ++ be 2 (vat 2 l (i + 9)) ++ (str ((l.drop (i + 11)).take (vat 2 l (i + 9)).toNat)).data.toList = _
  rw [str_toList, be_vat 4 l i (by omega), be_vat 4 l (i + 4) (by omega), be_vat 1 l (i + 8) (by omega), be_vat 2 l (i + 9) (by omega)]
  rw [show rumN l i - i = 4 + (4 + (1 + (2 + (vat 2 l (i + 9)).toNat))) by omega]
  simp only [List.take_add, List.drop_drop, List.append_assoc]
theorem rums_back (l : List UInt8) : ∀ (n i : Nat) (X : List Mb) (j : Nat), rums l n i = (X, j, 0) → i ≤ l.length → j ≤ l.length ∧ i ≤ j ∧ encs X = (l.drop i).take (j - i) ∧ X.length = n ∧ ∀ m ∈ X, m.ok ∧ mayB m = true
  | 0, i, X, j, h, hi => by
    simp only [rums, Prod.mk.injEq] at h
    obtain ⟨rfl, rfl, _⟩ := h
    exact ⟨hi, Nat.le_refl _, by simp [encs], rfl, fun m hm => by cases hm⟩
  | n + 1, i, X, j, h, hi => by
    by_cases h0 : rumE l i = 0
    · rw [rums_snoc h0] at h
      obtain ⟨Y, j', e', hr⟩ : ∃ Y j' e', rums l n (rumN l i) = (Y, j', e') := ⟨_, _, _, rfl⟩
      rw [hr] at h
      simp only [Prod.mk.injEq] at h
      obtain ⟨rfl, rfl, rfl⟩ := h
      obtain ⟨g1, g2, g3⟩ := rum_back l i h0
      have hN : i ≤ rumN l i := by unfold rumN; omega
      obtain ⟨k1, k2, k3, k4, k5⟩ := rums_back l n (rumN l i) Y j' hr (rumN_le h0)
      refine ⟨k1, by omega, ?_, by simp [k4], fun m hm => ?_⟩
      · show enc (rumM l i) ++ encs Y = _
        rw [g1, k3, show j' - i = (rumN l i - i) + (j' - rumN l i) by omega, List.take_add, List.drop_drop, show i + (rumN l i - i) = rumN l i by omega]
      · rcases List.mem_cons.1 hm with rfl | hm
        · exact ⟨g2, g3⟩
        · exact k5 m hm
    · rw [rums_no h0] at h
      simp only [Prod.mk.injEq] at h
      exact absurd h.2.2 h0
/-! ### Whole packets -/
theorem head_zero {k t : Int} (h : headB k t = true) : headB k 0 = true := by
  simp only [headB, Bool.and_eq_true, Bool.or_eq_true, decide_eq_true_eq] at h ⊢
  exact ⟨h.1, h.2.1, .inl trivial⟩
theorem hdE_zero (l : List UInt8) : hdE l = 0 ↔ (10 ≤ l.length ∧ headB (vat 1 l 0) (vat 4 l 5) = true ∧ vat 1 l 9 ≤ 32) := by
  unfold hdE
  constructor
  · intro h
    by_cases c1 : l.length < 1
    · rw [if_pos c1] at h; cases h
    rw [if_neg c1] at h
    cases c2 : headB (vat 1 l 0) 0 with
    | false => rw [c2, if_pos rfl] at h; cases h
    | true =>
      rw [c2, if_neg (by decide)] at h
      by_cases c3 : l.length < 9
      · rw [if_pos c3] at h; cases h
      rw [if_neg c3] at h
      cases c4 : headB (vat 1 l 0) (vat 4 l 5) with
      | false => rw [c4, if_pos rfl] at h; cases h
      | true =>
        rw [c4, if_neg (by decide)] at h
        by_cases c5 : l.length < 10
        · rw [if_pos c5] at h; cases h
        rw [if_neg c5] at h
        by_cases c6 : 32 < vat 1 l 9
        · rw [if_pos c6] at h; cases h
        exact ⟨by omega, rfl, by omega⟩
  · rintro ⟨h1, h2, h3⟩
    rw [if_neg (by omega), head_zero h2, if_neg (by decide), if_neg (by omega), h2, if_neg (by decide), if_neg (by omega), if_neg (by omega)]
theorem unpE_zero (l : List UInt8) : unpE l = 0 ↔ (l.length ≤ 16384 ∧ hdE l = 0 ∧ (rums l (vat 1 l 9).toNat 10).2 = (l.length, 0)) := by
  unfold unpE
  generalize rums l (vat 1 l 9).toNat 10 = r
  obtain ⟨X, j, e⟩ := r
  constructor
  · intro h
    by_cases c1 : 16384 < l.length
    · rw [if_pos c1] at h; cases h
    rw [if_neg c1] at h
    by_cases c2 : hdE l = 0
    · rw [if_pos c2] at h
      dsimp only at h
      by_cases c3 : e = 0
      · rw [if_pos c3] at h
        by_cases c4 : j = l.length
        · exact ⟨by omega, c2, by rw [c3, c4]⟩
        · rw [if_neg c4] at h; cases h
      · rw [if_neg c3] at h
        exact absurd h c3
    · rw [if_neg c2] at h
      exact absurd h c2
  · rintro ⟨h1, h2, h3⟩
    simp only [Prod.mk.injEq] at h3
    obtain ⟨rfl, rfl⟩ := h3
    rw [if_neg (by omega), if_pos h2, if_pos rfl, if_pos rfl]
theorem uL_rums {l : List UInt8} (h : unpE l = 0) : rums l (vat 1 l 9).toNat 10 = (uL l, l.length, 0) := by
  have h1 := ((unpE_zero l).1 h).2.2
  unfold uL
  rw [if_pos h, ← h1]
/-- A packet has one form. -/
theorem unp_prefix (p q : List UInt8) (hp : unpE p = 0) (hq : unpE (p ++ q) = 0) : q = [] := by
  have h1 := uL_rums hp
  have h2 := uL_rums hq
  have hd := (hdE_zero p).1 ((unpE_zero p).1 hp).2.1
  rw [vat_ext p q 1 9 (by omega)] at h2
  have h3 := rums_ext p q _ _ _ _ h1
  rw [h3] at h2
  simp only [Prod.mk.injEq] at h2
  have h4 := h2.2.1
  simp at h4
  exact h4
/-- What is read is written as it was. -/
theorem unp_one (l : List UInt8) (h : unpE l = 0) : packE (uK l) (uT l) (uL l) = 0 ∧ packB (uK l) (uS l) (uT l) (uL l) = l ∧ (∀ m ∈ uL l, m.ok) ∧ (0 ≤ uK l ∧ uK l < 256) ∧ (0 ≤ uS l ∧ uS l < 4294967296) ∧ (0 ≤ uT l ∧ uT l < 4294967296) := by
  obtain ⟨g1, g2, g3⟩ := (unpE_zero l).1 h
  obtain ⟨k1, k2, k3⟩ := (hdE_zero l).1 g2
  have hr := uL_rums h
  obtain ⟨b1, b2, b3, b4, b5⟩ := rums_back l _ _ _ _ hr (by omega)
  have q0 := vat_nonneg 1 l 9
  have eK : uK l = vat 1 l 0 := by unfold uK; rw [if_pos h]
  have eS : uS l = vat 4 l 1 := by unfold uS; rw [if_pos h]
  have eT : uT l = vat 4 l 5 := by unfold uT; rw [if_pos h]
  have hE : packE (uK l) (uT l) (uL l) = 0 := by
    rw [eK, eT]
    apply packE_ok k2 (by omega)
    intro j m hj
    exact (b5 m (List.mem_of_getElem? hj)).2
  refine ⟨hE, ?_, fun m hm => (b5 m hm).1, ?_, ?_, ?_⟩
  · unfold packB
    rw [if_pos hE, b3, eK, eS, eT]
    unfold hdr
    rw [show ((uL l).length : Int) = vat 1 l 9 by omega, be_vat 1 l 0 (by omega), be_vat 4 l 1 (by omega), be_vat 4 l 5 (by omega), be_vat 1 l 9 (by omega)]
    have : l = l.take (1 + (4 + (4 + (1 + (l.length - 10))))) := by rw [List.take_of_length_le (by omega)]
    conv => rhs; rw [this]
    simp only [List.take_add, List.drop_drop, List.append_assoc, List.drop_zero]
  · rw [eK]; exact ⟨vat_nonneg _ _ _, by simpa using vat_lt 1 l 0⟩
  · rw [eS]; exact ⟨vat_nonneg _ _ _, by simpa using vat_lt 4 l 1⟩
  · rw [eT]; exact ⟨vat_nonneg _ _ _, by simpa using vat_lt 4 l 5⟩
theorem encs_len (X : List Mb) (h : ∀ m ∈ X, m.ok ∧ mayB m = true) : (encs X).length ≤ 411 * X.length := by
  induction X with
  | nil => simp [encs]
  | cons m X ih =>
    have h1 := ih (fun m' hm => h m' (by simp [hm]))
    have h2 := ((mayB_iff m).1 (h m (by simp)).2).2
    simp only [encs, List.flatMap_cons, List.length_append, List.length_cons, enc_len] at h1 ⊢
    omega
/-- What is written is read as it was. -/
theorem unp_back (k s t : Int) (X : List Mb) (hE : packE k t X = 0) (hok : ∀ m ∈ X, m.ok) (k0 : 0 ≤ k) (k1 : k < 256) (s0 : 0 ≤ s) (s1 : s < 4294967296) (t0 : 0 ≤ t) (t1 : t < 4294967296) :
    unpE (packB k s t X) = 0 ∧ uK (packB k s t X) = k ∧ uS (packB k s t X) = s ∧ uT (packB k s t X) = t ∧ uL (packB k s t X) = X ∧ (packB k s t X).length ≤ 16384 := by
  have hB : packB k s t X = hdr k s t X.length ++ encs X := by unfold packB; rw [if_pos hE]
  have hh : headB k t = true ∧ X.length ≤ 32 ∧ X.all mayB = true := by
    unfold packE at hE
    repeat' split at hE
    all_goals first | (cases hE; done) | exact ⟨by assumption, by assumption, by assumption⟩
  obtain ⟨h1, h2, h3⟩ := hh
  have hall : ∀ m ∈ X, m.ok ∧ mayB m = true := fun m hm => ⟨hok m hm, List.all_eq_true.1 h3 m hm⟩
  have hlen := encs_len X hall
  obtain ⟨L, hL⟩ : ∃ L, packB k s t X = L := ⟨_, rfl⟩
  rw [hL] at hB ⊢
  have hhl : (hdr k s t X.length).length = 10 := by simp [hdr, be_length]
  have hLl : L.length = 10 + (encs X).length := by rw [hB, List.length_append, hhl]
  have eK : vat 1 L 0 = k := vat_be [] (be 4 s ++ be 4 t ++ be 1 (X.length : Int) ++ encs X) 1 0 k rfl k0 (by simpa using k1) _ (by rw [hB]; simp [hdr, List.append_assoc])
  have eS : vat 4 L 1 = s := vat_be (be 1 k) (be 4 t ++ be 1 (X.length : Int) ++ encs X) 4 1 s (be_length _ _) s0 (by simpa using s1) _ (by rw [hB]; simp [hdr, List.append_assoc])
  have eT : vat 4 L 5 = t := vat_be (be 1 k ++ be 4 s) (be 1 (X.length : Int) ++ encs X) 4 5 t (by simp [be_length]) t0 (by simpa using t1) _ (by rw [hB]; simp [hdr, List.append_assoc])
  have eQ : vat 1 L 9 = (X.length : Int) := vat_be (be 1 k ++ be 4 s ++ be 4 t) (encs X) 1 9 _ (by simp [be_length]) (by omega) (by simp; omega) _ (by rw [hB]; simp [hdr, List.append_assoc])
  have hr : rums L (vat 1 L 9).toNat 10 = (X, L.length, 0) := by
    have h := rums_enc X (hdr k s t X.length) [] hall
    rw [List.append_nil, ← hB, hhl] at h
    rw [eQ, Int.toNat_natCast, h, hLl]
  have hz : unpE L = 0 := (unpE_zero L).2 ⟨by omega, (hdE_zero L).2 ⟨by omega, by rw [eK, eT]; exact h1, by rw [eQ]; omega⟩, by rw [hr]⟩
  refine ⟨hz, ?_, ?_, ?_, ?_, by omega⟩
  · unfold uK; rw [if_pos hz, eK]
  · unfold uS; rw [if_pos hz, eS]
  · unfold uT; rw [if_pos hz, eT]
  · unfold uL; rw [if_pos hz, hr]
end Go.Proofs.Ytijpfhgcdncmhaa
