/- Regions that draw their order and write: what holds hangs on which of the loud operations are done, and on what they yielded. No program in sight. -/
import Derived.Test.YtioehogncgloiaaRS
set_option linter.unusedVariables false
set_option linter.unusedSimpArgs false
namespace Go.HL
open Go.RowKit
section
variable {P : Program} {Q : Exit → Act → World → Prop}
/-- The operation's step, given what is done, what it yielded, and what holds. -/
def OwedX (S : Oper → (Act → World → Prop) → Act → World → Prop) (l : List Oper) (a : Act) (V : Nat → Value → World → Prop) (I : (Nat → Value) → (Nat → Bool) → World → Prop) (i : Nat) (o : Oper) : Prop :=
  ∀ (xs : Nat → Value) (d : Nat → Bool) (W : World), (∀ j p, l[j]? = some p → d j = true → ∀ k ∈ edges p, d k = true) → d i = false → (∀ j ∈ edges o, d j = true) → I xs d W → (∀ j, d j = true → V j (xs j) W) →
    (∀ j p, l[j]? = some p → d j = false → ∀ e, p.dst = some e → xs j = a.tmps.getD e undef) →
    ∀ K : Act → World → Prop, (∀ v W', I (upd xs i v) (upd d i true) W' → V i v W' → (∀ j, d j = true → V j (xs j) W') → K ((fillL a xs l 0).put o.dst v) W') → S o K (fillL a xs l 0) W

theorem region_anyX (S : Oper → (Act → World → Prop) → Act → World → Prop) (S' : Nat → (Act → World → Prop) → Act → World → Prop) {l : List Oper} {a : Act} {w : World} (Qn : Act → World → Prop)
    (hS : ∀ i o K a w, l[i]? = some o → S o K a w → S' i K a w)
    (V : Nat → Value → World → Prop) (I : (Nat → Value) → (Nat → Bool) → World → Prop) (hchk : specOk l = true) (h0 : ∀ xs, I xs (fun _ => false) w)
    (hob : Obl (OwedX S l a V I) l 0)
    (hQ : ∀ (xs : Nat → Value) (d : Nat → Bool) W, (∀ j, j < l.length → d j = true) → I xs d W → (∀ j, j < l.length → V j (xs j) W) → Qn (fillL a xs l 0) W) :
    anyG (Region.ready .any l.toArray) S' Qn l.toArray.size (Array.replicate l.toArray.size false) a w := by
  refine anyG_of_inv (fun listed a' w' => listed.size = l.length ∧ (∀ j p, l[j]? = some p → listed.getD j false = true → ∀ k ∈ edges p, listed.getD k false = true) ∧
      ∃ xs, a' = fillL a xs l 0 ∧ I xs (fun j => listed.getD j false) w' ∧ (∀ j, listed.getD j false = true → V j (xs j) w') ∧ ∀ j p, l[j]? = some p → listed.getD j false = false → ∀ e, p.dst = some e → xs j = a.tmps.getD e undef) ?_ ?_ ?_ ?_ _ _ _ _ ?_ ?_
  · rintro listed a' w' ⟨hsz, hdown, xs, rfl, hI, hV, hZ⟩ hr
    have hall : ∀ i, i < l.length → listed.getD i false = true := by
      intro i
      induction i using Nat.strongRecOn with
      | ind i ih =>
        intro hi
        obtain ⟨o, ho⟩ : ∃ o, l[i]? = some o := ⟨l[i], List.getElem?_eq_getElem hi⟩
        apply Classical.byContradiction
        intro hn
        have : i ∈ Region.ready .any l.toArray listed := ready_of (o := o) (by simpa using ho) (by
          rw [Array.getD_eq_getD_getElem?, Array.getElem?_eq_getElem (by omega)] at hn ⊢
          simpa using hn) (fun j hj => by
            have hji := specOk.edge hchk ho hj
            exact ih j hji (by omega))
        rw [hr] at this
        cases this
    exact hQ xs _ w' hall hI (fun j hj => hV j (hall j hj))
  · rintro listed a' w' i ⟨hsz, hdown, xs, rfl, hI, hV, hZ⟩ hm K hK
    obtain ⟨o, ho, hl, he⟩ := mem_ready hm
    have ho' : l[i]? = some o := by simpa using ho
    have hil : i < l.length := (List.getElem?_eq_some_iff.1 ho').1
    have hlf : listed.getD i false = false := by
      rw [Array.getD_eq_getD_getElem?, Array.getElem?_eq_getElem (by omega)] at hl ⊢
      simpa using hl
    have hup : (fun j => (listed.setIfInBounds i true).getD j false) = upd (fun j => listed.getD j false) i true := by
      funext j
      simp only [upd, Array.getD_eq_getD_getElem?, Array.getElem?_setIfInBounds]
      by_cases hj : i = j
      · subst hj; simp [hsz, hil]
      · rw [if_neg hj, if_neg (fun h => hj h.symm)]
    have := hob.get ho' xs (fun j => listed.getD j false) w' hdown (by simpa using hlf) he hI hV hZ K
    rw [Nat.zero_add] at this
    refine hS i o K _ w' ho' (hob.get ho' xs (fun j => listed.getD j false) w' hdown (by simpa using hlf) he hI hV hZ K fun v W' hI' hv hV' => ?_)
    rw [Nat.zero_add] at hI' hv
    refine hK _ _ ⟨by simpa using hsz, ?_, upd xs i v, ?_, ?_, ?_, ?_⟩
    · intro j p hj hd k hk
      have h1 := congrFun hup k
      have h2 := congrFun hup j
      rw [h2] at hd
      rw [h1]
      by_cases hki : k = i
      · subst hki; exact upd_self _ _ _
      · rw [upd_ne _ _ hki]
        by_cases hji : j = i
        · subst hji
          rw [ho'] at hj
          cases hj
          exact he k hk
        · rw [upd_ne _ _ hji] at hd
          exact hdown j p hj hd k hk
    · have := fillL_upd (v := v) l a xs 0 i o ho' (fun j p hj hne e hde => specOk.dst hchk ho' hj (Ne.symm hne) hde)
      rw [Nat.zero_add] at this
      exact this.symm
    · rw [hup]; exact hI'
    · intro j hj
      rw [congrFun hup j] at hj
      by_cases hji : j = i
      · subst hji; rw [upd_self]; exact hv
      · rw [upd_ne _ _ hji] at hj ⊢
        exact hV' j hj
    · intro j p hj hd e hde
      rw [congrFun hup j] at hd
      by_cases hji : j = i
      · subst hji; rw [upd_self] at hd; cases hd
      · rw [upd_ne _ _ hji] at hd ⊢
        exact hZ j p hj hd e hde
  · rintro listed a' w' ⟨hsz, _⟩ hc
    have : ∀ i, i ∉ Region.ready .any l.toArray listed := by
      intro i hi
      obtain ⟨o, ho, hl, _⟩ := mem_ready hi
      have hil : i < listed.size := by rw [hsz]; exact (List.getElem?_eq_some_iff.1 (show l[i]? = some o by simpa using ho)).1
      rw [Array.getD_eq_getD_getElem?, Array.getElem?_eq_getElem hil] at hl
      have hmem : false ∈ listed.toList := by
        rw [← show listed[i] = false by simpa using hl]
        exact Array.mem_toList_iff.2 (Array.getElem_mem hil)
      have := List.count_pos_iff.2 hmem
      omega
    exact List.eq_nil_iff_forall_not_mem.2 this
  · rintro listed a' w' i ⟨hsz, _⟩ hi
    obtain ⟨o, ho, hl, _⟩ := mem_ready hi
    have hil : i < listed.size := by rw [hsz]; exact (List.getElem?_eq_some_iff.1 (show l[i]? = some o by simpa using ho)).1
    rw [Array.toList_setIfInBounds]
    apply count_set
    rw [Array.getD_eq_getD_getElem?, Array.getElem?_eq_getElem hil] at hl
    simp only [Option.getD_some] at hl
    rw [Array.getElem?_toList, Array.getElem?_eq_getElem hil, hl]
  · simp
  · obtain ⟨xs, h1, hself⟩ := fillL_self l a 0
    refine ⟨by simp, fun j p _ hd => ?_, xs, h1.symm, ?_, fun j hd => ?_, fun j p hj _ e hde => by have := hself p j hj e hde; rwa [Nat.zero_add] at this⟩
    · simp [Array.getD_eq_getD_getElem?, Array.getElem?_replicate] at hd
      split at hd <;> simp at hd
    · have : (fun j => (Array.replicate l.toArray.size false).getD j false) = fun _ => false := by
        funext j
        simp only [Array.getD_eq_getD_getElem?, Array.getElem?_replicate]
        split <;> rfl
      rw [this]; exact h0 xs
    · simp [Array.getD_eq_getD_getElem?, Array.getElem?_replicate] at hd
      split at hd <;> simp at hd

/-- **A region that draws its order, told by what each value is.** -/
theorem wp_region_specX {id : Nat} {l : List Oper} {a : Act} {w : World} (hm : P.follows .mixedOrders = true) (hchk : specOk l = true)
    (V : Nat → Value → World → Prop) (I : (Nat → Value) → (Nat → Bool) → World → Prop) (h0 : ∀ xs, I xs (fun _ => false) w.drew)
    (hob : Obl (OwedX (fun o K a w => if Region.wanted o (yielded l.toArray a.tmps) then o.wp P a w K Q else K (a.put o.dst undef) w) l a V I) l 0)
    (hQ : ∀ (xs : Nat → Value) (d : Nat → Bool) W, (∀ j, j < l.length → d j = true) → I xs d W → (∀ j, j < l.length → V j (xs j) W) → Q .normal (fillL a xs l 0) W) :
    (Code.region id l.toArray true).wp P Q a w := by
  refine wp_region_any hm ?_
  rw [wpAny_eq]
  refine region_anyX _ _ _ (fun i o K a w ho h => ?_) V I hchk h0 hob hQ
  unfold wpOp
  rw [show l.toArray[i]? = some o by simpa using ho]
  simp only
  split
  · rename_i hw; rw [if_pos hw] at h; exact .inl h
  · rename_i hw; rw [if_neg hw] at h; exact h

/-- **A region that writes: the loud operations are named; what holds hangs on which of them are done.** -/
theorem wp_region_loudX {id : Nat} {l : List Oper} {a : Act} {w : World} (hm : P.follows .mixedOrders = true) (hchk : specOk l = true) (fr : (Nat → Value) → Act) (hfr : ∀ xs, fillL a xs l 0 = fr xs)
    (loud : List Nat) (V : Nat → Value → World → Prop) (I : List Value → List Bool → World → Prop) (h0 : ∀ xs : Nat → Value, I (loud.map xs) (loud.map fun _ => false) w.drew)
    (hob : Obl (fun i o => ∀ (xs : Nat → Value) (d : Nat → Bool) (W : World), (∀ j ∈ edges o, d j = true) → (∀ k p, l[k]? = some p → i ∈ edges p → d k = false) → I (loud.map xs) (loud.map d) W → (∀ j, d j = true → V j (xs j) W) →
      if i ∈ loud then d i = false → OpGives P o (fr xs).eval W (fun v W' => I (loud.map (upd xs i v)) (loud.map (upd d i true)) W' ∧ V i v W' ∧ ∀ j, d j = true → V j (xs j) W') ∧ Region.wanted o (yielded l.toArray (fr xs).tmps) = true
      else if Region.wanted o (yielded l.toArray (fr xs).tmps) then OpGives P o (fr xs).eval W (fun v W' => W' = W ∧ V i v W) else V i undef W) l 0)
    (hQ : ∀ (xs : Nat → Value) W, I (loud.map xs) (loud.map fun _ => true) W → (∀ j, j < l.length → V j (xs j) W) → Q .normal (fr xs) W) (hl : ∀ i ∈ loud, i < l.length) : (Code.region id l.toArray true).wp P Q a w := by
  refine wp_region_specX hm hchk V (fun xs d W => I (loud.map xs) (loud.map d) W) (fun xs => h0 xs) ?_ (fun xs d W hd hI hV => by
    rw [hfr]
    refine hQ xs W ?_ hV
    rw [show loud.map (fun _ => true) = loud.map d from List.map_congr_left fun i hi => (hd i (hl i hi)).symm]
    exact hI)
  have key : ∀ (q : List Oper) (k : Nat), Obl (fun i o => ∀ (xs : Nat → Value) (d : Nat → Bool) (W : World), (∀ j ∈ edges o, d j = true) → (∀ k p, l[k]? = some p → i ∈ edges p → d k = false) → I (loud.map xs) (loud.map d) W → (∀ j, d j = true → V j (xs j) W) →
      if i ∈ loud then d i = false → OpGives P o (fr xs).eval W (fun v W' => I (loud.map (upd xs i v)) (loud.map (upd d i true)) W' ∧ V i v W' ∧ ∀ j, d j = true → V j (xs j) W') ∧ Region.wanted o (yielded l.toArray (fr xs).tmps) = true
      else if Region.wanted o (yielded l.toArray (fr xs).tmps) then OpGives P o (fr xs).eval W (fun v W' => W' = W ∧ V i v W) else V i undef W) q k →
      Obl (OwedX (fun o K a w => if Region.wanted o (yielded l.toArray a.tmps) then o.wp P a w K Q else K (a.put o.dst undef) w) l a V (fun xs d W => I (loud.map xs) (loud.map d) W)) q k := by
    intro q
    induction q with
    | nil => intro k _; trivial
    | cons o q ih =>
      rintro k ⟨h1, h2⟩
      refine ⟨fun xs d W hdn hdi he hI hV _ K hK => ?_, ih _ h2⟩
      have := h1 xs d W he (fun j p hj hm => by
        by_cases hd : d j = true
        · have := hdn j p hj hd k hm
          rw [hdi] at this
          cases this
        · simpa using hd) hI hV
      rw [hfr] at hK ⊢
      show if Region.wanted o (yielded l.toArray (fr xs).tmps) = true then Oper.wp P o (fr xs) W K Q else K ((fr xs).put o.dst undef) W
      by_cases hk : k ∈ loud
      · rw [if_pos hk] at this
        obtain ⟨h3, h4⟩ := this hdi
        rw [if_pos h4]
        exact wp_of_gives (h3.mono fun v W' ⟨hi, hv, hs⟩ => hK v W' hi hv hs)
      · rw [if_neg hk] at this
        have hmx : ∀ v, loud.map (upd xs k v) = loud.map xs := fun v => List.map_congr_left fun i hi => upd_ne _ _ (fun e => hk (by rw [← e]; exact hi))
        have hmap : loud.map (upd d k true) = loud.map d := List.map_congr_left fun i hi => upd_ne _ _ (fun e => hk (by rw [← e]; exact hi))
        split
        · rename_i hw
          rw [if_pos hw] at this
          exact wp_of_gives (this.mono fun v W' ⟨he, hv⟩ => by subst he; exact hK v W' (by show I (loud.map _) (loud.map _) _; rw [hmap, hmx]; exact hI) hv hV)
        · rename_i hw
          rw [if_neg hw] at this
          exact hK _ _ (by show I (loud.map _) (loud.map _) _; rw [hmap, hmx]; exact hI) this hV
  exact key _ _ hob
end
end Go.HL
