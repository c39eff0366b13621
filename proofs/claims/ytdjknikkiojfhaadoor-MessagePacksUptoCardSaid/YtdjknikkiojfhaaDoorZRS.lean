import Derived.Test.YtdjknikkiojfhaaDoorZHL
import Derived.Orders
import Derived.OrdersIn
/- Regions that draw their order, told by what each value is: one obligation an operation, whatever the order. No program in sight. -/
set_option linter.unusedVariables false
set_option linter.unusedSimpArgs false
namespace Go.HL
open Go.RowKit

/-! ### 1. Some order or other -/
/-- Whatever comes up next, until nothing may. -/
def anyG (rd : Array Bool → List Nat) (S : Nat → (Act → World → Prop) → Act → World → Prop) (Qn : Act → World → Prop) : Nat → Array Bool → Act → World → Prop
  | 0, listed, a, w => rd listed = [] ∧ Qn a w
  | fuel + 1, listed, a, w => (rd listed = [] → Qn a w) ∧ ∀ i ∈ rd listed, S i (anyG rd S Qn fuel (listed.setIfInBounds i true)) a w

theorem anyG_of_inv {rd : Array Bool → List Nat} {S : Nat → (Act → World → Prop) → Act → World → Prop} {Qn : Act → World → Prop} (Inv : Array Bool → Act → World → Prop)
    (hend : ∀ listed a w, Inv listed a w → rd listed = [] → Qn a w)
    (hstep : ∀ listed a w i, Inv listed a w → i ∈ rd listed → ∀ K : Act → World → Prop, (∀ a' w', Inv (listed.setIfInBounds i true) a' w' → K a' w') → S i K a w)
    (hcnt : ∀ listed a w, Inv listed a w → listed.toList.count false = 0 → rd listed = [])
    (hdec : ∀ listed a w i, Inv listed a w → i ∈ rd listed → (listed.setIfInBounds i true).toList.count false + 1 = listed.toList.count false) :
    ∀ fuel listed a w, listed.toList.count false ≤ fuel → Inv listed a w → anyG rd S Qn fuel listed a w
  | 0, listed, a, w, hc, hi => ⟨hcnt _ _ _ hi (by omega), hend _ _ _ hi (hcnt _ _ _ hi (by omega))⟩
  | fuel + 1, listed, a, w, hc, hi => ⟨hend _ _ _ hi, fun i hm => hstep _ _ _ i hi hm _ fun a' w' hi' =>
      anyG_of_inv Inv hend hstep hcnt hdec fuel _ a' w' (by have := hdec _ _ _ i hi hm; omega) hi'⟩

theorem wpAny_eq {P : Program} {md : Region.Mode} {ops : Array Oper} {Q : Exit → Act → World → Prop} : ∀ (fuel : Nat) (listed : Array Bool) (a : Act) (w : World),
    wpAny P md ops Q fuel listed a w = anyG (Region.ready md ops) (wpOp P ops Q) (Q .normal) fuel listed a w
  | 0, _, _, _ => rfl
  | fuel + 1, listed, a, w => by
    have : ∀ l, wpAny P md ops Q fuel l = anyG (Region.ready md ops) (wpOp P ops Q) (Q .normal) fuel l := fun l => funext fun a => funext fun w => wpAny_eq fuel l a w
    simp only [wpAny, anyG, this]
theorem wpAnyIn_eq {F : Fence} {n : Nat} {P : Program} {md : Region.Mode} {ops : Array Oper} {Q : Exit → Act → World → Prop} : ∀ (fuel : Nat) (listed : Array Bool) (a : Act) (w : World),
    wpAnyIn F n P md ops Q fuel listed a w = anyG (Region.ready md ops) (wpOpIn F n P ops Q) (Q .normal) fuel listed a w
  | 0, _, _, _ => rfl
  | fuel + 1, listed, a, w => by
    have : ∀ l, wpAnyIn F n P md ops Q fuel l = anyG (Region.ready md ops) (wpOpIn F n P ops Q) (Q .normal) fuel l := fun l => funext fun a => funext fun w => wpAnyIn_eq fuel l a w
    simp only [wpAnyIn, anyG, this]

/-! ### 2. What stands ahead of an operation; the frame -/
/-- Behind which operations one comes. -/
def edges (o : Oper) : List Nat := (o.after.toList.filter (Region.binds .any)).map (·.on)
/-- The frame, each operation's temporary holding what it is said to. -/
def fillL (a : Act) (xs : Nat → Value) : List Oper → Nat → Act
  | [], _ => a
  | o :: r, k => fillL (a.put o.dst (xs k)) xs r (k + 1)
def specOk (l : List Oper) : Bool :=
  (l.zipIdx.all fun (o, i) => (edges o).all (· < i)) && (l.zipIdx.all fun (o, i) => l.zipIdx.all fun (p, j) => i == j || o.dst.isNone || o.dst != p.dst)

theorem mem_zipIdx {l : List Oper} {i : Nat} {o : Oper} (h : l[i]? = some o) : (o, i) ∈ l.zipIdx := by
  rw [List.mem_zipIdx_iff_getElem?]
  exact h
theorem specOk.edge {l : List Oper} (h : specOk l = true) {i : Nat} {o : Oper} (hi : l[i]? = some o) {j : Nat} (hj : j ∈ edges o) : j < i := by
  simp only [specOk, Bool.and_eq_true, List.all_eq_true] at h
  have := h.1 (o, i) (mem_zipIdx hi) j hj
  simpa using this
theorem specOk.dst {l : List Oper} (h : specOk l = true) {i j : Nat} {o p : Oper} (hi : l[i]? = some o) (hj : l[j]? = some p) (hne : i ≠ j) {d : Nat} (hd : o.dst = some d) : p.dst ≠ some d := by
  simp only [specOk, Bool.and_eq_true, List.all_eq_true] at h
  have := h.2 (o, i) (mem_zipIdx hi) (p, j) (mem_zipIdx hj)
  simp [hne, hd] at this
  exact fun e => this (by rw [e])

theorem put_comm' (a : Act) {x y : Option Nat} (u v : Value) (h : ∀ d, x = some d → y ≠ some d) : (a.put x u).put y v = (a.put y v).put x u := by
  cases x with
  | none => rfl
  | some d =>
    cases y with
    | none => rfl
    | some e =>
      have : d ≠ e := fun he => h d rfl (by rw [he])
      simp only [Act.put]
      congr 1
      apply Array.ext'
      simp only [Array.toList_setIfInBounds]
      exact List.set_comm _ _ this
theorem put_put (a : Act) (x : Option Nat) (u v : Value) : (a.put x u).put x v = a.put x v := by
  cases x with
  | none => rfl
  | some d => simp [Act.put]
theorem fillL_put {l : List Oper} : ∀ (a : Act) (xs : Nat → Value) (k : Nat) (d : Option Nat) (v : Value), (∀ o ∈ l, ∀ e, d = some e → o.dst ≠ some e) → (fillL (a.put d v) xs l k) = (fillL a xs l k).put d v := by
  induction l with
  | nil => intro a xs k d v _; rfl
  | cons o r ih =>
    intro a xs k d v h
    simp only [fillL]
    rw [put_comm' a v (xs k) (fun e he => h o (by simp) e he), ih _ _ _ _ _ (fun p hp => h p (by simp [hp]))]
/-- One value more. -/
def upd {α : Type} (f : Nat → α) (i : Nat) (v : α) : Nat → α := fun j => if j = i then v else f j
theorem upd_self {α : Type} (f : Nat → α) (i : Nat) (v : α) : upd f i v i = v := by simp [upd]
theorem upd_ne {α : Type} (f : Nat → α) {i j : Nat} (v : α) (h : j ≠ i) : upd f i v j = f j := by simp [upd, h]
theorem fillL_upd {v : Value} : ∀ (l : List Oper) (a : Act) (xs : Nat → Value) (k i : Nat) (o : Oper), l[i]? = some o → (∀ (j : Nat) p, l[j]? = some p → j ≠ i → ∀ e, o.dst = some e → p.dst ≠ some e) →
    fillL a (upd xs (k + i) v) l k = (fillL a xs l k).put o.dst v
  | [], a, xs, k, i, o, h, _ => by simp at h
  | p :: r, a, xs, k, 0, o, h, hd => by
    simp only [List.getElem?_cons_zero, Option.some.injEq] at h
    subst h
    simp only [fillL, Nat.add_zero, upd_self]
    have h1 : ∀ (m : Nat) (b : Act), k < m → fillL b (upd xs k v) r m = fillL b xs r m := by
      clear hd
      induction r with
      | nil => intro m b _; rfl
      | cons q r ih =>
        intro m b hm
        simp only [fillL, upd_ne xs v (show m ≠ k by omega)]
        exact ih _ _ (by omega)
    rw [h1 _ _ (by omega), ← fillL_put _ _ _ _ _ (fun q hq e he => by
      obtain ⟨j, hj⟩ := List.getElem?_of_mem hq
      exact hd (j + 1) q (by simpa using hj) (by omega) e he), put_put]
  | p :: r, a, xs, k, i + 1, o, h, hd => by
    simp only [List.getElem?_cons_succ] at h
    simp only [fillL, upd_ne xs v (show k ≠ k + (i + 1) by omega)]
    rw [show k + (i + 1) = (k + 1) + i by omega]
    exact fillL_upd r _ xs (k + 1) i o h (fun j q hj hne => hd (j + 1) q (by simpa using hj) (by omega))
/-- As it stands at the start. -/
theorem fillL_self : ∀ (l : List Oper) (a : Act) (k : Nat), ∃ xs : Nat → Value, fillL a xs l k = a ∧ ∀ o i, l[i]? = some o → ∀ d, o.dst = some d → xs (k + i) = a.tmps.getD d undef
  | [], a, k => ⟨fun _ => undef, rfl, fun o i h => by simp at h⟩
  | o :: r, a, k => by
    obtain ⟨xs, h1, h2⟩ := fillL_self r a (k + 1)
    refine ⟨upd xs k (match o.dst with | some d => a.tmps.getD d undef | none => undef), ?_, fun p i hi d hd => ?_⟩
    · simp only [fillL, upd_self]
      have e1 : (a.put o.dst (match o.dst with | some d => a.tmps.getD d undef | none => undef)) = a := by
        cases hd : o.dst with
        | none => rfl
        | some d =>
          simp only [Act.put]
          congr 1
          apply Array.ext'
          rw [Array.toList_setIfInBounds]
          apply List.ext_getElem?
          intro i
          rw [List.getElem?_set]
          split
          · rename_i h3
            subst h3
            split
            · rename_i h4
              rw [List.getElem?_eq_getElem h4]
              simp only [Array.length_toList] at h4
              simp [Array.getD, h4]
            · rename_i h4
              rw [List.getElem?_eq_none (by omega)]
          · rfl
      rw [e1]
      have h3 : ∀ (q : List Oper) (m : Nat) (b : Act) (u : Value), k < m → fillL b (upd xs k u) q m = fillL b xs q m := by
        intro q
        induction q with
        | nil => intro m b u _; rfl
        | cons p q ih =>
          intro m b u hm
          simp only [fillL, upd_ne xs u (show m ≠ k by omega)]
          exact ih _ _ _ (by omega)
      rw [h3 _ _ _ _ (by omega)]
      exact h1
    · cases i with
      | zero =>
        simp only [List.getElem?_cons_zero, Option.some.injEq] at hi
        subst hi
        simp [upd_self, hd]
      | succ i =>
        simp only [List.getElem?_cons_succ] at hi
        rw [upd_ne _ _ (by omega), show k + (i + 1) = (k + 1) + i by omega]
        exact h2 p i hi d hd

/-! ### 3. The listed ones -/
theorem mem_ready {ops : Array Oper} {listed : Array Bool} {i : Nat} (h : i ∈ Region.ready .any ops listed) : ∃ o, ops[i]? = some o ∧ listed.getD i true = false ∧ ∀ j ∈ edges o, listed.getD j false = true := by
  simp only [Region.ready, List.mem_filter, List.mem_range, Bool.and_eq_true, Bool.not_eq_true'] at h
  obtain ⟨h1, h2, h3⟩ := h
  obtain ⟨o, ho⟩ : ∃ o, ops[i]? = some o := ⟨ops[i], Array.getElem?_eq_getElem h1⟩
  refine ⟨o, ho, h2, fun j hj => ?_⟩
  rw [ho] at h3
  simp only [Option.map_some, Option.getD_some, Array.all_eq_true'] at h3
  simp only [edges, List.mem_map, List.mem_filter, Array.mem_toList_iff] at hj
  obtain ⟨e, ⟨he, hb⟩, rfl⟩ := hj
  have := h3 e he
  simpa [hb] using this
theorem ready_of {ops : Array Oper} {listed : Array Bool} {i : Nat} {o : Oper} (ho : ops[i]? = some o) (hl : listed.getD i true = false) (he : ∀ j ∈ edges o, listed.getD j false = true) : i ∈ Region.ready .any ops listed := by
  simp only [Region.ready, List.mem_filter, List.mem_range, Bool.and_eq_true, Bool.not_eq_true']
  refine ⟨(Array.getElem?_eq_some_iff.1 ho).1, hl, ?_⟩
  rw [ho]
  simp only [Option.map_some, Option.getD_some, Array.all_eq_true']
  intro e hm
  by_cases hb : Region.binds .any e = true
  · have := he e.on (by simp only [edges, List.mem_map, List.mem_filter, Array.mem_toList_iff]; exact ⟨e, ⟨hm, hb⟩, rfl⟩)
    simp [this]
  · simp [hb]
theorem count_set : ∀ (l : List Bool) (i : Nat), l[i]? = some false → (l.set i true).count false + 1 = l.count false
  | [], i, h => by simp at h
  | b :: r, 0, h => by
    simp only [List.getElem?_cons_zero, Option.some.injEq] at h
    subst h
    simp
  | b :: r, i + 1, h => by
    simp only [List.getElem?_cons_succ] at h
    have := count_set r i h
    simp only [List.set_cons_succ, List.count_cons]
    omega

/-! ### 4. The law -/
section
variable {P : Program} {Q : Exit → Act → World → Prop}

/-- What is owed of one operation: 'ob' of each, with its number. -/
def Obl (ob : Nat → Oper → Prop) : List Oper → Nat → Prop
  | [], _ => True
  | o :: r, k => ob k o ∧ Obl ob r (k + 1)
theorem Obl.get {ob : Nat → Oper → Prop} : ∀ {l : List Oper} {k : Nat}, Obl ob l k → ∀ {i : Nat} {o : Oper}, l[i]? = some o → ob (k + i) o
  | [], _, _, i, o, h => by simp at h
  | p :: r, k, ⟨h1, h2⟩, 0, o, h => by
    simp only [List.getElem?_cons_zero, Option.some.injEq] at h
    subst h
    exact h1
  | p :: r, k, ⟨h1, h2⟩, i + 1, o, h => by
    simp only [List.getElem?_cons_succ] at h
    have := h2.get h
    rw [show k + (i + 1) = k + 1 + i by omega]
    exact this

/-- The operation's step, given what is done, what it yielded, and what holds. -/
def Owed (S : Oper → (Act → World → Prop) → Act → World → Prop) (l : List Oper) (a : Act) (V : Nat → Value → World → Prop) (I : (Nat → Bool) → World → Prop) (i : Nat) (o : Oper) : Prop :=
  ∀ (xs : Nat → Value) (d : Nat → Bool) (W : World), (∀ j p, l[j]? = some p → d j = true → ∀ k ∈ edges p, d k = true) → d i = false → (∀ j ∈ edges o, d j = true) → I d W → (∀ j, d j = true → V j (xs j) W) →
    (∀ j p, l[j]? = some p → d j = false → ∀ e, p.dst = some e → xs j = a.tmps.getD e undef) →
    ∀ K : Act → World → Prop, (∀ v W', I (upd d i true) W' → V i v W' → (∀ j, d j = true → V j (xs j) W') → K ((fillL a xs l 0).put o.dst v) W') → S o K (fillL a xs l 0) W

theorem region_any (S : Oper → (Act → World → Prop) → Act → World → Prop) (S' : Nat → (Act → World → Prop) → Act → World → Prop) {l : List Oper} {a : Act} {w : World} (Qn : Act → World → Prop)
    (hS : ∀ i o K a w, l[i]? = some o → S o K a w → S' i K a w)
    (V : Nat → Value → World → Prop) (I : (Nat → Bool) → World → Prop) (hchk : specOk l = true) (h0 : I (fun _ => false) w)
    (hob : Obl (Owed S l a V I) l 0)
    (hQ : ∀ (xs : Nat → Value) (d : Nat → Bool) W, (∀ j, j < l.length → d j = true) → I d W → (∀ j, j < l.length → V j (xs j) W) → Qn (fillL a xs l 0) W) :
    anyG (Region.ready .any l.toArray) S' Qn l.toArray.size (Array.replicate l.toArray.size false) a w := by
  refine anyG_of_inv (fun listed a' w' => listed.size = l.length ∧ (∀ j p, l[j]? = some p → listed.getD j false = true → ∀ k ∈ edges p, listed.getD k false = true) ∧
      ∃ xs, a' = fillL a xs l 0 ∧ I (fun j => listed.getD j false) w' ∧ (∀ j, listed.getD j false = true → V j (xs j) w') ∧ ∀ j p, l[j]? = some p → listed.getD j false = false → ∀ e, p.dst = some e → xs j = a.tmps.getD e undef) ?_ ?_ ?_ ?_ _ _ _ _ ?_ ?_
  · rintro listed a' w' ⟨hsz, hdown, xs, rfl, hI, hV, hZ⟩ hr
    have hall : ∀ i, i < l.length → listed.getD i false = true := by
      intro i
      induction i using Nat.strongRecOn with
      | ind i ih =>
        intro hi
        obtain ⟨o, ho⟩ : ∃ o, l[i]? = some o := ⟨l[i], List.getElem?_eq_getElem hi⟩
        apply Classical.byContradiction
        intro hn
        have : i ∈ Region.ready .any l.toArray listed := ready_of (o := o) (by simpa using ho) (by
          rw [Array.getD_eq_getD_getElem?, Array.getElem?_eq_getElem (by omega)] at hn ⊢
          simpa using hn) (fun j hj => by
            have hji := specOk.edge hchk ho hj
            exact ih j hji (by omega))
        rw [hr] at this
        cases this
    exact hQ xs _ w' hall hI (fun j hj => hV j (hall j hj))
  · rintro listed a' w' i ⟨hsz, hdown, xs, rfl, hI, hV, hZ⟩ hm K hK
    obtain ⟨o, ho, hl, he⟩ := mem_ready hm
    have ho' : l[i]? = some o := by simpa using ho
    have hil : i < l.length := (List.getElem?_eq_some_iff.1 ho').1
    have hlf : listed.getD i false = false := by
      rw [Array.getD_eq_getD_getElem?, Array.getElem?_eq_getElem (by omega)] at hl ⊢
      simpa using hl
    have hup : (fun j => (listed.setIfInBounds i true).getD j false) = upd (fun j => listed.getD j false) i true := by
      funext j
      simp only [upd, Array.getD_eq_getD_getElem?, Array.getElem?_setIfInBounds]
      by_cases hj : i = j
      · subst hj; simp [hsz, hil]
      · rw [if_neg hj, if_neg (fun h => hj h.symm)]
    have := hob.get ho' xs (fun j => listed.getD j false) w' hdown (by simpa using hlf) he hI hV hZ K
    rw [Nat.zero_add] at this
    refine hS i o K _ w' ho' (hob.get ho' xs (fun j => listed.getD j false) w' hdown (by simpa using hlf) he hI hV hZ K fun v W' hI' hv hV' => ?_)
    rw [Nat.zero_add] at hI' hv
    refine hK _ _ ⟨by simpa using hsz, ?_, upd xs i v, ?_, ?_, ?_, ?_⟩
    · intro j p hj hd k hk
      have h1 := congrFun hup k
      have h2 := congrFun hup j
      rw [h2] at hd
      rw [h1]
      by_cases hki : k = i
      · subst hki; exact upd_self _ _ _
      · rw [upd_ne _ _ hki]
        by_cases hji : j = i
        · subst hji
          rw [ho'] at hj
          cases hj
          exact he k hk
        · rw [upd_ne _ _ hji] at hd
          exact hdown j p hj hd k hk
    · have := fillL_upd (v := v) l a xs 0 i o ho' (fun j p hj hne e hde => specOk.dst hchk ho' hj (Ne.symm hne) hde)
      rw [Nat.zero_add] at this
      exact this.symm
    · rw [hup]; exact hI'
    · intro j hj
      rw [congrFun hup j] at hj
      by_cases hji : j = i
      · subst hji; rw [upd_self]; exact hv
      · rw [upd_ne _ _ hji] at hj ⊢
        exact hV' j hj
    · intro j p hj hd e hde
      rw [congrFun hup j] at hd
      by_cases hji : j = i
      · subst hji; rw [upd_self] at hd; cases hd
      · rw [upd_ne _ _ hji] at hd ⊢
        exact hZ j p hj hd e hde
  · rintro listed a' w' ⟨hsz, _⟩ hc
    have : ∀ i, i ∉ Region.ready .any l.toArray listed := by
      intro i hi
      obtain ⟨o, ho, hl, _⟩ := mem_ready hi
      have hil : i < listed.size := by rw [hsz]; exact (List.getElem?_eq_some_iff.1 (show l[i]? = some o by simpa using ho)).1
      rw [Array.getD_eq_getD_getElem?, Array.getElem?_eq_getElem hil] at hl
      have hmem : false ∈ listed.toList := by
        rw [← show listed[i] = false by simpa using hl]
        exact Array.mem_toList_iff.2 (Array.getElem_mem hil)
      have := List.count_pos_iff.2 hmem
      omega
    exact List.eq_nil_iff_forall_not_mem.2 this
  · rintro listed a' w' i ⟨hsz, _⟩ hi
    obtain ⟨o, ho, hl, _⟩ := mem_ready hi
    have hil : i < listed.size := by rw [hsz]; exact (List.getElem?_eq_some_iff.1 (show l[i]? = some o by simpa using ho)).1
    rw [Array.toList_setIfInBounds]
    apply count_set
    rw [Array.getD_eq_getD_getElem?, Array.getElem?_eq_getElem hil] at hl
    simp only [Option.getD_some] at hl
    rw [Array.getElem?_toList, Array.getElem?_eq_getElem hil, hl]
  · simp
  · obtain ⟨xs, h1, hself⟩ := fillL_self l a 0
    refine ⟨by simp, fun j p _ hd => ?_, xs, h1.symm, ?_, fun j hd => ?_, fun j p hj _ e hde => by have := hself p j hj e hde; rwa [Nat.zero_add] at this⟩
    · simp [Array.getD_eq_getD_getElem?, Array.getElem?_replicate] at hd
      split at hd <;> simp at hd
    · have : (fun j => (Array.replicate l.toArray.size false).getD j false) = fun _ => false := by
        funext j
        simp only [Array.getD_eq_getD_getElem?, Array.getElem?_replicate]
        split <;> rfl
      rw [this]; exact h0
    · simp [Array.getD_eq_getD_getElem?, Array.getElem?_replicate] at hd
      split at hd <;> simp at hd

/-- **A region that draws its order, told by what each value is.** -/
theorem wp_region_spec {id : Nat} {l : List Oper} {a : Act} {w : World} (hm : P.follows .mixedOrders = true) (hchk : specOk l = true)
    (V : Nat → Value → World → Prop) (I : (Nat → Bool) → World → Prop) (h0 : I (fun _ => false) w.drew)
    (hob : Obl (Owed (fun o K a w => if Region.wanted o (yielded l.toArray a.tmps) then o.wp P a w K Q else K (a.put o.dst undef) w) l a V I) l 0)
    (hQ : ∀ (xs : Nat → Value) (d : Nat → Bool) W, (∀ j, j < l.length → d j = true) → I d W → (∀ j, j < l.length → V j (xs j) W) → Q .normal (fillL a xs l 0) W) :
    (Code.region id l.toArray true).wp P Q a w := by
  refine wp_region_any hm ?_
  rw [wpAny_eq]
  refine region_any _ _ _ (fun i o K a w ho h => ?_) V I hchk h0 hob hQ
  unfold wpOp
  rw [show l.toArray[i]? = some o by simpa using ho]
  simp only
  split
  · rename_i hw; rw [if_pos hw] at h; exact .inl h
  · rename_i hw; rw [if_neg hw] at h; exact h

theorem wpIn_region_spec {F : Fence} {n : Nat} {id : Nat} {l : List Oper} {a : Act} {w : World} (hm : P.follows .mixedOrders = true) (hchk : specOk l = true)
    (V : Nat → Value → World → Prop) (I : (Nat → Bool) → World → Prop) (h0 : I (fun _ => false) w.drew)
    (hob : Obl (Owed (fun o K a w => if Region.wanted o (yielded l.toArray a.tmps) then o.wpIn F n P a w K Q else (∀ f, o.about P w a.eval = some f → F.fn f) ∧ K (a.put o.dst undef) w) l a V I) l 0)
    (hQ : ∀ (xs : Nat → Value) (d : Nat → Bool) W, (∀ j, j < l.length → d j = true) → I d W → (∀ j, j < l.length → V j (xs j) W) → Q .normal (fillL a xs l 0) W) :
    (Code.region id l.toArray true).wpIn F n P Q a w := by
  refine wpIn_region_any hm ?_
  rw [wpAnyIn_eq]
  refine region_any _ _ _ (fun i o K a w ho h => ?_) V I hchk h0 hob hQ
  unfold wpOpIn
  rw [show l.toArray[i]? = some o by simpa using ho]
  simp only
  split
  · rename_i hw; rw [if_pos hw] at h; exact h
  · rename_i hw; rw [if_neg hw] at h; exact h

/-! ### 3. One operation, told by its value -/
/-- What an operation yields. -/
def OpUpon (P : Program) (R : Value → World → Prop) : Result Next → Prop
  | .ok (.value v) w => R v w
  | .ok .skip w => R undef w
  | .ok (.enter f args) w => Calls P f args w (fun e w' => ∃ v, e = .returned v ∧ R v w')
  | _ => False
def OpGives (P : Program) (o : Oper) (ev : Operand → Value) (w : World) (R : Value → World → Prop) : Prop := OpUpon P R ((execOp ev o).run P w)
@[go_sem] theorem opGives_def (o : Oper) (ev : Operand → Value) (w : World) (R : Value → World → Prop) : OpGives P o ev w R = OpUpon P R ((execOp ev o).run P w) := rfl
@[go_sem] theorem opUpon_value (R : Value → World → Prop) (v : Value) (w : World) : OpUpon P R (.ok (.value v) w) = R v w := rfl
@[go_sem] theorem opUpon_skip (R : Value → World → Prop) (w : World) : OpUpon P R (.ok .skip w) = R undef w := rfl
@[go_sem] theorem opUpon_enter (R : Value → World → Prop) (f : FuncId) (args : Array Value) (w : World) : OpUpon P R (.ok (.enter f args) w) = Calls P f args w (fun e w' => ∃ v, e = .returned v ∧ R v w') := rfl
theorem wp_of_gives {o : Oper} {a : Act} {w : World} {K : Act → World → Prop} (h : OpGives P o a.eval w (fun v w' => K (a.put o.dst v) w')) : o.wp P a w K Q := by
  unfold OpGives at h
  unfold Oper.wp
  generalize (execOp a.eval o).run P w = r at *
  cases r with
  | ok n w' =>
    cases n <;> simp only [OpUpon] at h <;> simp only [Oper.upon]
    case value u => exact h
    case skip => exact h
    case enter f args => exact h.mono fun e w'' ⟨v, he, hk⟩ => by subst he; exact hk
  | halt x w' => simp only [OpUpon] at h
theorem OpGives.mono {o : Oper} {ev : Operand → Value} {w : World} {R R' : Value → World → Prop} (h : OpGives P o ev w R) (hr : ∀ v w', R v w' → R' v w') : OpGives P o ev w R' := by
  unfold OpGives at *
  generalize (execOp ev o).run P w = r at *
  cases r with
  | ok n w' =>
    cases n <;> simp only [OpUpon] at h ⊢
    case value u => exact hr _ _ h
    case skip => exact hr _ _ h
    case enter f args => exact h.mono fun e w'' ⟨v, he, hk⟩ => ⟨v, he, hr _ _ hk⟩
  | halt x w' => simp only [OpUpon] at h
/-- append, as an operation told by its value. -/
theorem gives_app {o : Oper} {ev : Operand → Value} {R : Value → World → Prop} (w0 w : World) (base : Nat) (s x : Operand) (t tx e : TypeId) (z : Value) (size bytes : Nat)
    (ho : o.op = .call { callee := .builtin .append, args := #[s, x], argTypes := #[t, tx] })
    (ht : P.underlying t = some (.slice e)) (hinfo : (P.info? e).map (fun i => (i.zero, i.size, i.bytes)) = some (some z, size, bytes)) (hz : z.cells.size = size) (hs0 : 0 < size) (hb0 : 0 < bytes)
    (v : Value) (n : Nat) (cs : List Value) (hs : ev s = v) (happ : App w base e size v n cs) (y : Value) (m : Nat) (news : List Value) (hx : ev x = y) (hadd : Add P w size t tx y m news)
    (HB : Below base w0 w) (hbase : base ≤ w.heap.size) (hbytes : (n + m) * bytes ≤ 140737488355328)
    (hK : ∀ v1 w1, ((m = 0 ∧ v1 = v ∧ w1 = w) ∨ w1.ownsRow base e size v1 (n + m) (cs ++ news)) → (0 < m ∨ w.ownsRow base e size v n cs → w1.ownsRow base e size v1 (n + m) (cs ++ news)) → Below base w0 w1 → w.grownBy w1 v.ownBlock → R v1 w1) : OpGives P o ev w R := by
  obtain ⟨v1, w1, hr, h1, h2, h3, h4⟩ := run_app (P := P) (w0 := w0) w base t tx e o.type z size bytes ht hinfo hz hs0 hb0 v n cs happ y m news hadd HB hbase hbytes
  unfold OpGives execOp
  simp only [ho, resolve, invoke, builtin, Sem.run_bind, Sem.run_pure, Result.andThen_ok, List.map_toArray, List.map_cons, List.map_nil, hs, hx, hr]
  exact hK v1 w1 h1 h2 h3 h4

/-- append of one element of one cell, as one step of a region that draws: the goal's world is 'w' with the box laid. -/
theorem step_one {ops : Array Oper} {o : Oper} {a : Act} {K : Act → World → Prop} {E : Prop} (w0 w : World) (base : Nat) (hgd : o.guard = none) (s x : Operand) (t e : TypeId) (z : Value) (bytes : Nat)
    (ho : o.op = .call { callee := .builtin .append, args := #[s, x], argTypes := #[t, t] })
    (ht : P.underlying t = some (.slice e)) (hinfo : (P.info? e).map (fun i => (i.zero, i.size, i.bytes)) = some (some z, 1, bytes)) (hz : z.cells.size = 1) (hb0 : 0 < bytes)
    (v : Value) (n : Nat) (cs : List Value) (y : Value) (hs : a.eval s = v) (happ : App w base e 1 v n cs) (h1 : y.oneCell' = true)
    (hx : a.eval x = .slice (some ⟨w.heap.size, 0, none⟩) 1 1)
    (HB : Below base w0 w) (hbase : base ≤ w.heap.size) (hbytes : (n + 1) * bytes ≤ 140737488355328)
    (hK : ∀ v1 w1, w1.ownsRow base e 1 v1 (n + 1) (cs ++ [y]) → Below base w0 w1 → w.grownBy w1 v.ownBlock → K (a.put o.dst v1) w1) :
    if Region.wanted o (yielded ops a.tmps) = true then Oper.wp P o a (w.alloc (.cells #[y] e)) K Q else E := by
  have hw : Region.wanted o (yielded ops a.tmps) = true := by simp [Region.wanted, hgd]
  rw [if_pos hw]
  refine wp_of_gives (gives_app w0 _ base s x t t e z 1 bytes ho ht hinfo hz (by omega) hb0 v n cs hs (happ.below ((Below.refl _ _).alloc (Nat.le_refl _) _)) _ 1 [y] hx
    (.slice ⟨rfl, fun h => by (cases h), Nat.le_refl _, fun ad had => by cases had; exact World.news_of_block (cs := #[y]) (t := e) (fr := (0, 0)) (heap_alloc_new w _)⟩ (by simpa using h1)) (HB.alloc hbase _) (by simp; omega) hbytes ?_)
  intro v1 w1 _ ho1 hb1 hg
  exact hK v1 w1 (ho1 (.inl (by omega))) hb1 (World.grownBy.trans (World.grownBy_alloc w _ _) hg)
/-- **A region that only makes memory: what each value is, held by whatever lies unturned.** -/
theorem wp_region_grow {id : Nat} {l : List Oper} {a : Act} {w : World} (hm : P.follows .mixedOrders = true) (hchk : specOk l = true) (fr : (Nat → Value) → Act) (hfr : ∀ xs, fillL a xs l 0 = fr xs)
    (V : Nat → Value → World → Prop) (hst : ∀ j u W W', Below W.heap.size W W' → V j u W → V j u W')
    (hob : Obl (fun i o => ∀ (xs : Nat → Value) (W : World), Below w.heap.size w W → (∀ j ∈ edges o, V j (xs j) W) →
      if Region.wanted o (yielded l.toArray (fr xs).tmps) then OpGives P o (fr xs).eval W (fun v W' => Below W.heap.size W W' ∧ V i v W') else V i undef W) l 0)
    (hQ : ∀ (xs : Nat → Value) W, Below w.heap.size w W → (∀ j, j < l.length → V j (xs j) W) → Q .normal (fr xs) W) : (Code.region id l.toArray true).wp P Q a w := by
  refine wp_region_spec hm hchk V (fun _ W => Below w.heap.size w W) (Below.refl _ _).drew ?_ (fun xs d W _ hI hV => by rw [hfr]; exact hQ xs W hI hV)
  have key : ∀ (q : List Oper) (k : Nat), Obl (fun i o => ∀ (xs : Nat → Value) (W : World), Below w.heap.size w W → (∀ j ∈ edges o, V j (xs j) W) →
      if Region.wanted o (yielded l.toArray (fr xs).tmps) then OpGives P o (fr xs).eval W (fun v W' => Below W.heap.size W W' ∧ V i v W') else V i undef W) q k →
      Obl (Owed (fun o K a w => if Region.wanted o (yielded l.toArray a.tmps) then o.wp P a w K Q else K (a.put o.dst undef) w) l a V (fun _ W => Below w.heap.size w W)) q k := by
    intro q
    induction q with
    | nil => intro k _; trivial
    | cons o q ih =>
      rintro k ⟨h1, h2⟩
      refine ⟨fun xs d W _ _ he hI hV _ K hK => ?_, ih _ h2⟩
      have := h1 xs W hI (fun j hj => hV j (he j hj))
      rw [hfr] at hK ⊢
      show if Region.wanted o (yielded l.toArray (fr xs).tmps) = true then Oper.wp P o (fr xs) W K Q else K ((fr xs).put o.dst undef) W
      split
      · rename_i hw
        rw [if_pos hw] at this
        refine wp_of_gives (this.mono fun v W' ⟨hb, hv⟩ => hK v W' (hI.trans ⟨hb.os, hb.tape, hb.output, hb.size, fun i hi => hb.block i (Nat.lt_of_lt_of_le hi hI.size)⟩) hv (fun j hd => hst _ _ _ _ hb (hV j hd)))
      · rename_i hw
        rw [if_neg hw] at this
        exact hK _ _ hI this hV
  exact key _ _ hob
/-- Operation j must wait for operation i. -/
def reach (l : List Oper) : Nat → Nat → Nat → Bool
  | 0, _, _ => false
  | f + 1, j, i => match l[j]? with
    | some p => (edges p).any (fun k => k == i || reach l f k i)
    | none => false
theorem reach_undone {l : List Oper} {d : Nat → Bool} {i : Nat} (hdn : ∀ j p, l[j]? = some p → d j = true → ∀ k ∈ edges p, d k = true) (hi : d i = false) : ∀ f j, reach l f j i = true → d j = false
  | 0, j, h => by simp [reach] at h
  | f + 1, j, h => by
    unfold reach at h
    cases hp : l[j]? with
    | none => rw [hp] at h; cases h
    | some p =>
      rw [hp] at h
      simp only [List.any_eq_true, Bool.or_eq_true, beq_iff_eq] at h
      obtain ⟨k, hk, h2⟩ := h
      apply Classical.byContradiction
      intro hd
      have hdk := hdn j p hp (by simpa using hd) k hk
      rcases h2 with rfl | h2
      · rw [hi] at hdk; cases hdk
      · rw [reach_undone hdn hi f k h2] at hdk; cases hdk
/-- The same, where a slot is read that is written behind. -/
theorem wp_region_growZ {id : Nat} {l : List Oper} {a : Act} {w : World} (hm : P.follows .mixedOrders = true) (hchk : specOk l = true) (fr : (Nat → Value) → Act) (hfr : ∀ xs, fillL a xs l 0 = fr xs)
    (V : Nat → Value → World → Prop) (hst : ∀ j u W W', Below W.heap.size W W' → V j u W → V j u W')
    (hob : Obl (fun i o => ∀ (xs : Nat → Value) (W : World), Below w.heap.size w W → (∀ j ∈ edges o, V j (xs j) W) → (∀ j p e, reach l l.length j i = true → l[j]? = some p → p.dst = some e → xs j = a.tmps.getD e undef) →
      if Region.wanted o (yielded l.toArray (fr xs).tmps) then OpGives P o (fr xs).eval W (fun v W' => Below W.heap.size W W' ∧ V i v W') else V i undef W) l 0)
    (hQ : ∀ (xs : Nat → Value) W, Below w.heap.size w W → (∀ j, j < l.length → V j (xs j) W) → Q .normal (fr xs) W) : (Code.region id l.toArray true).wp P Q a w := by
  refine wp_region_spec hm hchk V (fun _ W => Below w.heap.size w W) (Below.refl _ _).drew ?_ (fun xs d W _ hI hV => by rw [hfr]; exact hQ xs W hI hV)
  have key : ∀ (q : List Oper) (k : Nat), Obl (fun i o => ∀ (xs : Nat → Value) (W : World), Below w.heap.size w W → (∀ j ∈ edges o, V j (xs j) W) → (∀ j p e, reach l l.length j i = true → l[j]? = some p → p.dst = some e → xs j = a.tmps.getD e undef) →
      if Region.wanted o (yielded l.toArray (fr xs).tmps) then OpGives P o (fr xs).eval W (fun v W' => Below W.heap.size W W' ∧ V i v W') else V i undef W) q k →
      Obl (Owed (fun o K a w => if Region.wanted o (yielded l.toArray a.tmps) then o.wp P a w K Q else K (a.put o.dst undef) w) l a V (fun _ W => Below w.heap.size w W)) q k := by
    intro q
    induction q with
    | nil => intro k _; trivial
    | cons o q ih =>
      rintro k ⟨h1, h2⟩
      refine ⟨fun xs d W hdn hdi he hI hV hZ K hK => ?_, ih _ h2⟩
      have := h1 xs W hI (fun j hj => hV j (he j hj)) (fun j p e hr hp hde => hZ j p hp (reach_undone hdn hdi _ _ hr) e hde)
      rw [hfr] at hK ⊢
      show if Region.wanted o (yielded l.toArray (fr xs).tmps) = true then Oper.wp P o (fr xs) W K Q else K ((fr xs).put o.dst undef) W
      split
      · rename_i hw
        rw [if_pos hw] at this
        refine wp_of_gives (this.mono fun v W' ⟨hb, hv⟩ => hK v W' (hI.trans ⟨hb.os, hb.tape, hb.output, hb.size, fun i hi => hb.block i (Nat.lt_of_lt_of_le hi hI.size)⟩) hv (fun j hd => hst _ _ _ _ hb (hV j hd)))
      · rename_i hw
        rw [if_neg hw] at this
        exact hK _ _ hI this hV
  exact key _ _ hob
/-- **A region that stores, too: what holds hangs on what is done.** -/
theorem wp_region_done {id : Nat} {l : List Oper} {a : Act} {w : World} (hm : P.follows .mixedOrders = true) (hchk : specOk l = true) (fr : (Nat → Value) → Act) (hfr : ∀ xs, fillL a xs l 0 = fr xs)
    (V : Nat → Value → World → Prop) (I : (Nat → Bool) → World → Prop) (h0 : I (fun _ => false) w.drew)
    (hob : Obl (fun i o => ∀ (xs : Nat → Value) (d : Nat → Bool) (W : World), (∀ j p, l[j]? = some p → d j = true → ∀ k ∈ edges p, d k = true) → d i = false → (∀ j ∈ edges o, d j = true) → I d W → (∀ j, d j = true → V j (xs j) W) →
      if Region.wanted o (yielded l.toArray (fr xs).tmps) then OpGives P o (fr xs).eval W (fun v W' => I (upd d i true) W' ∧ V i v W' ∧ ∀ j, d j = true → V j (xs j) W') else I (upd d i true) W ∧ V i undef W) l 0)
    (hQ : ∀ (xs : Nat → Value) (d : Nat → Bool) W, (∀ j, j < l.length → d j = true) → I d W → (∀ j, j < l.length → V j (xs j) W) → Q .normal (fr xs) W) : (Code.region id l.toArray true).wp P Q a w := by
  refine wp_region_spec hm hchk V I h0 ?_ (fun xs d W hd hI hV => by rw [hfr]; exact hQ xs d W hd hI hV)
  have key : ∀ (q : List Oper) (k : Nat), Obl (fun i o => ∀ (xs : Nat → Value) (d : Nat → Bool) (W : World), (∀ j p, l[j]? = some p → d j = true → ∀ k ∈ edges p, d k = true) → d i = false → (∀ j ∈ edges o, d j = true) → I d W → (∀ j, d j = true → V j (xs j) W) →
      if Region.wanted o (yielded l.toArray (fr xs).tmps) then OpGives P o (fr xs).eval W (fun v W' => I (upd d i true) W' ∧ V i v W' ∧ ∀ j, d j = true → V j (xs j) W') else I (upd d i true) W ∧ V i undef W) q k →
      Obl (Owed (fun o K a w => if Region.wanted o (yielded l.toArray a.tmps) then o.wp P a w K Q else K (a.put o.dst undef) w) l a V I) q k := by
    intro q
    induction q with
    | nil => intro k _; trivial
    | cons o q ih =>
      rintro k ⟨h1, h2⟩
      refine ⟨fun xs d W hdn hdi he hI hV _ K hK => ?_, ih _ h2⟩
      have := h1 xs d W hdn hdi he hI hV
      rw [hfr] at hK ⊢
      show if Region.wanted o (yielded l.toArray (fr xs).tmps) = true then Oper.wp P o (fr xs) W K Q else K ((fr xs).put o.dst undef) W
      split
      · rename_i hw
        rw [if_pos hw] at this
        exact wp_of_gives (this.mono fun v W' ⟨hi, hv, hs⟩ => hK v W' hi hv hs)
      · rename_i hw
        rw [if_neg hw] at this
        exact hK _ _ this.1 this.2 hV
  exact key _ _ hob


/-- **A region that writes: the loud operations are named; what holds hangs on which of them are done.** -/
theorem wp_region_loud {id : Nat} {l : List Oper} {a : Act} {w : World} (hm : P.follows .mixedOrders = true) (hchk : specOk l = true) (fr : (Nat → Value) → Act) (hfr : ∀ xs, fillL a xs l 0 = fr xs)
    (loud : List Nat) (V : Nat → Value → World → Prop) (I : List Bool → World → Prop) (h0 : I (loud.map fun _ => false) w.drew)
    (hob : Obl (fun i o => ∀ (xs : Nat → Value) (d : Nat → Bool) (W : World), (∀ j ∈ edges o, d j = true) → (∀ k p, l[k]? = some p → i ∈ edges p → d k = false) → I (loud.map d) W → (∀ j, d j = true → V j (xs j) W) →
      if i ∈ loud then d i = false → OpGives P o (fr xs).eval W (fun v W' => I (loud.map (upd d i true)) W' ∧ V i v W' ∧ ∀ j, d j = true → V j (xs j) W') ∧ Region.wanted o (yielded l.toArray (fr xs).tmps) = true
      else if Region.wanted o (yielded l.toArray (fr xs).tmps) then OpGives P o (fr xs).eval W (fun v W' => W' = W ∧ V i v W) else V i undef W) l 0)
    (hQ : ∀ (xs : Nat → Value) W, I (loud.map fun _ => true) W → (∀ j, j < l.length → V j (xs j) W) → Q .normal (fr xs) W) (hl : ∀ i ∈ loud, i < l.length) : (Code.region id l.toArray true).wp P Q a w := by
  refine wp_region_spec hm hchk V (fun d W => I (loud.map d) W) h0 ?_ (fun xs d W hd hI hV => by
    rw [hfr]
    refine hQ xs W ?_ hV
    rw [show loud.map (fun _ => true) = loud.map d from List.map_congr_left fun i hi => (hd i (hl i hi)).symm]
    exact hI)
  have key : ∀ (q : List Oper) (k : Nat), Obl (fun i o => ∀ (xs : Nat → Value) (d : Nat → Bool) (W : World), (∀ j ∈ edges o, d j = true) → (∀ k p, l[k]? = some p → i ∈ edges p → d k = false) → I (loud.map d) W → (∀ j, d j = true → V j (xs j) W) →
      if i ∈ loud then d i = false → OpGives P o (fr xs).eval W (fun v W' => I (loud.map (upd d i true)) W' ∧ V i v W' ∧ ∀ j, d j = true → V j (xs j) W') ∧ Region.wanted o (yielded l.toArray (fr xs).tmps) = true
      else if Region.wanted o (yielded l.toArray (fr xs).tmps) then OpGives P o (fr xs).eval W (fun v W' => W' = W ∧ V i v W) else V i undef W) q k →
      Obl (Owed (fun o K a w => if Region.wanted o (yielded l.toArray a.tmps) then o.wp P a w K Q else K (a.put o.dst undef) w) l a V (fun d W => I (loud.map d) W)) q k := by
    intro q
    induction q with
    | nil => intro k _; trivial
    | cons o q ih =>
      rintro k ⟨h1, h2⟩
      refine ⟨fun xs d W hdn hdi he hI hV _ K hK => ?_, ih _ h2⟩
      have := h1 xs d W he (fun j p hj hm => by
        by_cases hd : d j = true
        · have := hdn j p hj hd k hm
          rw [hdi] at this
          cases this
        · simpa using hd) hI hV
      rw [hfr] at hK ⊢
      show if Region.wanted o (yielded l.toArray (fr xs).tmps) = true then Oper.wp P o (fr xs) W K Q else K ((fr xs).put o.dst undef) W
      by_cases hk : k ∈ loud
      · rw [if_pos hk] at this
        obtain ⟨h3, h4⟩ := this hdi
        rw [if_pos h4]
        exact wp_of_gives (h3.mono fun v W' ⟨hi, hv, hs⟩ => hK v W' hi hv hs)
      · rw [if_neg hk] at this
        have hmap : loud.map (upd d k true) = loud.map d := List.map_congr_left fun i hi => upd_ne _ _ (fun e => hk (by rw [← e]; exact hi))
        split
        · rename_i hw
          rw [if_pos hw] at this
          exact wp_of_gives (this.mono fun v W' ⟨he, hv⟩ => by subst he; exact hK v W' (by show I (loud.map _) _; rw [hmap]; exact hI) hv hV)
        · rename_i hw
          rw [if_neg hw] at this
          exact hK _ _ (by show I (loud.map _) _; rw [hmap]; exact hI) this hV
  exact key _ _ hob
/-- What an operation yields, at the wide fence. -/
def OpUponIn (n : Nat) (P : Program) (R : Value → World → Prop) : Result Next → Prop
  | .ok (.value v) w => R v w
  | .ok .skip w => R undef w
  | .ok (.enter f args) w => CallsIn Fence.wide (n - 1) P f args w (fun e w' => ∃ v, e = .returned v ∧ R v w')
  | .ok (.round l f tmps assign body) w => RoundIn Fence.wide (n - 1) P l f tmps assign body w (fun e w' => ∃ v, e = .returned v ∧ R v w')
  | _ => False
def OpGivesIn (n : Nat) (P : Program) (o : Oper) (ev : Operand → Value) (w : World) (R : Value → World → Prop) : Prop := OpUponIn n P R ((execOp ev o).run P w)
@[go_sem] theorem opGivesIn_def (n : Nat) (o : Oper) (ev : Operand → Value) (w : World) (R : Value → World → Prop) : OpGivesIn n P o ev w R = OpUponIn n P R ((execOp ev o).run P w) := rfl
@[go_sem] theorem opUponIn_value (n : Nat) (R : Value → World → Prop) (v : Value) (w : World) : OpUponIn n P R (.ok (.value v) w) = R v w := rfl
@[go_sem] theorem opUponIn_skip (n : Nat) (R : Value → World → Prop) (w : World) : OpUponIn n P R (.ok .skip w) = R undef w := rfl
@[go_sem] theorem opUponIn_enter (n : Nat) (R : Value → World → Prop) (f : FuncId) (args : Array Value) (w : World) : OpUponIn n P R (.ok (.enter f args) w) = CallsIn Fence.wide (n - 1) P f args w (fun e w' => ∃ v, e = .returned v ∧ R v w') := rfl
@[go_sem] theorem opUponIn_round (n : Nat) (R : Value → World → Prop) (l : Nat) (f : FuncId) (tmps : Array Value) (assign body : Code) (w : World) : OpUponIn n P R (.ok (.round l f tmps assign body) w) = RoundIn Fence.wide (n - 1) P l f tmps assign body w (fun e w' => ∃ v, e = .returned v ∧ R v w') := rfl
theorem wpIn_of_gives {n : Nat} {o : Oper} {a : Act} {w : World} {K : Act → World → Prop} (h : OpGivesIn n P o a.eval w (fun v w' => K (a.put o.dst v) w')) : o.wpIn Fence.wide n P a w K Q := by
  refine ⟨fun _ _ => trivial, ?_⟩
  have hd : ¬ (Fence.wide.depth.isSome = true) := by simp [Fence.wide]
  unfold OpGivesIn at h
  rw [show (o.semAt Fence.wide.round a.eval) = execOp a.eval o from rfl]
  generalize (execOp a.eval o).run P w = r at *
  cases r with
  | ok n w' =>
    cases n <;> simp only [OpUponIn] at h <;> simp only [Oper.uponIn]
    case value u => exact h
    case skip => exact h
    case enter f args => exact ⟨fun h => absurd h hd, h.mono fun e w'' ⟨v, he, hk⟩ => by subst he; exact hk⟩
    case round l f tmps assign body => exact ⟨fun h => absurd h hd, h.mono fun e w'' ⟨v, he, hk⟩ => by subst he; exact hk⟩
  | halt x w' => simp only [OpUponIn] at h
theorem OpGivesIn.mono {n : Nat} {o : Oper} {ev : Operand → Value} {w : World} {R R' : Value → World → Prop} (h : OpGivesIn n P o ev w R) (hr : ∀ v w', R v w' → R' v w') : OpGivesIn n P o ev w R' := by
  unfold OpGivesIn at *
  generalize (execOp ev o).run P w = r at *
  cases r with
  | ok m w' =>
    cases m <;> simp only [OpUponIn] at h ⊢
    case value u => exact hr _ _ h
    case skip => exact hr _ _ h
    case enter f args => exact h.mono fun e w'' ⟨v, he, hk⟩ => ⟨v, he, hr _ _ hk⟩
    case round l f tmps assign body => exact h.mono fun e w'' ⟨v, he, hk⟩ => ⟨v, he, hr _ _ hk⟩
  | halt x w' => simp only [OpUponIn] at h
/-- **The same, at the wide fence (a round of a range over a function may be called).** A region that writes: the loud operations are named; what holds hangs on which of them are done.** -/
theorem wpIn_region_loud {n : Nat} {id : Nat} {l : List Oper} {a : Act} {w : World} (hm : P.follows .mixedOrders = true) (hchk : specOk l = true) (fr : (Nat → Value) → Act) (hfr : ∀ xs, fillL a xs l 0 = fr xs)
    (loud : List Nat) (V : Nat → Value → World → Prop) (I : List Bool → World → Prop) (h0 : I (loud.map fun _ => false) w.drew)
    (hob : Obl (fun i o => ∀ (xs : Nat → Value) (d : Nat → Bool) (W : World), (∀ j ∈ edges o, d j = true) → (∀ k p, l[k]? = some p → i ∈ edges p → d k = false) → I (loud.map d) W → (∀ j, d j = true → V j (xs j) W) →
      if i ∈ loud then d i = false → OpGivesIn n P o (fr xs).eval W (fun v W' => I (loud.map (upd d i true)) W' ∧ V i v W' ∧ ∀ j, d j = true → V j (xs j) W') ∧ Region.wanted o (yielded l.toArray (fr xs).tmps) = true
      else if Region.wanted o (yielded l.toArray (fr xs).tmps) then OpGivesIn n P o (fr xs).eval W (fun v W' => W' = W ∧ V i v W) else V i undef W) l 0)
    (hQ : ∀ (xs : Nat → Value) W, I (loud.map fun _ => true) W → (∀ j, j < l.length → V j (xs j) W) → Q .normal (fr xs) W) (hl : ∀ i ∈ loud, i < l.length) : (Code.region id l.toArray true).wpIn Fence.wide n P Q a w := by
  refine wpIn_region_spec hm hchk V (fun d W => I (loud.map d) W) h0 ?_ (fun xs d W hd hI hV => by
    rw [hfr]
    refine hQ xs W ?_ hV
    rw [show loud.map (fun _ => true) = loud.map d from List.map_congr_left fun i hi => (hd i (hl i hi)).symm]
    exact hI)
  have key : ∀ (q : List Oper) (k : Nat), Obl (fun i o => ∀ (xs : Nat → Value) (d : Nat → Bool) (W : World), (∀ j ∈ edges o, d j = true) → (∀ k p, l[k]? = some p → i ∈ edges p → d k = false) → I (loud.map d) W → (∀ j, d j = true → V j (xs j) W) →
      if i ∈ loud then d i = false → OpGivesIn n P o (fr xs).eval W (fun v W' => I (loud.map (upd d i true)) W' ∧ V i v W' ∧ ∀ j, d j = true → V j (xs j) W') ∧ Region.wanted o (yielded l.toArray (fr xs).tmps) = true
      else if Region.wanted o (yielded l.toArray (fr xs).tmps) then OpGivesIn n P o (fr xs).eval W (fun v W' => W' = W ∧ V i v W) else V i undef W) q k →
      Obl (Owed (fun o K a w => if Region.wanted o (yielded l.toArray a.tmps) then o.wpIn Fence.wide n P a w K Q else (∀ f, o.about P w a.eval = some f → Fence.wide.fn f) ∧ K (a.put o.dst undef) w) l a V (fun d W => I (loud.map d) W)) q k := by
    intro q
    induction q with
    | nil => intro k _; trivial
    | cons o q ih =>
      rintro k ⟨h1, h2⟩
      refine ⟨fun xs d W hdn hdi he hI hV _ K hK => ?_, ih _ h2⟩
      have := h1 xs d W he (fun j p hj hm => by
        by_cases hd : d j = true
        · have := hdn j p hj hd k hm
          rw [hdi] at this
          cases this
        · simpa using hd) hI hV
      rw [hfr] at hK ⊢
      show if Region.wanted o (yielded l.toArray (fr xs).tmps) = true then Oper.wpIn Fence.wide n P o (fr xs) W K Q else (∀ f, o.about P W (fr xs).eval = some f → Fence.wide.fn f) ∧ K ((fr xs).put o.dst undef) W
      by_cases hk : k ∈ loud
      · rw [if_pos hk] at this
        obtain ⟨h3, h4⟩ := this hdi
        rw [if_pos h4]
        exact wpIn_of_gives (h3.mono fun v W' ⟨hi, hv, hs⟩ => hK v W' hi hv hs)
      · rw [if_neg hk] at this
        have hmap : loud.map (upd d k true) = loud.map d := List.map_congr_left fun i hi => upd_ne _ _ (fun e => hk (by rw [← e]; exact hi))
        split
        · rename_i hw
          rw [if_pos hw] at this
          exact wpIn_of_gives (this.mono fun v W' ⟨he, hv⟩ => by subst he; exact hK v W' (by show I (loud.map _) _; rw [hmap]; exact hI) hv hV)
        · rename_i hw
          rw [if_neg hw] at this
          exact ⟨fun _ _ => trivial, hK _ _ (by show I (loud.map _) _; rw [hmap]; exact hI) this hV⟩
  exact key _ _ hob
/-- Most values are known outright; of the others 'G' tells. -/
def VV (c : List (Option Value)) (G : Nat → Value → World → Prop) (j : Nat) (u : Value) (W : World) : Prop :=
  match c.getD j none with
  | some e => u = e
  | none => G j u W
theorem VV.any {c : List (Option Value)} {G : Nat → Value → World → Prop} {j : Nat} {u : Value} {W W' : World} (h : VV c G j u W) (hG : ∀ j u W W', G j u W → G j u W') : VV c G j u W' := by
  unfold VV at *
  split
  · rename_i e he; rw [he] at h; exact h
  · rename_i he; rw [he] at h; exact hG _ _ _ _ h
theorem VV.stable {c : List (Option Value)} {G : Nat → Value → World → Prop} (hG : ∀ j u W W', Below W.heap.size W W' → G j u W → G j u W') (j : Nat) (u : Value) (W W' : World) (hb : Below W.heap.size W W') (h : VV c G j u W) : VV c G j u W' := by
  unfold VV at *
  split
  · rename_i e he; rw [he] at h; exact h
  · rename_i he; rw [he] at h; exact hG _ _ _ _ hb h
end

/-! ### 5. Writing into a row of the call's own -/
theorem grown_set (w : World) (a : Addr) (u : Value) : w.grownBy (w.setCell a u) (some a.block) :=
  ⟨rfl, rfl, rfl, by simp [World.setCell], fun k hk hne => by simp only [World.setCell, Array.getElem?_modify]; rw [if_neg (fun h => hne (by rw [h]))]⟩
theorem own_put {w : World} {base : Nat} {e : TypeId} {g n c : Nat} {cs : List Value} (h : w.ownsRow base e 1 (.slice (some ⟨g, 0, none⟩) n c) n cs) (j : Nat) (u : Value) (hj : j < n) :
    (w.setCell ⟨g, j, none⟩ u).ownsRow base e 1 (.slice (some ⟨g, 0, none⟩) n c) n (cs.set j u) := by
  obtain ⟨hl, h⟩ := h
  refine ⟨by rw [List.length_set]; exact hl, .inr ?_⟩
  rcases h with ⟨h, _⟩ | ⟨g', cap, cur, he, hb, hh, h1, h2, h3, h4⟩
  · cases h
  · cases he
    refine ⟨g, c, cur.setIfInBounds j u, rfl, hb, ?_, h1, h2, by simpa using h3, ?_⟩
    · simp only [World.setCell, Array.getElem?_modify, hh, if_pos, Option.map_some, Option.isSome_none, Bool.false_eq_true, if_false]
    · rw [Array.toList_setIfInBounds, List.take_set, h4]
theorem own_free {w : World} {base : Nat} {e : TypeId} {size g n c : Nat} {cs : List Value} (h : w.ownsRow base e size (.slice (some ⟨g, 0, none⟩) n c) n cs) (j : Nat) : w.frozen? ⟨g, j, none⟩ = false := by
  rcases h.2 with ⟨h, _⟩ | ⟨g', cap, cur, he, hb, hh, _⟩
  · cases h
  · cases he
    simp [World.frozen?, hh]
theorem own_cellj {w : World} {base : Nat} {e : TypeId} {g n c : Nat} {cs : List Value} (h : w.ownsRow base e 1 (.slice (some ⟨g, 0, none⟩) n c) n cs) (j : Nat) (u : Value) (hu : cs[j]? = some u) : w.cell? ⟨g, j, none⟩ = some u := by
  have := h.cells (g := g) rfl j u hu
  rwa [add_plain] at this
theorem add_block (a : Addr) (j : Nat) : (a.add j).block = a.block := by unfold Addr.add; split <;> rfl
theorem rd_grown {w w1 : World} {size : Nat} {A : Option Addr} {n c : Nat} {cs : List Value} {row : Option Nat} (h : Rd w size A n c cs) (hg : w.grownBy w1 row) (hne : ∀ a, A = some a → some a.block ≠ row) : Rd w1 size A n c cs :=
  ⟨h.len, h.nil_, h.le, fun a ha j u hu => hg.cell (h.cells a ha j u hu) (by rw [add_block]; exact hne a ha)⟩
end Go.HL
