/- stream: Texts; a region that writes, with all that hangs on an operation told undone. -/
import Derived.Test.YtmifnmnpihikgaaSR
namespace Go.HL
open Go.RowKit
theorem wp_region_loudR {P : Program} {Q : Exit → Act → World → Prop} {id : Nat} {l : List Oper} {a : Act} {w : World} (hm : P.follows .mixedOrders = true) (hchk : specOk l = true) (fr : (Nat → Value) → Act) (hfr : ∀ xs, fillL a xs l 0 = fr xs)
    (loud : List Nat) (V : Nat → Value → World → Prop) (I : List Bool → World → Prop) (h0 : I (loud.map fun _ => false) w.drew)
    (hob : Obl (fun i o => ∀ (xs : Nat → Value) (d : Nat → Bool) (W : World), (∀ j ∈ edges o, d j = true) → (∀ k, d i = false → reach l l.length k i = true → d k = false) → I (loud.map d) W → (∀ j, d j = true → V j (xs j) W) →
      if i ∈ loud then d i = false → OpGives P o (fr xs).eval W (fun v W' => I (loud.map (upd d i true)) W' ∧ V i v W' ∧ ∀ j, d j = true → V j (xs j) W') ∧ Region.wanted o (yielded l.toArray (fr xs).tmps) = true
      else if Region.wanted o (yielded l.toArray (fr xs).tmps) then d i = false → OpGives P o (fr xs).eval W (fun v W' => W' = W ∧ V i v W) else V i undef W) l 0)
    (hQ : ∀ (xs : Nat → Value) W, I (loud.map fun _ => true) W → (∀ j, j < l.length → V j (xs j) W) → Q .normal (fr xs) W) (hl : ∀ i ∈ loud, i < l.length) : (Code.region id l.toArray true).wp P Q a w := by
  refine wp_region_spec hm hchk V (fun d W => I (loud.map d) W) h0 ?_ (fun xs d W hd hI hV => by
    rw [hfr]
    refine hQ xs W ?_ hV
    rw [show loud.map (fun _ => true) = loud.map d from List.map_congr_left fun i hi => (hd i (hl i hi)).symm]
    exact hI)
  have key : ∀ (q : List Oper) (k : Nat), Obl (fun i o => ∀ (xs : Nat → Value) (d : Nat → Bool) (W : World), (∀ j ∈ edges o, d j = true) → (∀ k, d i = false → reach l l.length k i = true → d k = false) → I (loud.map d) W → (∀ j, d j = true → V j (xs j) W) →
      if i ∈ loud then d i = false → OpGives P o (fr xs).eval W (fun v W' => I (loud.map (upd d i true)) W' ∧ V i v W' ∧ ∀ j, d j = true → V j (xs j) W') ∧ Region.wanted o (yielded l.toArray (fr xs).tmps) = true
      else if Region.wanted o (yielded l.toArray (fr xs).tmps) then d i = false → OpGives P o (fr xs).eval W (fun v W' => W' = W ∧ V i v W) else V i undef W) q k →
      Obl (Owed (fun o K a w => if Region.wanted o (yielded l.toArray a.tmps) then o.wp P a w K Q else K (a.put o.dst undef) w) l a V (fun d W => I (loud.map d) W)) q k := by
    intro q
    induction q with
    | nil => intro k _; trivial
    | cons o q ih =>
      rintro k ⟨h1, h2⟩
      refine ⟨fun xs d W hdn hdi he hI hV _ K hK => ?_, ih _ h2⟩
      have := h1 xs d W he (fun j hi hr => reach_undone hdn hi _ _ hr) hI hV
      rw [hfr] at hK ⊢
      show if Region.wanted o (yielded l.toArray (fr xs).tmps) = true then Oper.wp P o (fr xs) W K Q else K ((fr xs).put o.dst undef) W
      by_cases hk : k ∈ loud
      · rw [if_pos hk] at this
        obtain ⟨h3, h4⟩ := this hdi
        rw [if_pos h4]
        exact wp_of_gives (h3.mono fun v W' ⟨hi, hv, hs⟩ => hK v W' hi hv hs)
      · rw [if_neg hk] at this
        have hmap : loud.map (upd d k true) = loud.map d := List.map_congr_left fun i hi => upd_ne _ _ (fun e => hk (by rw [← e]; exact hi))
        split
        · rename_i hw
          rw [if_pos hw] at this
          exact wp_of_gives ((this hdi).mono fun v W' ⟨he, hv⟩ => by subst he; exact hK v W' (by show I (loud.map _) _; rw [hmap]; exact hI) hv hV)
        · rename_i hw
          rw [if_neg hw] at this
          exact hK _ _ (by show I (loud.map _) _; rw [hmap]; exact hI) this hV
  exact key _ _ hob
/-- append whose outcome is known. -/
theorem gives_run {P : Program} {o : Oper} {ev : Operand → Value} {R : Value → World → Prop} (w : World) (s x : Operand) (t tx : TypeId)
    (ho : o.op = .call { callee := .builtin .append, args := #[s, x], argTypes := #[t, tx] }) (v y : Value) (hs : ev s = v) (hx : ev x = y) (v1 : Value) (w1 : World)
    (hr : (Builtin.append_ #[t, tx] o.type #[v, y]).run P w = .ok v1 w1) (hK : R v1 w1) : OpGives P o ev w R := by
  unfold OpGives execOp
  simp only [ho, resolve, invoke, builtin, Sem.run_bind, Sem.run_pure, Result.andThen_ok, List.map_toArray, List.map_cons, List.map_nil, hs, hx, hr]
  exact hK
end Go.HL
namespace Go.Proofs.Ytmifnmnpihikgaa
open Go.RowKit Go.HL
set_option linter.unusedVariables false
set_option linter.unusedSimpArgs false
set_option maxHeartbeats 1000000 in
theorem texts_ (w : World) (A : Option Addr) (n c : Nat) (X : List Ms) (B : Option Addr) (nb cb : Nat) (Y : List Ms) (hX : Mss w A n c X) (hY : Mss w B nb cb Y) (hXY : X.map Ms.l = Y.map Ms.l) (hbig : n ≤ 1099511627776) :
    Calls Try.prog 12 #[.slice A n c, .slice B nb cb] w fun e w' => e = .returned (.bool true) ∧ ∃ m, w' = w.drewN m := by
  have hn := hX.len
  have hnb : nb = n := by
    have h1 := hY.len
    have h2 := congrArg List.length hXY
    simp only [List.length_map] at h2
    omega
  subst hnb
  have HXN := Lib.hid (And.intro hX.len (And.intro hY.len hXY))
  have hXr := hX.r
  have hYr := hY.r
  have HX := Lib.hid hX.m
  have HY := Lib.hid hY.m
  clear hn hX hY hXY
  go_enter Try.func12, Try.ntmps12
  go_wp2
  go_loopw [5] (fun u5 W => ∃ j q : Nat, j ≤ nb ∧ u5 = .int .i64 j ∧ W = w.drewN q) (fun u5 _ => nb - (intOf u5).toNat)
  case atStart => exact ⟨0, 0, Nat.zero_le _, rfl, rfl⟩
  case round =>
    obtain ⟨j, q, hj, rfl, hW⟩ := hrel
    by_cases hlt : j < nb
    · have hlt' : (j : Int) < (nb : Int) := by omega
      obtain ⟨m, hm⟩ : ∃ m, X[j]? = some m := ⟨_, List.getElem?_eq_getElem (by have := HXN.out.1; omega)⟩
      obtain ⟨t, ht⟩ : ∃ t, Y[j]? = some t := ⟨_, List.getElem?_eq_getElem (by have := HXN.out.2.1; omega)⟩
      have hml : t.l = m.l := by
        have h1 := congrArg (fun q => q[j]?) HXN.out.2.2
        simp only [List.getElem?_map, hm, ht, Option.map_some, Option.some.injEq] at h1
        exact h1.symm
      have hmo := HX.out m (List.mem_of_getElem? hm)
      have hto := HY.out t (List.mem_of_getElem? ht)
      unfold MsOk at hmo hto
      obtain ⟨ad, rfl⟩ : ∃ a, A = some a := by
        cases A with
        | none => have := (hXr.nil_ rfl).1; omega
        | some a => exact ⟨a, rfl⟩
      obtain ⟨bd, rfl⟩ : ∃ a, B = some a := by
        cases B with
        | none => have := (hYr.nil_ rfl).1; omega
        | some a => exact ⟨a, rfl⟩
      have hc1 := (hXr.drewN q).cells ad rfl j m.val (by simp [hm])
      have hc2 := (hYr.drewN q).cells bd rfl j t.val (by simp [ht])
      have hmo := hmo.drewN q
      have hto := hto.drewN q
      obtain ⟨ma, mn, mc, ml⟩ := m
      obtain ⟨ta, tn, tc, tl⟩ := t
      simp only [Ms.val] at hc1 hc2 hmo hto hml
      subst hml
      obtain ⟨sl, hsl⟩ : ∃ sl, str tl = sl := ⟨_, rfl⟩
      rw [← hW] at hc1 hc2 hmo hto
      have HWr := Lib.hid hW
      have k1 := fun q => run_conv_str (P := Try.prog) (wr.drewN q) (dst := 9) Try.underlying26 Try.underlying5 Try.underlying9 (hmo.drewN q)
      have k2 := fun q => run_conv_str (P := Try.prog) (wr.drewN q) (dst := 9) Try.underlying26 Try.underlying5 Try.underlying9 (hto.drewN q)
      rw [hsl] at k1 k2
      clear hm ht hmo hto hsl hW
      go_wp2
      go_quiet (fail)
      go_wp2
      go_roundw
      case rel => exact ⟨j + 1, q + nq, by omega, by go_num, by rw [HWr.out, World.drewN_drewN]⟩
      case measure => simp [intOf]; omega
    · have hlt' : ¬ (j : Int) < (nb : Int) := by omega
      have HWr := Lib.hid hW
      clear hW
      go_wp2
      go_ret
      exact ⟨rfl, q, HWr.out⟩
/-! ### The region in which the document cuts -/
def PV (W2 : World) (L : List UInt8) (v : Value) (W : World) : Prop :=
  ∃ Y : List Ms, W.ownsRow W2.heap.size 26 1 v Y.length (Y.map Ms.val) ∧ (∀ m ∈ Y, MsT W m ∧ ∀ a, m.a = some a → W2.heap.size ≤ a.block) ∧ Y.map Ms.l = (cut L).1
def PR (W2 : World) (L : List UInt8) (r : Value) (W : World) : Prop := W.ownsRow W2.heap.size 5 1 r (cut L).2.length (bs (cut L).2)
def I11 (w0 W1 W2 : World) : List Bool → World → Prop
  | [d1, d6, d7], W => (d6 = true → d1 = true) ∧ (d7 = true → d6 = true) ∧ (d7 = false → W = if d6 then W2 else if d1 then W1 else w0.drew) ∧ (d7 = true → Below W2.heap.size W2 W)
  | _, _ => False
theorem I11.e0 {w0 W1 W2 W : World} {d1 d6 d7 : Bool} (h : I11 w0 W1 W2 [d1, d6, d7] W) (h1 : d1 = false) : d6 = false ∧ d7 = false ∧ W = w0.drew := by
  obtain ⟨a, b, c, _⟩ := h
  have h6 : d6 = false := by cases h6 : d6 with
    | true => have := a h6; rw [h1] at this; cases this
    | false => rfl
  have h7 : d7 = false := by cases h7 : d7 with
    | true => have := b h7; rw [h6] at this; cases this
    | false => rfl
  have := c h7
  rw [h6, h1] at this
  exact ⟨h6, h7, this⟩
theorem I11.e1 {w0 W1 W2 W : World} {d1 d6 d7 : Bool} (h : I11 w0 W1 W2 [d1, d6, d7] W) (h1 : d1 = true) (h6 : d6 = false) : d7 = false ∧ W = W1 := by
  obtain ⟨a, b, c, _⟩ := h
  have h7 : d7 = false := by cases h7 : d7 with
    | true => have := b h7; rw [h6] at this; cases this
    | false => rfl
  have := c h7
  rw [h6, h1] at this
  exact ⟨h7, this⟩
theorem I11.e2 {w0 W1 W2 W : World} {d1 d6 d7 : Bool} (h : I11 w0 W1 W2 [d1, d6, d7] W) (h6 : d6 = true) (h7 : d7 = false) : W = W2 := by
  obtain ⟨a, b, c, _⟩ := h
  have := c h7
  rw [h6] at this
  exact this
/-- What was held when the region began is held throughout. -/
theorem I11.at {w0 W1 W2 W : World} {d1 d6 d7 : Bool} (h : I11 w0 W1 W2 [d1, d6, d7] W) (hb1 : Below w0.heap.size w0 W1) (hb2 : Below w0.heap.size w0 W2) : Below w0.heap.size w0 W := by
  obtain ⟨a, b, c, d⟩ := h
  cases h7 : d7 with
  | true => exact hb2.trans ((d h7).mono hb2.size)
  | false =>
    have := c h7
    subst this
    cases d6 with
    | true => exact hb2
    | false =>
      cases d1 with
      | true => exact hb1
      | false => exact (Below.refl _ _).drew
end Go.Proofs.Ytmifnmnpihikgaa
