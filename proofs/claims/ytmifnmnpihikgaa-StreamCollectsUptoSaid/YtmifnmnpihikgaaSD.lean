/- stream: Feed walked. -/
import Derived.Test.YtmifnmnpihikgaaSC
namespace Go.Proofs.Ytmifnmnpihikgaa
open Go.RowKit Go.HL Go.Shelf
set_option linter.unusedVariables false
set_option linter.unusedSimpArgs false
attribute [local go_sem] Oper.semAt_some

theorem own_cells' {W : World} {base m s : Nat} {e : TypeId} {v : Value} {x : List Value} (h : W.ownsRow base e s v m x) (j : Nat) (o : Obj) (hj : v.ownBlock = some j) (ho : W.heap[j]? = some o) : o.isCells = true := by
  rcases h.2 with ⟨rfl, _⟩ | ⟨g, cap, cur, rfl, _, hh, _⟩
  · cases hj
  · cases hj
    rw [hh] at ho
    cases ho
    rfl
theorem info_bytes : (Try.prog.info? 26).map (fun i => (i.zero, i.size, i.bytes)) = some (some (.slice none 0 0), 1, 24) := by kernel_rfl
theorem cutS_blk {A : Option Addr} {lo c s : Nat} {P : Nat → Prop} (h : ∀ a, A = some a → P a.block) : ∀ a, cutS A lo c s = some a → P a.block := by
  intro a ha
  unfold cutS at ha
  split at ha
  · exact h a ha
  · cases A with
    | none => cases ha
    | some b =>
      cases ha
      show P (b.add (lo * s)).block
      rw [add_block]
      exact h b rfl
theorem cutM_blk {P : Nat → Prop} : ∀ (k : Nat) (m : Ms), (∀ a, m.a = some a → P a.block) → (∀ x ∈ (cutM k m).1, ∀ a, x.a = some a → P a.block) ∧ (∀ a, (cutM k m).2.a = some a → P a.block)
  | 0, m, h => ⟨fun x hx => (by cases hx), h⟩
  | k + 1, m, h => by
    rw [cutM]
    by_cases hs : m.l.length < 2 ∨ m.l.length < 2 + nW m.l
    · rw [if_pos hs]; exact ⟨fun x hx => (by cases hx), h⟩
    · rw [if_neg hs]
      obtain ⟨h1, h2⟩ := cutM_blk k m.tl (cutS_blk h)
      refine ⟨fun x hx => ?_, h2⟩
      rcases List.mem_cons.1 hx with rfl | hx
      · exact cutS_blk h
      · exact h1 x hx
theorem cutM_ok {W : World} : ∀ (k : Nat) (m : Ms), MsOk W m → (∀ x ∈ (cutM k m).1, MsOk W x) ∧ MsOk W (cutM k m).2
  | 0, m, h => ⟨fun x hx => (by cases hx), h⟩
  | k + 1, m, h => by
    rw [cutM]
    by_cases hs : m.l.length < 2 ∨ m.l.length < 2 + nW m.l
    · rw [if_pos hs]; exact ⟨fun x hx => (by cases hx), h⟩
    · rw [if_neg hs]
      obtain ⟨h1, h2⟩ := cutM_ok k m.tl (h.tl hs)
      refine ⟨fun x hx => ?_, h2⟩
      rcases List.mem_cons.1 hx with rfl | hx
      · exact h.hd hs
      · exact h1 x hx
theorem cutM_num : ∀ (k : Nat) (m : Ms), 2 * (cutM k m).1.length ≤ m.l.length
  | 0, m => by simp [cutM]
  | k + 1, m => by
    rw [cutM]
    by_cases hs : m.l.length < 2 ∨ m.l.length < 2 + nW m.l
    · rw [if_pos hs]; simp
    · rw [if_neg hs]
      have := cutM_num k m.tl
      simp [Ms.tl] at this ⊢
      omega
theorem cutM_len : ∀ (k : Nat) (m : Ms), (cutM k m).2.l.length ≤ m.l.length
  | 0, m => Nat.le_refl _
  | k + 1, m => by
    rw [cutM]
    by_cases hs : m.l.length < 2 ∨ m.l.length < 2 + nW m.l
    · rw [if_pos hs]; exact Nat.le_refl _
    · rw [if_neg hs]
      have := cutM_len k m.tl
      simp [Ms.tl] at this ⊢
      omega
/-- A row of bytes lies there. -/
def Byt (W : World) (b : Nat) : Prop := ∃ cs fr, W.heap[b]? = some (.cells cs 5 fr)
theorem Byt.kept {W W' : World} {b : Nat} {row : Option Nat} (h : Byt W b) (hg : W.grownBy W' row) (hne : some b ≠ row) : Byt W' b := by
  obtain ⟨cs, fr, hb⟩ := h
  exact ⟨cs, fr, (hg.block b (Array.getElem?_eq_some_iff.1 hb).1 hne).trans hb⟩
theorem Byt.below {W W' : World} {b : Nat} (h : Byt W b) (hb : Below W.heap.size W W') : Byt W' b := by
  obtain ⟨cs, fr, h1⟩ := h
  exact ⟨cs, fr, (hb.block b (Array.getElem?_eq_some_iff.1 h1).1).trans h1⟩
theorem Byt.of_own {W : World} {base n : Nat} {v : Value} {xs : List Value} (h : W.ownsRow base 5 1 v n xs) (b : Nat) (hb : v.ownBlock = some b) : Byt W b := by
  rcases h.2 with ⟨rfl, _⟩ | ⟨g, cap, cur, rfl, _, hh, _⟩
  · cases hb
  · cases hb
    exact ⟨_, _, hh⟩
/-- In the midst of Feed. -/
structure FI (w : World) (h R Lb V : Nat) (m0 : Ms) (pre : List Ms) (W : World) : Prop where
  l : ∃ v, Boxed W Lb 22 v ∧ W.ownsRow h 26 1 v pre.length (pre.map Ms.val)
  ok : MsOk W m0
  t : ∀ a, m0.a = some a → Byt W a.block
  v : Boxed W V 24 (.pointer (some ⟨R, 0, none⟩))
  g : w.grownBy W (some R)
  sz : h ≤ W.heap.size
structure FS (w : World) (h R Lb V : Nat) (m0 : Ms) : Prop where
  r : R < w.heap.size
  l0 : w.heap.size ≤ Lb
  l1 : Lb < h
  v0 : w.heap.size ≤ V
  v1 : V < h
  lv : Lb ≠ V
  d : ∀ a, m0.a = some a → w.heap.size ≤ a.block ∧ a.block < Lb
theorem FI.step {w : World} {h R Lb V : Nat} {m0 : Ms} {pre : List Ms} {W W' : World} {row : Option Nat} (hi : FI w h R Lb V m0 pre W) (hs : FS w h R Lb V m0) (hg : W.grownBy W' row) (hrow : ∀ k, row = some k → k = R ∨ (h ≤ k ∧ ∀ (e : TypeId) (v : Value) (n : Nat) (xs : List Value), W.ownsRow h e 1 v n xs → v.ownBlock ≠ some k)) : FI w h R Lb V m0 pre W' := by
  obtain ⟨⟨v, a1, a2⟩, a3, a7, a4, a5, a6⟩ := hi
  have h1 := hs.r
  have h2 := hs.l0
  have h3 := hs.l1
  have h4 := hs.v0
  have h5 := hs.v1
  have hne : ∀ b, w.heap.size ≤ b → b < h → some b ≠ row := fun b hb1 hb2 e => by
    rcases hrow b e.symm with h6 | h6
    · omega
    · omega
  refine ⟨⟨v, a1.kept hg (hne Lb h2 h3), a2.kept hg ?_⟩, rd_grown a3 hg (fun a ha => hne _ (hs.d a ha).1 (by have := (hs.d a ha).2; omega)), fun a ha => (a7 a ha).kept hg (hne _ (hs.d a ha).1 (by have := (hs.d a ha).2; omega)), a4.kept hg (hne V h4 h5), ⟨hg.os.trans a5.os, hg.tape.trans a5.tape, hg.output.trans a5.output, Nat.le_trans a5.size hg.size, fun k hk hk2 => ?_⟩, Nat.le_trans a6 hg.size⟩
  · cases hv : v.ownBlock with
    | none => exact .inl rfl
    | some k =>
      right
      intro e
      rcases hrow k e.symm with h6 | h6
      · have := own_base a2 k hv; omega
      · exact h6.2 _ _ _ _ a2 hv
  · rw [hg.block k (Nat.lt_of_lt_of_le hk a5.size) (fun e => by
      rcases hrow k e.symm with h6 | h6
      · exact hk2 (by rw [h6])
      · omega)]
    exact a5.block k hk hk2
theorem FI.app {w : World} {h R Lb V : Nat} {m0 : Ms} {pre : List Ms} {W w1 : World} {o : Obj} {row : Option Nat} {v' : Value} {x : Ms} (hi : FI w h R Lb V m0 pre W) (hs : FS w h R Lb V m0) (hg : (W.alloc o).grownBy w1 row) (hrow : ∀ k, row = some k → h ≤ k) (hown : w1.ownsRow h 26 1 v' (pre.length + 1) (pre.map Ms.val ++ [x.val])) :
    FI w h R Lb V m0 (pre ++ [x]) (w1.setCell ⟨Lb, 0, none⟩ v') := by
  obtain ⟨⟨v, a1, a2⟩, a3, a7, a4, a5, a6⟩ := hi
  have h1 := hs.r
  have h2 := hs.l0
  have h3 := hs.l1
  have h4 := hs.v0
  have h5 := hs.v1
  have h6 := hs.lv
  have g1 := World.grownBy_alloc W o none
  have g3 := grownBy_setCell' w1 Lb v'
  have hne : ∀ b, b < h → some b ≠ row := fun b hb e => by have := hrow b e.symm; omega
  have hne3 : ∀ b, b ≠ Lb → some b ≠ some Lb := fun b hb e => hb (by cases e; rfl)
  refine ⟨⟨v', (a1.alloc o |>.kept hg (hne Lb h3)).set v', ?_⟩, ?_, fun a ha => (((a7 a ha).kept g1 (by simp)).kept hg (hne _ (by have := (hs.d a ha).2; omega))).kept g3 (hne3 _ (by have := (hs.d a ha).2; omega)), ((a4.alloc o).kept hg (hne V h5)).kept g3 (hne3 V (Ne.symm h6)), ⟨g3.os.trans (hg.os.trans a5.os), g3.tape.trans (hg.tape.trans a5.tape), g3.output.trans (hg.output.trans a5.output), Nat.le_trans a5.size (Nat.le_trans g1.size (Nat.le_trans hg.size g3.size)), fun k hk hk2 => ?_⟩, Nat.le_trans a6 (Nat.le_trans g1.size (Nat.le_trans hg.size g3.size))⟩
  · have := hown.kept g3 (by
      cases hv : v'.ownBlock with
      | none => exact .inl rfl
      | some k => right; intro e; have := own_base hown k hv; cases e; omega)
    simpa using this
  · exact rd_grown (rd_grown (Rd.alloc a3 o) hg (fun a ha => hne _ (by have := (hs.d a ha).2; omega))) g3 (fun a ha => hne3 _ (by have := (hs.d a ha).2; omega))
  · rw [g3.block k (by have := g1.size; have := hg.size; have := a5.size; omega) (hne3 k (by omega)), hg.block k (by have := g1.size; have := a5.size; omega) (hne k (by omega)), g1.block k (by have := a5.size; omega) (by simp)]
    exact a5.block k hk hk2
/-- What Feed leaves. -/
def FeedP (w : World) (R : Nat) (l : List UInt8) (e : Ending) (w' : World) : Prop :=
  ∃ (X : List Ms) (v r : Value), e = .returned (.tuple #[v, .int .i64 0]) ∧ w'.ownsRow w.heap.size 26 1 v X.length (X.map Ms.val) ∧ (∀ m ∈ X, MsOk w' m ∧ ∀ a, m.a = some a → w.heap.size ≤ a.block ∧ Byt w' a.block) ∧ X.map Ms.l = (cut l).1
    ∧ Boxed w' R 48 r ∧ w'.ownsRow w.heap.size 5 1 r (cut l).2.length (bs (cut l).2) ∧ w.grownBy w' (some R)
theorem whole_ (w : World) (R : Nat) : Calls Try.prog 20 #[.pointer (some ⟨R, 0, none⟩)] w fun e w' => e = .returned (.func (.func 27) #[] #[.pointer (some ⟨w.heap.size, 0, none⟩)]) ∧ w' = w.alloc (.cells #[.pointer (some ⟨R, 0, none⟩)] 24) := by
  go_enter Try.func20, Try.ntmps20
  go_wp2
  go_ret
  exact ⟨rfl, rfl⟩
theorem feed_nil (w : World) (A : Option Addr) (n c : Nat) : Calls Try.prog 10 #[.pointer none, .slice A n c] w (Tells w (.tuple #[.slice none 0 0, .int .i64 8])) := by
  go_enter Try.func10, Try.ntmps10
  go_wp2
  go_ret2
  exact ⟨rfl, Below.refl _ _⟩
set_option maxRecDepth 100000 in
set_option maxHeartbeats 4000000 in
theorem feed_ (w : World) (R : Nat) (Aw : Option Addr) (nw cw : Nat) (lw : List UInt8) (A : Option Addr) (n c : Nat) (l : List UInt8) (hR : Boxed w R 48 (.slice Aw nw cw)) (hrw : Rd w 1 Aw nw cw (bs lw)) (hr : Rd w 1 A n c (bs l)) (hn : nw + n ≤ 1099511627776) :
    Calls Try.prog 10 #[.pointer (some ⟨R, 0, none⟩), .slice A n c] w (FeedP w R (lw ++ l)) := by
  have hlw := hrw.blen
  have hl := hr.blen
  refine (callsIn_wide (n := 9)).1 ?_
  refine callsIn_of_wp_marks Try.func10 rfl trivial ?_ rfl
  simp only [Try.ntmps10, List.size_toArray, List.length_cons, List.length_nil, Nat.reduceAdd, Nat.reduceSub, Array.replicate_succ, Array.replicate_zero, List.push_toArray, List.append_toArray, List.nil_append, List.cons_append]
  have f19 : Fence.wide.fn 19 := trivial
  have f20 : Fence.wide.fn 20 := trivial
  have f21 : Fence.wide.fn 21 := trivial
  have cR := hR.cell
  have fR := hR.frozen
  -- the two rows, one behind the other
  have HB := Blk.new w 26 #[.slice Aw nw cw, .slice A n c]
  have hbb := below_new w (.cells #[.slice Aw nw cw, .slice A n c] 26)
  have hc := callsIn_wide (n := 8).2 (concat_ _ w.heap.size Aw nw cw lw A n c l (hrw.below hbb) (hr.below hbb) (by omega) (HB.cell 0 _ rfl) (HB.cell 1 _ rfl))
  unfold Gives at hc
  have hL : (lw ++ l).length ≤ 1099511627776 := by rw [List.length_append]; omega
  obtain ⟨L, hLL⟩ : ∃ L, lw ++ l = L := ⟨_, rfl⟩
  rw [hLL] at hc hL ⊢
  obtain ⟨N, hNN⟩ : ∃ N, L.length = N := ⟨_, rfl⟩
  rw [hNN] at hc hL
  have HNN := Lib.hid hNN
  clear hlw hl hLL hNN hrw hr hn
  have HC := Lib.hid hc
  have hw := fun W => callsIn_wide (n := 8).2 (whole_ W R)
  have HW := Lib.hid hw
  clear hc hw HB
  gi_wp2_with (first | (gi_at_call 19; refine HC.out.mono ?_; rintro e w1 ⟨v1, rfl, ho1, hb1⟩; have hR1 : Boxed w1 R 48 (.slice Aw nw cw) := (hb1.block R (by rw [World.size_alloc]; have := hR.lt; omega)).trans (hR.alloc _); have cR1 := hR1.cell; have fR1 := hR1.frozen; obtain ⟨Ad, cd, rfl, hrd⟩ := own_rd ho1) | (gi_at_call 20; refine (HW.out _).mono ?_; rintro e w' ⟨rfl, rfl⟩))
  obtain ⟨Lb, hLb⟩ : ∃ x, w1.heap.size = x := ⟨_, rfl⟩
  rw [hLb]
  have hb2 := hbb.trans ⟨hb1.os, hb1.tape, hb1.output, hb1.size, fun k hk => hb1.block k (by rw [World.size_alloc]; omega)⟩
  have hwL : w.heap.size + 1 ≤ Lb := by rw [← hLb]; have := hb1.size; rw [World.size_alloc] at this; exact this
  have hg2 := grownBy_setCell' w1 R (.slice Ad N cd)
  have hz2 : (w1.setCell ⟨R, 0, none⟩ (.slice Ad N cd)).heap.size = Lb := by rw [← hLb]; simp [World.setCell]
  have hRw := hR.lt
  have hdb : ∀ a, Ad = some a → w.heap.size + 1 ≤ a.block ∧ a.block < Lb := fun a ha => by
    have h := ho1.lt a.block (by rw [ha]; rfl)
    rw [World.size_alloc, hLb] at h
    exact h
  have hty : ∀ a, Ad = some a → Byt w1 a.block := fun a ha => Byt.of_own ho1 a.block (by rw [ha]; rfl)
  have hty2 : ∀ a, Ad = some a → Byt (w1.setCell ⟨R, 0, none⟩ (.slice Ad N cd)) a.block := fun a ha => (hty a ha).kept hg2 (by have := (hdb a ha).1; simp; omega)
  have hrd2 := rd_grown hrd hg2 (fun a ha => by have := (hdb a ha).1; simp; omega)
  have hR2 := hR1.set (.slice Ad N cd)
  have hgw : w.grownBy (w1.setCell ⟨R, 0, none⟩ (.slice Ad N cd)) (some R) := ⟨hg2.os.trans hb2.os, hg2.tape.trans hb2.tape, hg2.output.trans hb2.output, Nat.le_trans hb2.size hg2.size, fun k hk hne => (hg2.block k (Nat.lt_of_lt_of_le hk hb2.size) hne).trans (hb2.block k hk)⟩
  obtain ⟨W2, hW2⟩ : ∃ x, w1.setCell ⟨R, 0, none⟩ (.slice Ad N cd) = x := ⟨_, rfl⟩
  rw [hW2] at hg2 hz2 hrd2 hR2 hgw hty2 ⊢
  clear hty
  clear hW2 hR1 cR1 fR1 cR fR hb1 hbb HC HW ho1 hrd hb2
  have B3 := Boxed.new W2 22 (.slice none 0 0)
  have B4 := Boxed.new (W2.alloc (.cells #[.slice none 0 0] 22)) 24 (.pointer (some ⟨R, 0, none⟩))
  have C3 := B3.alloc (.cells #[.pointer (some ⟨R, 0, none⟩)] 24)
  have hR4 := (hR2.alloc (.cells #[.slice none 0 0] 22)).alloc (.cells #[.pointer (some ⟨R, 0, none⟩)] 24)
  have hrd4 := (hrd2.alloc (.cells #[.slice none 0 0] 22)).alloc (.cells #[.pointer (some ⟨R, 0, none⟩)] 24)
  have hty4 : ∀ a, Ad = some a → Byt ((W2.alloc (.cells #[.slice none 0 0] 22)).alloc (.cells #[.pointer (some ⟨R, 0, none⟩)] 24)) a.block := fun a ha => (hty2 a ha).below (below_alloc (below_new W2 _) _)
  have hgw4 := (hgw.trans (World.grownBy_alloc W2 (.cells #[.slice none 0 0] 22) (some R))).trans (World.grownBy_alloc (W2.alloc (.cells #[.slice none 0 0] 22)) (.cells #[.pointer (some ⟨R, 0, none⟩)] 24) (some R))
  have hz4 : ((W2.alloc (.cells #[.slice none 0 0] 22)).alloc (.cells #[.pointer (some ⟨R, 0, none⟩)] 24)).heap.size = Lb + 2 := by rw [World.size_alloc, World.size_alloc, hz2]
  rw [World.size_alloc, hz2] at B4
  rw [hz2] at C3
  obtain ⟨W4, hW4⟩ : ∃ x, (W2.alloc (.cells #[.slice none 0 0] 22)).alloc (.cells #[.pointer (some ⟨R, 0, none⟩)] 24) = x := ⟨_, rfl⟩
  rw [hW4] at B4 C3 hR4 hrd4 hgw4 hz4 hty4 ⊢
  clear hW4 hg2 hrd2 hR2 hgw hz2 B3 hLb
  obtain ⟨h, hh⟩ : ∃ h, Lb + 2 = h := ⟨_, rfl⟩
  rw [hh] at hz4
  have hFS : FS w h R Lb (Lb + 1) ⟨Ad, N, cd, L⟩ := ⟨hRw, by omega, by omega, by omega, by omega, by omega, fun a ha => by have := hdb a ha; omega⟩
  have hI0 : FI w h R Lb (Lb + 1) ⟨Ad, N, cd, L⟩ [] W4 := ⟨⟨_, C3, World.ownsRow_nil _ _ _ _⟩, hrd4, hty4, B4, hgw4, by omega⟩
  clear B4 C3 hrd4 hgw4 hty4 hty2
  have hnum : 2 * (cutA ⟨Ad, N, cd, L⟩).1.length ≤ L.length := cutM_num L.length _
  have hLN := HNN.out
  refine wpIn_range_mem rfl (by omega) (gf := 27) (lb := #[.pointer (some ⟨Lb + 1, 0, none⟩)]) rfl trivial (enters_of Try.func27 (by kernel_rfl) rfl) encW (fun _ => rfl) R 48 (.slice Ad N cd) (cutA ⟨Ad, N, cd, L⟩).2.val (cutA ⟨Ad, N, cd, L⟩).1 _ (whole_iter 8 (by omega) R (Lb + 1) (by omega) ⟨Ad, N, cd, L⟩ (Nat.le_trans hL (by decide))) hR4
    (FI w h R Lb (Lb + 1) ⟨Ad, N, cd, L⟩) (fun pre W hi => ⟨hi.ok, hi.v⟩) ?hset ?hdrew ?hput ?h0 ?a1 ?hassign ?hbody ?hdone
  case hassign =>
    intro l x W K hK
    simp only [encW]
    gi_wp2
    exact hK
  case hset =>
    intro pre W v hi
    exact hi.step hFS (grownBy_setCell' W R v) (fun k hk => .inl (by cases hk; rfl))
  case hdrew => exact fun pre W hi => hi.step hFS (row := none) ⟨rfl, rfl, rfl, Nat.le_refl _, fun _ _ _ => rfl⟩ (fun k hk => by cases hk)
  case hput =>
    exact fun pre W k o o' hi hk ho hc => hi.step hFS (grownBy_putObj' W k o') (fun j hj => by
      cases hj
      exact .inr ⟨by omega, fun e v n xs hown hb => by
        have := own_cells' hown k o hb ho
        rw [hc] at this
        cases this⟩)
  case h0 => exact fun o => (hI0.step hFS (World.grownBy_alloc W4 (.deferred (some [])) none) (fun k hk => by cases hk)).step hFS (World.grownBy_alloc _ o none) (fun k hk => by cases hk)
  case hbody =>
    rintro l pre ⟨xa, xn, xc, xl⟩ W hi hpre
    obtain ⟨⟨vl, a1, a2⟩, a3, a7, a4, a5, a6⟩ := hi
    obtain ⟨Al, cl, rfl, _⟩ := own_rd a2
    have hxv : (Ms.mk xa xn xc xl).val = .slice xa xn xc := rfl
    simp only [hxv]
    have c1 := a1.cell
    have f1 := a1.frozen
    obtain ⟨post, hpost⟩ := hpre
    have hlen : pre.length + 1 ≤ (cutA ⟨Ad, N, cd, L⟩).1.length := by rw [← hpost]; simp
    obtain ⟨i0, hi, hzz⟩ := Option.map_eq_some_iff.1 info_bytes
    simp only [Prod.mk.injEq] at hzz
    obtain ⟨hz0, hz1, hz2⟩ := hzz
    have hLR := hFS.r
    have hL0 := hFS.l0
    have hL1 := hFS.l1
    have hmx : pre.length + 1 ≤ maxLen := by simp only [maxLen]; omega
    have hby : (pre.length + 1) * 24 ≤ 140737488355328 := by omega
    have HI0 := Lib.hid hi
    have HIZ := Lib.hid (And.intro hz0 (And.intro hz1 hz2))
    clear hi hz0 hz1 hz2 hnum hLN hlen hpost
    gi_wp2_with (gi_at_builtin; refine wpListIn_append_own _ rfl _ _ 22 rfl h 26 i0 (.slice none 0 0) 1 24 Try.underlying22 HI0.out HIZ.out.1 HIZ.out.2.1 HIZ.out.2.2 rfl (by decide) _ _ _ rfl (a2.kept (World.grownBy_alloc W (.cells #[.slice xa xn xc] 26) none) (by cases (Value.slice Al pre.length cl).ownBlock <;> simp)) ⟨W.heap.size, 0, none⟩ 1 1 [.slice xa xn xc] rfl rfl (World.news_of_block (cs := #[.slice xa xn xc]) (t := 26) (fr := (0, 0)) (heap_alloc_new W _)) (by intro u hu; simp at hu; subst hu; rfl) hmx hby (by rw [World.size_alloc]; omega) ?_; intro v' w1 hown' hgrow _; have b1 := (a1.alloc (.cells #[.slice xa xn xc] 26)).kept hgrow (by intro e; have := own_base a2 Lb e.symm; omega); have c1' := b1.cell; have f1' := b1.frozen; obtain ⟨Ax, cx, rfl, _⟩ := own_rd hown')
    refine ⟨((KeepsOthers.alloc W _).trans (KeepsOthers.of_grownBy hgrow (fun j o hj ho => own_cells' (a2.kept (World.grownBy_alloc W (.cells #[.slice xa xn xc] 26) none) (by cases (Value.slice Al pre.length cl).ownBlock <;> simp)) j o hj ho))).trans (KeepsOthers.setCell _ _ _), FI.app ⟨⟨_, a1, a2⟩, a3, a7, a4, a5, a6⟩ hFS hgrow (fun k hk => own_base a2 k hk) hown', fun u hu => ?_⟩
    exact ((hu.alloc _).kept hgrow (by intro e; have := own_base a2 R e.symm; omega)).kept (grownBy_setCell' w1 Lb _) (by intro e; cases e; omega)
  case hdone =>
    intro D W hi hb1 hD hK
    obtain ⟨⟨vl, a1, a2⟩, a3, a7, a4, a5, a6⟩ := hi
    obtain ⟨hX, hm1⟩ := cutM_ok (W := W) L.length ⟨Ad, N, cd, L⟩ a3
    obtain ⟨hXb, hmb⟩ := cutM_blk (P := fun b => (w.heap.size ≤ b ∧ b < h) ∧ Byt W b) L.length ⟨Ad, N, cd, L⟩ (fun a ha => by have h1 := hFS.d a ha; have h2 := hFS.l1; exact ⟨⟨h1.1, by omega⟩, a7 a ha⟩)
    obtain ⟨hl1, hl2⟩ := cutA_l ⟨Ad, N, cd, L⟩
    have hX' : ∀ x ∈ (cutA ⟨Ad, N, cd, L⟩).1, MsOk W x := hX
    have hm1' : MsOk W (cutA ⟨Ad, N, cd, L⟩).2 := hm1
    have hXb' : ∀ x ∈ (cutA ⟨Ad, N, cd, L⟩).1, ∀ a, x.a = some a → (w.heap.size ≤ a.block ∧ a.block < h) ∧ Byt W a.block := hXb
    clear hX hm1 hXb hmb
    obtain ⟨X, hXX⟩ : ∃ x, (cutA ⟨Ad, N, cd, L⟩).1 = x := ⟨_, rfl⟩
    obtain ⟨⟨ma, mn, mc, ml⟩, hmm⟩ : ∃ x, (cutA ⟨Ad, N, cd, L⟩).2 = x := ⟨_, rfl⟩
    rw [hXX] at a2 hX' hXb' hl1 hnum
    obtain ⟨Al, cl, rfl, _⟩ := own_rd a2
    have hlenm : (cutA ⟨Ad, N, cd, L⟩).2.l.length ≤ L.length := cutM_len L.length _
    rw [hmm] at hb1 hm1' hl2 hlenm
    have hlm : ml.length = mn := hm1'.len
    have hl2' : ml = (cut L).2 := hl2
    unfold Ms.val at hb1
    have cR := hb1.cell
    have fR := hb1.frozen
    have c0l := a1.cell
    have hcl := callsIn_wide (n := 8).2 (clone_ W ma mn mc ml hm1' (by have : ml.length ≤ L.length := hlenm; omega))
    unfold Gives at hcl
    rw [hlm] at hcl
    have HC := Lib.hid hcl
    have HL := Lib.hid (And.intro hl1 (And.intro hl2' (And.intro hlm (And.intro hLN hnum))))
    clear hcl hl1 hl2 hl2' hlm hXX hmm hLN hnum
    gi_wp2_with (gi_at_call 21; refine HC.out.mono ?_; rintro e w2 ⟨v2, rfl, ho2, hb2⟩; obtain ⟨A2, c2, rfl, hr2⟩ := own_rd ho2; have hR2 : Boxed w2 R 48 (.slice ma mn mc) := (hb2.block R hb1.lt).trans hb1; have cR2 : w2.cell? ⟨R, 0, none⟩ = _ := Boxed.cell hR2; have fR2 : w2.frozen? ⟨R, 0, none⟩ = false := Boxed.frozen hR2; have hl2 : Boxed w2 Lb 22 _ := (hb2.block Lb a1.lt).trans a1; have cl2 := hl2.cell)
    have hRw0 := hFS.r
    have hl0 := hFS.l0
    have hl1' := hFS.l1
    have hDh : h ≤ D := by omega
    have hgs := grownBy_setCell' w2 R (.slice A2 mn c2)
    have hK2 : (w2.setCell ⟨R, 0, none⟩ (.slice A2 mn c2)).heap[D]? = some (.deferred (some [])) := by
      have hDW : D < W.heap.size := (Array.getElem?_eq_some_iff.1 hK).1
      rw [hgs.block D (Nat.lt_of_lt_of_le hDW hb2.size) (by simp; omega)]
      exact (hb2.block D hDW).trans hK
    have hgp := grownBy_putObj' (w2.setCell ⟨R, 0, none⟩ (.slice A2 mn c2)) D (.deferred none)
    refine ⟨by simp, .inl ⟨_, _, rfl, run_takeDeferred hK2, ?_⟩⟩
    refine ⟨_, results_tmp2 rfl _ _ _, X, _, _, rfl, ?_, fun x hx => ⟨?_, fun a ha => ⟨(hXb' x hx a ha).1.1, (((hXb' x hx a ha).2.below hb2).kept hgs (by have := (hXb' x hx a ha).1.1; simp; omega)).kept hgp (by have := (hXb' x hx a ha).1.2; simp; omega)⟩⟩, HL.out.1, (hR2.set _).kept hgp (by simp; omega), ?_, ?_⟩
    · exact own_lower (ownsRow_putObj ((own_below a2 hb2).kept hgs (by
        cases hv : (Value.slice Al X.length cl).ownBlock with
        | none => exact .inl rfl
        | some k => right; intro e; have := own_base a2 k hv; cases e; omega)) _ hK2 rfl) (by omega)
    · exact rd_grown (rd_grown ((hX' x hx).below hb2) hgs (fun a ha => by have := (hXb' x hx a ha).1.1; simp; omega)) hgp (fun a ha => by have := (hXb' x hx a ha).1.2; simp; omega)
    · have h9 := HL.out.2.1
      have h8 := HL.out.2.2.1
      rw [← h9, h8]
      have hWz := a5.size
      exact own_lower (ownsRow_putObj (ho2.kept hgs (by
        cases hv : (Value.slice A2 mn c2).ownBlock with
        | none => exact .inl rfl
        | some k => right; intro e; have := own_base ho2 k hv; cases e; omega)) _ hK2 rfl) hWz
    · refine ⟨hgp.os.trans (hgs.os.trans (hb2.os.trans a5.os)), hgp.tape.trans (hgs.tape.trans (hb2.tape.trans a5.tape)), hgp.output.trans (hgs.output.trans (hb2.output.trans a5.output)), Nat.le_trans a5.size (Nat.le_trans hb2.size (Nat.le_trans hgs.size hgp.size)), fun k hk hne => ?_⟩
      have h1 := a5.size
      have h2 := hb2.size
      have h3 := hgs.size
      rw [hgp.block k (by omega) (by simp; omega), hgs.block k (by omega) hne, hb2.block k (by omega)]
      exact a5.block k hk hne
end Go.Proofs.Ytmifnmnpihikgaa
