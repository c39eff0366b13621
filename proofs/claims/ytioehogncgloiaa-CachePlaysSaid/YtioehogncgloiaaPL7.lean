/- The two caches side by side. -/
import Derived.Test.YtioehogncgloiaaPL6
namespace Go.Proofs.Ytioehogncgloiaa
open Go.RowKit Go.HL Go.Maps
set_option linter.unusedVariables false
set_option linter.unusedSimpArgs false
/-- The cache and the document's, side by side. -/
structure PI (w : World) (lo C M : Nat) (room : Int) (k : Nat) (row : List Ce) (v : Value) (rrow : List Re) (W : World) : Prop where
  c : CacheW W C lo room row
  r : RefW W M v room rrow
  eq : rrow.map Re.e = row.map Ce.e
  len : (row.length : Int) ≤ room
  lk : row.length ≤ k
  ap : ∀ x, CH C lo row x → lo ≤ x ∧ x ≠ M ∧ ¬ RB v x
  lm : lo ≤ M
  lr : ∀ x, RB v x → lo ≤ x
  ok : ∀ e ∈ rrow, ReOk w e
  b : Below w.heap.size w W
  z : w.heap.size ≤ lo
  zz : lo ≤ W.heap.size
section
variable {w : World} {lo C M : Nat} {room : Int} {k : Nat} {row : List Ce} {v : Value} {rrow : List Re} {W W' : World}
theorem PI.fr {S : Nat → Prop} (h : PI w lo C M room k row v rrow W) (f : Fr S W W') (hs : ∀ x, S x → lo ≤ x ∧ ¬ CH C lo row x ∧ x ≠ M ∧ ¬ RB v x) : PI w lo C M room k row v rrow W' :=
  ⟨h.c.fr f (fun i hi hx => (hs i hx).2.1 hi), h.r.fr f (fun hx => (hs _ hx).2.2.1 rfl) (fun i hi hx => (hs i hx).2.2.2 hi), h.eq, h.len, h.lk, h.ap, h.lm, h.lr, h.ok, Fr.toBelow h.b f (fun i _ hi => Nat.le_trans h.z (hs i hi).1) (Nat.le_trans h.z h.zz), h.z, Nat.le_trans h.zz f.size⟩
theorem PI.below (h : PI w lo C M room k row v rrow W) (f : Below W.heap.size W W') : PI w lo C M room k row v rrow W' := h.fr (Fr.of_below (S := fun _ => False) f) (fun _ hx => hx.elim)
theorem PI.held (h : PI w lo C M room k row v rrow W) (x : Nat) (hx : W.heap.size ≤ x) : lo ≤ x ∧ ¬ CH C lo row x ∧ x ≠ M ∧ ¬ RB v x :=
  ⟨Nat.le_trans h.zz hx, fun hc => by have := CH.lt h.c x hc; omega, fun e => by have := h.r.hd.lt; omega, fun hr => by have := h.r.rb_lt x hr; omega⟩
/-- What the first call leaves of the second one's. -/
theorem PI.refW {W1 : World} {row' : List Ce} (h : PI w lo C M room k row v rrow W) (l : Left W C lo room row row' W1) : RefW W1 M v room rrow :=
  h.r.fr l.f (fun hx => (h.ap M (.inl hx)).2.1 rfl) (fun i hi hx => (h.ap i (.inl hx)).2.2 hi)
theorem PI.belowW {W1 : World} {row' : List Ce} (h : PI w lo C M room k row v rrow W) (l : Left W C lo room row row' W1) : Below w.heap.size w W1 :=
  Fr.toBelow h.b l.f (fun i _ hi => Nat.le_trans h.z (h.ap i (.inl hi)).1) (Nat.le_trans h.z h.zz)
theorem PI.step {W1 W2 W3 : World} {row' : List Ce} {v' : Value} {rrow' : List Re} {k' : Nat} (h : PI w lo C M room k row v rrow W) (l : Left W C lo room row row' W1) (hb : Below W1.heap.size W1 W2) (hr : RefW W3 M v' room rrow') (f : Fr (fun k => k = M) W2 W3)
    (hrb : ∀ i, RB v' i → W2.heap.size ≤ i) (heq : rrow'.map Re.e = row'.map Ce.e) (hlen : (row'.length : Int) ≤ room) (hlk : row'.length ≤ k') (hok : ∀ e ∈ rrow', ReOk w e) : PI w lo C M room k' row' v' rrow' W3 := by
  have hMW := h.r.hd.lt
  have hCH : ∀ x, CH C lo row' x → lo ≤ x ∧ x ≠ M := fun x hx => by
    rcases l.h x hx with hx | hx
    · exact ⟨(h.ap x hx).1, (h.ap x hx).2.1⟩
    · exact ⟨Nat.le_trans h.zz hx, fun e => by omega⟩
  have hz1 := l.f.size
  have hz2 := hb.size
  have hz3 := f.size
  have hz := h.zz
  refine ⟨(l.c.below hb).fr f (fun i hi e => (hCH i hi).2 e), hr, heq, hlen, hlk, fun x hx => ⟨(hCH x hx).1, (hCH x hx).2, fun e => ?_⟩, h.lm, fun x hx => ?_, hok, ?_, h.z, by omega⟩
  · have := CH.lt l.c x hx
    have := hrb x e
    omega
  · have := hrb x hx
    omega
  · exact Fr.toBelow ((h.belowW l).trans (hb.mono (by have := h.z; omega))) f (fun i _ e => by have e' : i = M := e; have := h.lm; have := h.z; omega) (by have := h.z; omega)
theorem below_of_K {g : Nat} (h : PI w lo C M room k row v rrow W) (f : Fr (fun i => i = g) W W') (hg : lo ≤ g ∧ ¬ CH C lo row g ∧ g ≠ M ∧ ¬ RB v g) : Below w.heap.size w W' :=
  Fr.toBelow h.b f (fun i _ e => by have e' : i = g := e; have := h.z; omega) (Nat.le_trans h.z h.zz)
end
/-- What an answer of one's own is like. -/
structure InA (W : World) (B : Nat) (a i : Am) (b1 b2 b3 : Nat) : Prop where
  rc : i.rc = a.rc
  an : Owned W B i.an.val a.an.l b1
  au : Owned W B i.au.val a.au.l b2
  ex : Owned W B i.ex.val a.ex.l b3
  l1 : i.an.l = a.an.l
  l2 : i.au.l = a.au.l
  l3 : i.ex.l = a.ex.l
theorem Owned.sl {W : World} {B : Nat} {s : Sl} {l : List Rc} {b : Nat} (h : Owned W B s.val l b) (hl : s.l = l) (hok : ∀ r ∈ l, r.ok) : s.ok W ∧ s.n = l.length ∧ ∀ ad, s.a = some ad → ad.block = b := by
  obtain ⟨c, h1, ho, hc⟩ := h.ex
  unfold Sl.val at h1
  simp only [Value.slice.injEq] at h1
  obtain ⟨ha, hn, hcc⟩ := h1
  obtain ⟨A, c', e1, hr⟩ := own_rd ho
  cases e1
  have := hr.pre l.length (by omega)
  rw [rcs_append, List.take_left' (by rw [rcs_len])] at this
  refine ⟨⟨by rw [ha, hn, hcc, hl]; exact this, by rw [hl]; exact hok⟩, hn, fun ad h => ?_⟩
  rw [ha] at h
  cases h
  rfl
theorem InA.ok {W W0 : World} {B : Nat} {a i : Am} {b1 b2 b3 : Nat} (h : InA W B a i b1 b2 b3) (ha : a.ok W0) : i.ok W := ⟨by rw [h.rc]; exact ha.rc, (h.an.sl h.l1 ha.an.ok).1, (h.au.sl h.l2 ha.au.ok).1, (h.ex.sl h.l3 ha.ex.ok).1⟩
theorem InA.small {W W0 : World} {B : Nat} {a i : Am} {b1 b2 b3 : Nat} (h : InA W B a i b1 b2 b3) (ha : a.ok W0) (hs : a.small) : i.small :=
  ⟨by rw [(h.an.sl h.l1 ha.an.ok).2.1, ha.an.len]; exact hs.an, by rw [(h.au.sl h.l2 ha.au.ok).2.1, ha.au.len]; exact hs.au, by rw [(h.ex.sl h.l3 ha.ex.ok).2.1, ha.ex.len]; exact hs.ex, by rw [h.l1]; exact hs.na, by rw [h.l2]; exact hs.nu, by rw [h.l3]; exact hs.nx⟩
theorem InA.ap {W W0 : World} {B : Nat} {a i : Am} {b1 b2 b3 : Nat} (h : InA W B a i b1 b2 b3) (ha : a.ok W0) {S : Nat → Prop} (hs : ∀ x, S x → x < B) : i.apart S :=
  ⟨fun ad e _ hx => by have := (h.an.sl h.l1 ha.an.ok).2.2 ad e; have := h.an.blk.1; have := hs _ hx; omega,
   fun ad e _ hx => by have := (h.au.sl h.l2 ha.au.ok).2.2 ad e; have := h.au.blk.1; have := hs _ hx; omega,
   fun ad e _ hx => by have := (h.ex.sl h.l3 ha.ex.ok).2.2 ad e; have := h.ex.blk.1; have := hs _ hx; omega⟩
theorem Owned.low {W : World} {B B' : Nat} {u : Value} {l : List Rc} {b : Nat} (h : Owned W B u l b) (hb : B' ≤ B) : Owned W B' u l b := by
  obtain ⟨c, h1, ho, hc⟩ := h.ex
  exact ⟨c, h1, own_lower ho hb, hc⟩
theorem InA.fr {S : Nat → Prop} {W W' : World} {B : Nat} {a i : Am} {b1 b2 b3 : Nat} (h : InA W B a i b1 b2 b3) (f : Fr S W W') (hs : ∀ x, S x → x < B) : InA W' B a i b1 b2 b3 :=
  ⟨h.rc, h.an.fr f (fun x => by have := hs _ x; have := h.an.blk.1; omega), h.au.fr f (fun x => by have := hs _ x; have := h.au.blk.1; omega), h.ex.fr f (fun x => by have := hs _ x; have := h.ex.blk.1; omega), h.l1, h.l2, h.l3⟩
end Go.Proofs.Ytioehogncgloiaa
