/- Frames: what a call leaves of what was there, told by the blocks that it may write. No program in sight. -/
import Derived.Test.YtioehogncgloiaaRG
set_option linter.unusedVariables false
set_option linter.unusedSimpArgs false
namespace Go.HL
open Go.RowKit
/-- Of what was there just blocks of S are written. -/
structure Fr (S : Nat → Prop) (w w' : World) : Prop where
  os : w'.os = w.os
  tape : w'.tape = w.tape
  output : w'.output = w.output
  size : w.heap.size ≤ w'.heap.size
  block : ∀ k, k < w.heap.size → ¬ S k → w'.heap[k]? = w.heap[k]?
theorem Fr.refl (S : Nat → Prop) (w : World) : Fr S w w := ⟨rfl, rfl, rfl, Nat.le_refl _, fun _ _ _ => rfl⟩
theorem Fr.mono {S T : Nat → Prop} {w w' : World} (h : Fr S w w') (hs : ∀ k, k < w.heap.size → S k → T k) : Fr T w w' := ⟨h.os, h.tape, h.output, h.size, fun k hk hn => h.block k hk (fun hs' => hn (hs k hk hs'))⟩
theorem Fr.trans {S : Nat → Prop} {a b c : World} (h : Fr S a b) (k : Fr (fun i => S i ∨ a.heap.size ≤ i) b c) : Fr S a c :=
  ⟨k.os.trans h.os, k.tape.trans h.tape, k.output.trans h.output, Nat.le_trans h.size k.size, fun i hi hn => (k.block i (Nat.lt_of_lt_of_le hi h.size) (fun e => e.elim hn (fun e => by omega))).trans (h.block i hi hn)⟩
theorem Fr.trans' {S : Nat → Prop} {a b c : World} (h : Fr S a b) (k : Fr S b c) : Fr S a c := h.trans (k.mono fun _ _ h => .inl h)
theorem Fr.of_below {S : Nat → Prop} {w w' : World} (h : Below w.heap.size w w') : Fr S w w' := ⟨h.os, h.tape, h.output, h.size, fun k hk _ => h.block k hk⟩
theorem Fr.toBelow {S : Nat → Prop} {n : Nat} {w a b : World} (h : Below n w a) (k : Fr S a b) (hs : ∀ i, i < a.heap.size → S i → n ≤ i) (hn : n ≤ a.heap.size) : Below n w b :=
  ⟨k.os.trans h.os, k.tape.trans h.tape, k.output.trans h.output, Nat.le_trans h.size k.size, fun i hi => (k.block i (Nat.lt_of_lt_of_le hi hn) (fun e => by have := hs i (Nat.lt_of_lt_of_le hi hn) e; omega)).trans (h.block i hi)⟩
theorem Fr.alloc {S : Nat → Prop} {w w' : World} (h : Fr S w w') (o : Obj) : Fr S w (w'.alloc o) := h.trans (Fr.of_below (below_new _ _))
theorem Fr.drew {S : Nat → Prop} {w w' : World} (h : Fr S w w') : Fr S w w'.drew := ⟨h.os, h.tape, h.output, h.size, h.block⟩
theorem Fr.drewN {S : Nat → Prop} {w w' : World} (h : Fr S w w') : ∀ n, Fr S w (w'.drewN n)
  | 0 => h
  | n + 1 => (h.drewN n).drew
theorem Fr.grown {S : Nat → Prop} {a b c : World} {row : Option Nat} (h : Fr S a b) (k : b.grownBy c row) (hr : ∀ i, row = some i → S i ∨ a.heap.size ≤ i) : Fr S a c :=
  h.trans ⟨k.os, k.tape, k.output, k.size, fun i hi hn => k.block i hi (fun e => hn (hr i e.symm))⟩
theorem Fr.setCell {S : Nat → Prop} {a b : World} (h : Fr S a b) (g j : Nat) (v : Value) (hg : S g ∨ a.heap.size ≤ g) : Fr S a (b.setCell ⟨g, j, none⟩ v) :=
  h.trans ⟨rfl, rfl, rfl, by simp [World.setCell], fun i hi hn => by
    simp only [World.setCell]
    rw [Array.getElem?_modify, if_neg (fun e => hn (by rw [← e]; exact hg))]⟩
theorem Fr.setRow {S : Nat → Prop} {a b : World} (h : Fr S a b) (g : Nat) (cs : Array Value) (hg : S g ∨ a.heap.size ≤ g) : Fr S a (b.setRow g cs) :=
  h.grown (grown_row b g cs) (fun i e => by cases e; exact hg)
theorem Blk.fr {S : Nat → Prop} {w w' : World} {g : Nat} {t : TypeId} {cs : List Value} (h : Blk w g t cs) (k : Fr S w w') (hn : ¬ S g) : Blk w' g t cs := (k.block g h.lt hn).trans h
theorem Blk.set {w : World} {g : Nat} {t : TypeId} {cs : List Value} (h : Blk w g t cs) (j : Nat) (v : Value) : Blk (w.setCell ⟨g, j, none⟩ v) g t (cs.set j v) := by
  have h' : w.heap[g]? = some (.cells cs.toArray t (0, 0)) := h
  unfold Blk
  simp only [World.setCell]
  rw [Array.getElem?_modify, if_pos rfl, h']
  simp
theorem Blk.set_other {w : World} {g g' : Nat} {t : TypeId} {cs : List Value} (h : Blk w g t cs) (j : Nat) (v : Value) (hne : g ≠ g') : Blk (w.setCell ⟨g', j, none⟩ v) g t cs := by
  have h' : w.heap[g]? = some (.cells cs.toArray t (0, 0)) := h
  unfold Blk
  simp only [World.setCell]
  rw [Array.getElem?_modify, if_neg (fun e => hne e.symm)]
  exact h'
theorem cell_fr {S : Nat → Prop} {w w' : World} (k : Fr S w w') {a : Addr} {v : Value} (h : w.cell? a = some v) (hn : ¬ S a.block) : w'.cell? a = some v := by
  have hb := World.block_lt_of_cell? w _ h
  unfold World.cell? at *
  rw [k.block _ hb hn]
  exact h
theorem Rd.fr {S : Nat → Prop} {w w' : World} {size : Nat} {A : Option Addr} {n c : Nat} {cs : List Value} (h : Rd w size A n c cs) (k : Fr S w w') (hn : ∀ a, A = some a → ¬ S a.block) : Rd w' size A n c cs :=
  ⟨h.len, h.nil_, h.le, fun a ha j u hu => cell_fr k (h.cells a ha j u hu) (by
    have := hn a ha
    have e : (a.add j).block = a.block := by unfold Addr.add; split <;> rfl
    rw [e]
    exact this)⟩
theorem own_fr {S : Nat → Prop} {w w' : World} {base n size : Nat} {e : TypeId} {v : Value} {cs : List Value} (h : w.ownsRow base e size v n cs) (k : Fr S w w') (hn : ∀ i, v.ownBlock = some i → ¬ S i) : w'.ownsRow base e size v n cs := by
  obtain ⟨h1, h2⟩ := h
  refine ⟨h1, ?_⟩
  rcases h2 with h2 | ⟨g, cap, cur, hv, hg, hb, r⟩
  · exact .inl h2
  · exact .inr ⟨g, cap, cur, hv, hg, (k.block g (Array.getElem?_eq_some_iff.1 hb).1 (hn g (by rw [hv]; rfl))).trans hb, r⟩
/-- The block of a row of one's own, and what it is of. -/
theorem own_blk {w : World} {base n size : Nat} {e : TypeId} {v : Value} {cs : List Value} (h : w.ownsRow base e size v n cs) {i : Nat} (hi : v.ownBlock = some i) : ∃ cur fr, w.heap[i]? = some (.cells cur e fr) := by
  rcases h.2 with ⟨hv, _⟩ | ⟨g, cap, cur, hv, hg, hb, r⟩
  · rw [hv] at hi; cases hi
  · rw [hv] at hi
    cases hi
    exact ⟨_, _, hb⟩
theorem own_ne_blk {w : World} {base n size : Nat} {e t : TypeId} {v : Value} {cs ds : List Value} {g : Nat} (h : w.ownsRow base e size v n cs) (hb : Blk w g t ds) (hne : e ≠ t) : v.ownBlock ≠ some g := fun hi => by
  obtain ⟨cur, fr, h2⟩ := own_blk h hi
  have h' : w.heap[g]? = some (.cells ds.toArray t (0, 0)) := hb
  rw [h'] at h2
  cases h2
  exact hne rfl
end Go.HL
