/- Both sources side by side. -/
import Derived.Test.YtbcpnjgmbdhdkaaDZ
namespace Go.Proofs.Ytbcpnjgmbdhdkaa
open Go.RowKit Go.HL
open Go.ChangeShapes (block_add)
set_option linter.unusedVariables false
set_option linter.unusedSimpArgs false

/-- The program's source and the document's, apart in memory. -/
structure St (B : Nat) (W : World) (gs gr : Nat) (ob : Option Nat) (ls : List Int) (xs : Int) (lr : List Int) (ar : Int) : Prop where
  s : Src (fun q => q < W.heap.size ∧ q ≠ gr ∧ ob ≠ some q) W gs ls xs
  r : RSrc W gr ob lr ar
  ne : gs ≠ gr
  nob : ob ≠ some gs
  bs : B ≤ gs
  br : B ≤ gr
  bo : ∀ b, ob = some b → B ≤ b
section
variable {B : Nat} {W W1 : World} {gs gr : Nat} {ob : Option Nat} {ls lr : List Int} {xs ar : Int}
theorem St.stepS (h : St B W gs gr ob ls xs lr ar) {ls' : List Int} {xs' : Int} (h1 : Src (fun q => q < W.heap.size ∧ q ≠ gr ∧ ob ≠ some q) W1 gs ls' xs') (hg : W.grownBy W1 (some gs)) : St B W1 gs gr ob ls' xs' lr ar :=
  ⟨h1.mono fun k hk => ⟨Nat.lt_of_lt_of_le hk.1 hg.size, hk.2⟩, h.r.grown hg (by have := h.ne; simp; omega) (fun b hb e => h.nob (by rw [hb, e])), h.ne, h.nob, h.bs, h.br, h.bo⟩
theorem St.stepR (h : St B W gs gr ob ls xs lr ar) {lr' : List Int} {ar' : Int} (h1 : RSrc W1 gr ob lr' ar') (hg : W.grownBy W1 (some gr)) : St B W1 gs gr ob ls xs lr' ar' :=
  ⟨(h.s.grown hg (by have := h.ne; simp; omega) (fun k hk e => hk.2.1 (by simpa using e))).mono fun k hk => ⟨Nat.lt_of_lt_of_le hk.1 hg.size, hk.2⟩, h1, h.ne, h.nob, h.bs, h.br, h.bo⟩
theorem St.grown (h : St B W gs gr ob ls xs lr ar) (hg : W.grownBy W1 none) : St B W1 gs gr ob ls xs lr ar :=
  ⟨(h.s.grown hg (by simp) (by simp)).mono fun k hk => ⟨Nat.lt_of_lt_of_le hk.1 hg.size, hk.2⟩, h.r.grown hg (by simp) (by simp), h.ne, h.nob, h.bs, h.br, h.bo⟩
theorem St.below (h : St B W gs gr ob ls xs lr ar) (hb : Below W.heap.size W W1) : St B W1 gs gr ob ls xs lr ar :=
  h.grown ⟨hb.os, hb.tape, hb.output, hb.size, fun i hi _ => hb.block i hi⟩
theorem St.addS (h : St B W gs gr ob ls xs lr ar) {ls' : List Int} {xs' : Int} (h1 : Src (fun k => ((k < W.heap.size ∧ k ≠ gr ∧ ob ≠ some k) ∨ W.heap.size ≤ k) ∧ k < W1.heap.size) W1 gs ls' xs') (hg : W.grownBy W1 (some gs)) : St B W1 gs gr ob ls' xs' lr ar :=
  ⟨h1.mono fun k hk => ⟨hk.2, by
      rcases hk.1 with h2 | h2
      · exact h2.2
      · exact ⟨by have := h.r.lt; omega, fun e => by have := h.r.blt k e; omega⟩⟩,
    h.r.grown hg (by have := h.ne; simp; omega) (fun b hb e => h.nob (by rw [hb, e])), h.ne, h.nob, h.bs, h.br, h.bo⟩
theorem St.addR (h : St B W gs gr ob ls xs lr ar) (hB : B ≤ W.heap.size) {lr' : List Int} {ar' : Int} {ob' : Option Nat} (h1 : RSrc W1 gr ob' lr' ar') (hm : Mod (fun k => k = gr ∨ ob = some k) W W1) (ho : ob' = ob ∨ ∃ k, ob' = some k ∧ W.heap.size ≤ k) : St B W1 gs gr ob' ls xs lr' ar' := by
  refine ⟨(h.s.mod hm (fun e => ?_) (fun k hk e => ?_)).mono (fun k hk => ⟨Nat.lt_of_lt_of_le hk.1 hm.size, hk.2.1, fun e => ?_⟩), h1, h.ne, fun e => ?_, h.bs, h.br, fun b e => ?_⟩
  · rcases e with e | e
    · exact h.ne e
    · exact h.nob e
  · rcases e with e | e
    · exact hk.2.1 e
    · exact hk.2.2 e
  · rcases ho with h2 | ⟨q, h2, h3⟩
    · exact hk.2.2 (by rw [← h2]; exact e)
    · rw [h2] at e; cases e; have := hk.1; omega
  · rcases ho with h2 | ⟨q, h2, h3⟩
    · exact h.nob (by rw [← h2]; exact e)
    · rw [h2] at e; cases e; have := h.s.lt; omega
  · rcases ho with h2 | ⟨q, h2, h3⟩
    · exact h.bo b (by rw [← h2]; exact e)
    · rw [h2] at e; cases e; omega
theorem St.copyS (h : St B W gs gr ob ls xs lr ar) (hB : B ≤ W.heap.size) {g : Nat} {l' : List Int} {a' : Int} (hg : W.heap.size ≤ g) (h1 : Src (fun k => W.heap.size ≤ k ∧ k < W1.heap.size) W1 g l' a') (hb : Below W.heap.size W W1) : St B W1 g gr ob l' a' lr ar :=
  have hr := h.r.lt
  have hq := h.r.blt
  ⟨h1.mono fun k hk => ⟨hk.2, by omega, fun e => by have := hq k e; omega⟩, (h.below hb).r, by omega, fun e => by have := hq g e; omega, by omega, h.br, h.bo⟩
theorem St.copyR (h : St B W gs gr ob ls xs lr ar) (hB : B ≤ W.heap.size) {g : Nat} {ob' : Option Nat} {l' : List Int} {a' : Int} (hg : W.heap.size ≤ g) (h1 : RSrc W1 g ob' l' a') (ho : ∀ b, ob' = some b → W.heap.size ≤ b) (hb : Below W.heap.size W W1) : St B W1 gs g ob' ls xs l' a' :=
  have hs := h.s.lt
  ⟨((h.below hb).s.mono fun k hk => hk) |> fun _ => (h.s.grown (row := none) ⟨hb.os, hb.tape, hb.output, hb.size, fun i hi _ => hb.block i hi⟩ (by simp) (by simp)).mono fun k hk => ⟨Nat.lt_of_lt_of_le hk.1 hb.size, by have := hk.1; omega, fun e => by have := ho k e; have := hk.1; omega⟩,
    h1, by omega, fun e => by have := ho gs e; omega, h.bs, by omega, fun b e => by have := ho b e; omega⟩
end
/-- What New leaves. -/
def News2 (w : World) (l : List Int) (e : Ending) (w' : World) : Prop :=
  ∃ g, e = .returned (.pointer (some ⟨g, 0, none⟩)) ∧ w.heap.size ≤ g ∧ Src (fun k => w.heap.size ≤ k ∧ k < w'.heap.size) w' g (l.take 4096) 0 ∧ Below w.heap.size w w'
theorem new2_ (w : World) (A' : Option Addr) (m c' : Nat) (l' : List Int) (hr' : Rd w 1 A' m c' (us l')) (hm : m ≤ 140737488355328) :
    Calls Try.prog 10 #[.slice A' m c'] w (News2 w l') := by
  have hs : Src (fun k => False) (w.alloc (.cells #[.slice none 0 0, .int .u32 0] 52)) w.heap.size [] 0 := ⟨none, 0, 0, heap_alloc_new w _, Rd.nil _ _, fun a ha => by cases ha⟩
  have ha := add2_ (fun k => False) _ (fun k hk => hk.elim) _ [] 0 (by simp) hs A' m c' l' (hr'.alloc _) hm
  go_enter Try.func10, Try.ntmps10
  go_wp2_with (go_at_call 19; refine ha.mono ?_; rintro e w1 ⟨rfl, hs1, hg1⟩)
  go_ret
  rw [List.nil_append] at hs1
  exact ⟨_, rfl, Nat.le_refl _, hs1.mono (fun k hk => ⟨by rcases hk.1 with h | h; exact h.elim; simp at h; omega, hk.2⟩), (below_new w _).grown hg1 (by simp) (fun k hk => by cases hk; exact Nat.le_refl _)⟩
end Go.Proofs.Ytbcpnjgmbdhdkaa
