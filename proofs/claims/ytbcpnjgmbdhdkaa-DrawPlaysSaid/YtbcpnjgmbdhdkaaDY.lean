/- Sources copied; the document's shuffled rows. -/
import Derived.Test.YtbcpnjgmbdhdkaaDX
import Derived.WalkSpells
namespace Go.Proofs.Ytbcpnjgmbdhdkaa
open Go.RowKit Go.HL
open Go.ChangeShapes (block_add)
set_option linter.unusedVariables false
set_option linter.unusedSimpArgs false

theorem us_len {w : World} {A : Option Addr} {n c : Nat} {l : List Int} (h : Rd w 1 A n c (us l)) : l.length = n := by have := h.len; rw [us_length] at this; omega
/-- A call's own numbers. -/
def GivesU (w : World) (l : List Int) (e : Ending) (w' : World) : Prop := ∃ v, e = .returned v ∧ w'.ownsRow w.heap.size 26 1 v l.length (us l) ∧ Below w.heap.size w w'
theorem cloneU_ (w : World) (A : Option Addr) (n c : Nat) (l : List Int) (hr : Rd w 1 A n c (us l)) (hn : n ≤ 4096) :
    Calls Try.prog 23 #[.slice A n c] w (GivesU w l) := by
  have hl := us_len hr
  cases A with
  | none =>
    obtain ⟨rfl, rfl⟩ := hr.nil_ rfl
    obtain rfl : l = [] := List.eq_nil_of_length_eq_zero hl
    have he := fun W => Lib.run_eql_slice_nil (P := Try.prog) W 25 26 none 0 0 0 0 Try.underlying25
    go_enter Try.func23, Try.ntmps23
    go_wp2
    go_ret
    exact ⟨_, rfl, World.ownsRow_nil _ _ _ _, Below.refl _ _⟩
  | some ad =>
    have he := fun W => Lib.run_eql_slice_nil (P := Try.prog) W 25 26 (some ad) n c 0 0 Try.underlying25
    have hb0 := below_new w (.cells #[] 26)
    have hr0 := hr.alloc (.cells #[] 26)
    go_enter Try.func23, Try.ntmps23
    go_wp2_with (first | (at_builtin; refine wpList_app (w0 := w) _ w.heap.size rfl (.tmp 5) (.tmp 6) 25 25 26 (.int .u32 0) 1 4 rfl Try.underlying25 info_u32 rfl (by omega) (by omega) (.slice (some ⟨w.heap.size, 0, none⟩) 0 0) 0 [] rfl (.own ⟨rfl, .inr ⟨w.heap.size, 0, #[], rfl, Nat.le_refl _, heap_alloc_new w _, Nat.le_refl _, by decide, rfl, rfl⟩⟩) _ n (us l) rfl (.slice hr0 (us_one l)) hb0 (by simp) (by omega) ?_; intro v1 w1 _ ho1 hb1 hg1; have ho := ho1 (.inr ⟨rfl, .inr ⟨w.heap.size, 0, #[], rfl, Nat.le_refl _, heap_alloc_new w _, Nat.le_refl _, by decide, rfl, rfl⟩⟩)))
    rw [Nat.zero_add, List.nil_append] at ho
    go_ret
    exact ⟨_, rfl, by rw [hl]; exact ho, hb1⟩
/-- What a copy is. -/
def Copies (w : World) (l : List Int) (last : Int) (e : Ending) (w' : World) : Prop :=
  ∃ g, e = .returned (.pointer (some ⟨g, 0, none⟩)) ∧ w.heap.size ≤ g ∧ Src (fun k => w.heap.size ≤ k ∧ k < w'.heap.size) w' g l last ∧ Below w.heap.size w w'
theorem copies_fin {w w1 : World} {v : Value} {n : Nat} {l : List Int} {last : Int} (ho : w1.ownsRow w.heap.size 26 1 v n (us l)) (hb : Below w.heap.size w w1) :
    Src (fun k => w.heap.size ≤ k ∧ k < (w1.alloc (.cells #[v, .int .u32 last] 52)).heap.size) (w1.alloc (.cells #[v, .int .u32 last] 52)) w1.heap.size l last ∧ Below w.heap.size w (w1.alloc (.cells #[v, .int .u32 last] 52)) := by
  obtain ⟨A1, c1, rfl, hr1⟩ := own_rd ho
  refine ⟨⟨A1, n, c1, heap_alloc_new w1 _, hr1.alloc _, fun a ha => ?_⟩, below_alloc hb _⟩
  have := ho.lt a.block (by rw [ha]; rfl)
  rw [World.size_alloc]
  omega
set_option maxHeartbeats 4000000 in
theorem copy_ (w : World) (g : Nat) (ok : Nat → Prop) (l : List Int) (last : Int) (hl4 : l.length ≤ 4096) (hs : Src ok w g l last) :
    Calls Try.prog 21 #[.pointer (some ⟨g, 0, none⟩)] w (Copies w l last) := by
  obtain ⟨A, n, c, hh, hr, hne⟩ := hs
  have c0 := cell_two0 hh
  have c1 := cell_two1 hh
  have hn := us_len hr
  have hcl := cloneU_ w.drew A n c l hr.drew (by omega)
  have hgl : g < w.heap.size := (Array.getElem?_eq_some_iff.1 hh).1
  have HN := Lib.hid hn
  clear hn
  go_enter Try.func21, Try.ntmps21
  go_wp2
  go_region_law (go_simp; go_at_call 23; refine hcl.mono ?_; rintro e w1 ⟨v1, rfl, ho1, hb1⟩; obtain ⟨A1, q1, rfl, hr1⟩ := own_rd ho1; have c1' := (hb1.cell (p := ⟨g, 1, none⟩) hgl).trans (show w.drew.cell? _ = _ from c1))
  all_goals
    go_wp2
    go_ret
    exact ⟨_, rfl, hb1.size, copies_fin (w := w) ho1 ((Below.refl _ _).drew.trans hb1)⟩
/-- What the document's copy is. -/
def RCopies (w : World) (l : List Int) (last : Int) (e : Ending) (w' : World) : Prop :=
  ∃ g ob, e = .returned (.pointer (some ⟨g, 0, none⟩)) ∧ w.heap.size ≤ g ∧ RSrc w' g ob l last ∧ (∀ b, ob = some b → w.heap.size ≤ b) ∧ Below w.heap.size w w'
theorem rcopies_fin {w w1 : World} {A1 : Option Addr} {n q : Nat} {l : List Int} {last : Int} (ho : w1.ownsRow w.heap.size 26 1 (.slice A1 n q) n (us l)) (hb : Below w.heap.size w w1) :
    RSrc (w1.alloc (.cells #[.slice A1 n q, .int .u32 last] 49)) w1.heap.size (A1.map (·.block)) l last ∧ (∀ b, A1.map (·.block) = some b → w.heap.size ≤ b) ∧ Below w.heap.size w (w1.alloc (.cells #[.slice A1 n q, .int .u32 last] 49)) := by
  obtain ⟨A2, c2, he, ht, hb2⟩ := own_tail ho
  cases he
  refine ⟨⟨A1, n, q, heap_alloc_new w1 _, ht.grown (row := none) (World.grownBy_alloc _ _ _) (by simp), rfl, fun e => ?_⟩, fun b hb' => ?_, below_alloc hb _⟩
  · obtain ⟨a, e1, e2⟩ := Option.map_eq_some_iff.1 e
    have := ht.lt a e1
    omega
  · obtain ⟨a, e1, rfl⟩ := Option.map_eq_some_iff.1 hb'
    exact hb2 a e1
set_option maxHeartbeats 4000000 in
theorem rcopy_ (w : World) (g : Nat) (ob : Option Nat) (l : List Int) (last : Int) (hl4 : l.length ≤ 4096) (hs : RSrc w g ob l last) :
    Calls Try.prog 22 #[.pointer (some ⟨g, 0, none⟩)] w (RCopies w l last) := by
  obtain ⟨A, n, c, hh, ht, ha, hne⟩ := hs
  have c0 := cell_two0 hh
  have c1 := cell_two1 hh
  have hr := ht.rd
  have hn := us_len hr
  have hn4 : n ≤ 4096 := by omega
  have hgl : g < w.heap.size := (Array.getElem?_eq_some_iff.1 hh).1
  have HN := Lib.hid hn
  have HA := Lib.hid ha
  clear hn ha
  go_enter Try.func22, Try.ntmps22
  go_wp2
  go_region_law (refine step_app w.drew w.drew w.heap.size rfl _ _ 25 25 26 (.int .u32 0) 1 4 rfl Try.underlying25 info_u32 rfl (by omega) (by omega) (.slice none 0 0) 0 [] rfl (.own (World.ownsRow_nil _ _ _ _)) (.slice A n c) n (us l) rfl (.slice hr.drew (us_one _)) (Below.refl _ _) (Nat.le_refl _) (by omega) ?_; intro v1 w1 _ ho0 hb1 hg2; have ho1 := ho0 (.inr (World.ownsRow_nil _ _ _ _)); rw [Nat.zero_add, List.nil_append] at ho1; clear ho0 hg2; obtain ⟨A1, q1, rfl, hr1⟩ := own_rd ho1; have c1' := (hb1.cell (p := ⟨g, 1, none⟩) hgl).trans (show w.drew.cell? _ = _ from c1))
  all_goals
    go_wp2
    go_ret
    exact ⟨_, _, rfl, hb1.size, rcopies_fin (w := w) ho1 ((Below.refl _ _).drew.trans hb1)⟩
end Go.Proofs.Ytbcpnjgmbdhdkaa
