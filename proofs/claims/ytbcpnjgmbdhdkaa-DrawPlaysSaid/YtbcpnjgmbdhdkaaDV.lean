/- The document's source of draws: contracts, by walks. -/
import Derived.Test.YtbcpnjgmbdhdkaaDT
import Derived.Test.YtbcpnjgmbdhdkaaDU
import Derived.Test.YtbcpnjgmbdhdkaaRS
namespace Go.Proofs.Ytbcpnjgmbdhdkaa
open Go.RowKit Go.HL
open Go.ChangeShapes (block_add)
set_option linter.unusedVariables false
set_option linter.unusedSimpArgs false

/-- The document's source at block g, the block of its numbers told (none: there is none yet). -/
def RSrc (w : World) (g : Nat) (ob : Option Nat) (l : List Int) (last : Int) : Prop :=
  ∃ A n c, w.heap[g]? = some (.cells #[.slice A n c, .int .u32 last] 49 (0, 0)) ∧ Tail w 26 A n c (us l) ∧ A.map (·.block) = ob ∧ ob ≠ some g
theorem RSrc.grown {w w1 : World} {g : Nat} {ob : Option Nat} {l : List Int} {last : Int} {row : Option Nat} (h : RSrc w g ob l last) (hg : w.grownBy w1 row) (h1 : some g ≠ row) (h2 : ∀ b, ob = some b → some b ≠ row) : RSrc w1 g ob l last := by
  obtain ⟨A, n, c, hh, ht, ha, hne⟩ := h
  exact ⟨A, n, c, by rw [hg.block g (Array.getElem?_eq_some_iff.1 hh).1 h1]; exact hh, ht.grown hg (fun a e => h2 a.block (by rw [← ha, e]; rfl)), ha, hne⟩
theorem RSrc.lt {w : World} {g : Nat} {ob : Option Nat} {l : List Int} {last : Int} (h : RSrc w g ob l last) : g < w.heap.size := by
  obtain ⟨A, n, c, hh, _⟩ := h
  exact (Array.getElem?_eq_some_iff.1 hh).1
theorem RSrc.blt {w : World} {g : Nat} {ob : Option Nat} {l : List Int} {last : Int} (h : RSrc w g ob l last) (b : Nat) (hb : ob = some b) : b < w.heap.size := by
  obtain ⟨A, n, c, hh, ht, ha, _⟩ := h
  rw [hb] at ha
  obtain ⟨a, e, rfl⟩ := Option.map_eq_some_iff.1 ha
  exact ht.lt a e
theorem RSrc.len {w : World} {g : Nat} {ob : Option Nat} {l : List Int} {last : Int} (h : RSrc w g ob l last) : ∃ A c, w.cell? ⟨g, 0, none⟩ = some (.slice A l.length c) := by
  obtain ⟨A, n, c, hh, ht, ha, _⟩ := h
  have := ht.rd.len
  rw [us_length, Nat.mul_one] at this
  rw [this]
  exact ⟨A, c, cell_two0 hh⟩

/-- What Next leaves. -/
def RNexts (w : World) (g : Nat) (ob : Option Nat) (l : List Int) (last : Int) (e : Ending) (w' : World) : Prop :=
  e = .returned (.int .u32 (nextV l last)) ∧ RSrc w' g ob l.tail (nextV l last) ∧ w.grownBy w' (some g)
theorem rnext_empty (w : World) (g : Nat) (ob : Option Nat) (last : Int) (h0 : 0 ≤ last) (h1 : last < 4294967296) (hs : RSrc w g ob [] last) :
    Calls Try.prog 15 #[.pointer (some ⟨g, 0, none⟩)] w (RNexts w g ob [] last) := by
  obtain ⟨A, n, c, hh, ht, ha, hne⟩ := hs
  have c0 := cell_two0 hh
  have c1 := cell_two1 hh
  have f1 := free_row hh 1
  have hn : n = 0 := by have := ht.rd.len; simp [us] at this; omega
  subst hn
  have HA := Lib.hid ha
  clear ha
  go_enter Try.func15, Try.ntmps15
  go_wp2
  go_ret
  have hv : nextV [] last = (1664525 * last + 1013904223) % 4294967296 := by unfold nextV; rw [Int.mul_comm]
  refine ⟨?_, ⟨A, 0, c, ?_, ht.grown (grownBy_set w g 1 _) (fun a e h => hne (by rw [← HA.out, e]; exact h)), HA.out, hne⟩, grownBy_set w g 1 _⟩
  · rw [hv]; rfl
  · rw [hv]; exact heap_set1 hh
theorem rnext_more (w : World) (g : Nat) (ob : Option Nat) (x : Int) (l : List Int) (last : Int) (hs : RSrc w g ob (x :: l) last) :
    Calls Try.prog 15 #[.pointer (some ⟨g, 0, none⟩)] w (RNexts w g ob (x :: l) last) := by
  obtain ⟨A, n, c, hh, ht, ha, hne⟩ := hs
  have c0 := cell_two0 hh
  have c1 := cell_two1 hh
  have f0 := free_row hh 0
  have f1 := free_row hh 1
  have hl : l.length + 1 = n := by have := ht.rd.len; rw [us_length, List.length_cons] at this; omega
  have hle := ht.rd.le
  cases A with
  | none => have := (ht.rd.nil_ rfl).1; omega
  | some ad =>
  have hcx : w.cell? ad = some (.int .u32 x) := by have := ht.rd.cells ad rfl 0 (.int .u32 x) rfl; rwa [Addr.add_zero'] at this
  have hne' : some ad.block ≠ some g := by intro e; exact hne (by rw [← ha]; exact e)
  have hh1 : (w.setCell ⟨g, 1, none⟩ (.int .u32 x)).heap[g]? = some (.cells #[.slice (some ad) n c, .int .u32 x] 49 (0, 0)) := heap_set1 hh
  have hg01 : ∀ u, w.grownBy ((w.setCell ⟨g, 1, none⟩ (.int .u32 x)).setCell ⟨g, 0, none⟩ u) (some g) := fun u => (grownBy_set w g 1 (.int .u32 x)).trans (grownBy_set _ g 0 u)
  have hus : us (x :: l) = .int .u32 x :: us l := rfl
  rw [hus] at ht
  have HL' := Lib.hid hl
  have HA := Lib.hid ha
  clear ha
  by_cases hc1 : c = 1
  · subst hc1
    obtain ⟨hn1, hl0, ht0⟩ := ht.rest0
    obtain rfl : l = [] := by cases l with | nil => rfl | cons => simp [us] at hl0
    subst hn1
    clear hl hus hl0
    go_enter Try.func15, Try.ntmps15
    go_wp2
    go_ret
    exact ⟨rfl, ⟨some ad, 0, 0, heap_set0 hh1, ht0.grown (hg01 _) (fun a e => by cases e; exact hne'), HA.out, hne⟩, hg01 _⟩
  · have hr := ht.rest hc1
    have hn1 : 1 ≤ n := by omega
    clear hl hus
    go_enter Try.func15, Try.ntmps15
    go_wp2
    go_ret
    exact ⟨rfl, ⟨_, _, _, heap_set0 hh1, hr.grown (hg01 _) (fun a e => by cases e; rw [block_add]; exact hne'), by rw [← HA.out]; simp [block_add], hne⟩, hg01 _⟩
theorem rnext_ (w : World) (g : Nat) (ob : Option Nat) (l : List Int) (last : Int) (h0 : 0 ≤ last) (h1 : last < 4294967296) (hs : RSrc w g ob l last) :
    Calls Try.prog 15 #[.pointer (some ⟨g, 0, none⟩)] w (RNexts w g ob l last) := by
  cases l with
  | nil => exact rnext_empty w g ob last h0 h1 hs
  | cons x l => exact rnext_more w g ob x l last hs
theorem rbelow_none (w : World) (g : Nat) (k : Int) (hk : k < 1) :
    Calls Try.prog 17 #[.pointer (some ⟨g, 0, none⟩), .int .i64 k] w fun e w' => e = .returned (.int .i64 0) ∧ w = w' := by
  go_enter Try.func17, Try.ntmps17
  go_wp2
  go_ret
  exact ⟨rfl, rfl⟩
/-- What Below leaves. -/
def RBelows (w : World) (g : Nat) (ob : Option Nat) (l : List Int) (last k : Int) (e : Ending) (w' : World) : Prop :=
  e = .returned (.int .i64 (nextV l last % k)) ∧ RSrc w' g ob l.tail (nextV l last) ∧ w.grownBy w' (some g)
theorem rbelow_ (w : World) (g : Nat) (ob : Option Nat) (l : List Int) (last k : Int) (hk : 1 ≤ k) (hk2 : k ≤ 9223372036854775807) (h0 : 0 ≤ last) (h1 : last < 4294967296) (hv0 : 0 ≤ nextV l last) (hv1 : nextV l last < 4294967296) (hs : RSrc w g ob l last) :
    Calls Try.prog 17 #[.pointer (some ⟨g, 0, none⟩), .int .i64 k] w (RBelows w g ob l last k) := by
  generalize hv : nextV l last = v at *
  have hb0 : 0 ≤ v % k := Int.emod_nonneg _ (by omega)
  have hb1 : v % k < k := Int.emod_lt_of_pos _ (by omega)
  have HV := Lib.hid hv
  have hn := rnext_ w g ob l last h0 h1 hs
  clear hv
  go_enter Try.func17, Try.ntmps17
  go_wp2_with (go_at_call 15; refine hn.mono ?_; rintro e w1 ⟨rfl, hs1, hg1⟩; rw [HV.out] at hs1 ⊢)
  go_ret
  rw [← HV.out]
  rw [← HV.out] at hs1
  exact ⟨rfl, hs1, hg1⟩
end Go.Proofs.Ytbcpnjgmbdhdkaa
