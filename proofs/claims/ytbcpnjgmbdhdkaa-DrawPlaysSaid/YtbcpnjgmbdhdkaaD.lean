/- What draw's functions do, said of a source in memory. Contracts, by walks. -/
import Derived.Test.YtbcpnjgmbdhdkaaRows
import Derived.Test.YtbcpnjgmbdhdkaaDW
namespace Go.Proofs.Ytbcpnjgmbdhdkaa
open Go.RowKit Go.HL
open Go.ChangeShapes (block_add)
set_option linter.unusedVariables false
set_option linter.unusedSimpArgs false

theorem info_u32 : (Try.prog.info? 26).map (fun i => (i.zero, i.size, i.bytes)) = some (some (.int .u32 0), 1, 4) := by kernel_rfl
theorem info_int : (Try.prog.info? 3).map (fun i => (i.zero, i.size, i.bytes)) = some (some (.int .i64 0), 1, 8) := by kernel_rfl

abbrev Src (ok : Nat → Prop) := SrcAt 52 ok
variable {ok : Nat → Prop}

theorem left_ (w : World) (g : Nat) (l : List Int) (last : Int) (hs : Src ok w g l last) :
    Calls Try.prog 12 #[.pointer (some ⟨g, 0, none⟩)] w fun e w' => e = .returned (.int .i64 (l.length : Int)) ∧ w = w' := by
  obtain ⟨A, n, c, hh, hr, hne⟩ := hs
  have c0 := cell_two0 hh
  have hl : l.length = n := by have := hr.len; rw [us_length] at this; omega
  rw [hl]
  clear hl
  go_enter Try.func12, Try.ntmps12
  go_wp2
  go_ret
  exact ⟨rfl, rfl⟩

/-- What Next leaves: the number, the source on. -/
def Nexts (ok : Nat → Prop) (w : World) (g : Nat) (l : List Int) (last : Int) (e : Ending) (w' : World) : Prop :=
  e = .returned (.int .u32 (nextV l last)) ∧ Src ok w' g l.tail (nextV l last) ∧ w.grownBy w' (some g)

theorem next_empty (w : World) (g : Nat) (last : Int) (h0 : 0 ≤ last) (h1 : last < 4294967296) (hs : Src ok w g [] last) :
    Calls Try.prog 14 #[.pointer (some ⟨g, 0, none⟩)] w (Nexts ok w g [] last) := by
  obtain ⟨A, n, c, hh, hr, hne⟩ := hs
  have c0 := cell_two0 hh
  have c1 := cell_two1 hh
  have f1 := free_row hh 1
  have hn : n = 0 := by have := hr.len; simp [us] at this; omega
  subst hn
  go_enter Try.func14, Try.ntmps14
  go_wp2
  go_ret
  exact ⟨rfl, ⟨A, 0, c, heap_set1 hh, hr.grown (grownBy_set w g 1 _) (fun a ha h => (hne a ha).1 (by simpa using h)), hne⟩, grownBy_set w g 1 _⟩

theorem next_more (w : World) (g : Nat) (x : Int) (l : List Int) (last : Int) (hs : Src ok w g (x :: l) last) :
    Calls Try.prog 14 #[.pointer (some ⟨g, 0, none⟩)] w (Nexts ok w g (x :: l) last) := by
  obtain ⟨A, n, c, hh, hr, hne⟩ := hs
  have c0 := cell_two0 hh
  have c1 := cell_two1 hh
  have f0 := free_row hh 0
  have f1 := free_row hh 1
  have hl : l.length + 1 = n := by have := hr.len; rw [us_length, List.length_cons] at this; omega
  have hle := hr.le
  cases A with
  | none => have := (hr.nil_ rfl).1; omega
  | some ad =>
  have hcx : w.cell? ad = some (.int .u32 x) := by have := hr.cells ad rfl 0 (.int .u32 x) rfl; rwa [Addr.add_zero'] at this
  have hne' := hne ad rfl
  have hcut := hr.cut 1 n (by omega) (Nat.le_refl _)
  have hg1 := grownBy_set w g 1 (.int .u32 x)
  have hh1 : (w.setCell ⟨g, 1, none⟩ (.int .u32 x)).heap[g]? = some (.cells #[.slice (some ad) n c, .int .u32 x] 52 (0, 0)) := heap_set1 hh
  have hg01 : ∀ u, w.grownBy ((w.setCell ⟨g, 1, none⟩ (.int .u32 x)).setCell ⟨g, 0, none⟩ u) (some g) := fun u => hg1.trans (grownBy_set _ g 0 u)
  have hus : us (x :: l) = .int .u32 x :: us l := rfl
  have HL' := Lib.hid hl
  by_cases hc1 : c = 1
  · have hl0 : l = [] := List.eq_nil_of_length_eq_zero (by omega)
    subst hl0
    obtain rfl : n = 1 := by simp at hl; omega
    subst hc1
    clear hl hus
    go_enter Try.func14, Try.ntmps14
    go_wp2
    go_ret
    refine ⟨rfl, ⟨some ad, 0, 0, heap_set0 hh1, ⟨rfl, fun ha => by (cases ha), Nat.le_refl _, fun a _ => Cells.nil _ a⟩, hne⟩, hg01 _⟩
  · have hn1 : 1 ≤ n := by omega
    clear hl
    go_enter Try.func14, Try.ntmps14
    go_wp2
    go_ret
    have hl := HL'.out
    have hcs : ((us (x :: l)).drop (1 * 1)).take ((n - 1) * 1) = us l := by
      rw [hus, Nat.one_mul, List.drop_succ_cons, List.drop_zero]
      exact List.take_of_length_le (by rw [us_length]; omega)
    rw [hcs] at hcut
    exact ⟨rfl, ⟨_, _, _, heap_set0 hh1, hcut.grown (hg01 _) (fun a ha h => by cases ha; rw [block_add] at h; exact hne'.1 (by simpa using h)), fun a ha => by cases ha; exact hne'⟩, hg01 _⟩

theorem next_ (w : World) (g : Nat) (l : List Int) (last : Int) (h0 : 0 ≤ last) (h1 : last < 4294967296) (hs : Src ok w g l last) :
    Calls Try.prog 14 #[.pointer (some ⟨g, 0, none⟩)] w (Nexts ok w g l last) := by
  cases l with
  | nil => exact next_empty w g last h0 h1 hs
  | cons x l => exact next_more w g x l last hs

theorem below_none (w : World) (g : Nat) (k : Int) (hk : k < 1) :
    Calls Try.prog 16 #[.pointer (some ⟨g, 0, none⟩), .int .i64 k] w fun e w' => e = .returned (.int .i64 0) ∧ w = w' := by
  go_enter Try.func16, Try.ntmps16
  go_wp2
  go_ret
  exact ⟨rfl, rfl⟩
/-- What Below leaves. -/
def Belows (ok : Nat → Prop) (w : World) (g : Nat) (l : List Int) (last k : Int) (e : Ending) (w' : World) : Prop :=
  e = .returned (.int .i64 (nextV l last % k)) ∧ Src ok w' g l.tail (nextV l last) ∧ w.grownBy w' (some g)
theorem below_ (w : World) (g : Nat) (l : List Int) (last k : Int) (hk : 1 ≤ k) (hk2 : k ≤ 9223372036854775807) (h0 : 0 ≤ last) (h1 : last < 4294967296) (hv0 : 0 ≤ nextV l last) (hv1 : nextV l last < 4294967296) (hs : Src ok w g l last) :
    Calls Try.prog 16 #[.pointer (some ⟨g, 0, none⟩), .int .i64 k] w (Belows ok w g l last k) := by
  generalize hv : nextV l last = v at *
  have hb0 : 0 ≤ v % k := Int.emod_nonneg _ (by omega)
  have hb1 : v % k < k := Int.emod_lt_of_pos _ (by omega)
  have HV := Lib.hid hv
  have hn := next_ w g l last h0 h1 hs
  clear hv
  go_enter Try.func16, Try.ntmps16
  go_wp2_with (go_at_call 14; refine hn.mono ?_; rintro e w1 ⟨rfl, hs1, hg1⟩; rw [HV.out] at hs1 ⊢)
  go_ret
  rw [← HV.out]
  rw [← HV.out] at hs1
  exact ⟨rfl, hs1, hg1⟩

set_option maxHeartbeats 4000000 in
/-- Add, k numbers of its list being put behind. -/
theorem add_core (w : World) (g : Nat) (l : List Int) (last : Int) (hs : Src (· < w.heap.size) w g l last) (A' : Option Addr) (m c' : Nat) (l' : List Int) (hr' : Rd w 1 A' m c' (us l')) (hm : m ≤ 140737488355328) (k : Nat) (hk1 : k ≤ m) (hk2 : l.length + k ≤ 4096)
    (hk : (m + l.length ≤ 4096 ∧ k = m) ∨ (4096 < m + l.length ∧ k + l.length = 4096)) :
    Calls Try.prog 19 #[.pointer (some ⟨g, 0, none⟩), .slice A' m c'] w fun e w' => e = .returned (.tuple #[]) ∧ Src (· < w'.heap.size) w' g (l ++ l'.take k) last ∧ w.grownBy w' (some g) := by
  obtain ⟨A, n, c, hh, hr, hne⟩ := hs
  have c0 := cell_two0 hh
  have c1 := cell_two1 hh
  have f0 := free_row hh 0
  have hgl : g < w.heap.size := (Array.getElem?_eq_some_iff.1 hh).1
  have hl : l.length = n := by have := hr.len; rw [us_length] at this; omega
  rw [hl] at hk hk2
  have hle := hr.le
  have hle' := hr'.le
  have hr2 := hr'.pre k hk1
  rw [Nat.mul_one, us_take] at hr2
  have happ : App w.drew w.heap.size 26 1 (.slice A n n) n (us l) := (App.full hr).below (Below.refl _ _).drew
  have hr3 := hr2.drew
  have hb1 : Below w.heap.size w w.drew := (Below.refl _ _).drew
  have hz1 : w.heap.size ≤ w.drew.heap.size := Nat.le_refl _
  have hrw1 : Rd w.drew 1 A n n (us l) := hr.full.drew
  have fin : ∀ v1 w1, ((k = 0 ∧ v1 = Value.slice A n n ∧ w1 = w.drew) ∨ w1.ownsRow w.heap.size 26 1 v1 (n + k) (us l ++ us (l'.take k))) → Below w.heap.size w w1 →
      ∃ A1 c1, v1 = .slice A1 (n + k) c1 ∧ w1.cell? ⟨g, 0, none⟩ = some (.slice A n c) ∧ w1.frozen? ⟨g, 0, none⟩ = false ∧ Src (· < w1.heap.size) (w1.setCell ⟨g, 0, none⟩ (.slice A1 (n + k) c1)) g (l ++ l'.take k) last ∧ w.grownBy (w1.setCell ⟨g, 0, none⟩ (.slice A1 (n + k) c1)) (some g) := by
    intro v1 w1 hv hg
    have hh1 : w1.heap[g]? = some (.cells #[.slice A n c, .int .u32 last] 52 (0, 0)) := by
      rw [hg.block g hgl]; exact hh
    have hgw : ∀ u, w.grownBy (w1.setCell ⟨g, 0, none⟩ u) (some g) := fun u => ⟨(grownBy_set w1 g 0 u).os.trans hg.os, (grownBy_set w1 g 0 u).tape.trans hg.tape, (grownBy_set w1 g 0 u).output.trans hg.output, Nat.le_trans hg.size (grownBy_set w1 g 0 u).size, fun b hb hne2 => by
      rw [(grownBy_set w1 g 0 u).block b (Nat.lt_of_lt_of_le hb hg.size) hne2, hg.block b hb]⟩
    rcases hv with ⟨rfl, rfl, rfl⟩ | ho
    · refine ⟨A, n, rfl, cell_two0 hh1, free_row hh1 0, ⟨A, n, n, heap_set0 hh1, ?_, hne⟩, hgw _⟩
      have := hrw1.grown (grownBy_set w.drew g 0 (.slice A n n)) (fun a ha h => (hne a ha).1 (by simpa using h))
      simpa [us] using this
    · obtain ⟨A1, c1, rfl, hrd⟩ := own_rd ho
      have hneA : ∀ a, A1 = some a → a.block ≠ g ∧ a.block < w1.heap.size := fun a ha => by
        have := ho.lt a.block (by rw [ha]; rfl)
        omega
      rw [← us_append] at hrd
      exact ⟨A1, c1, rfl, cell_two0 hh1, free_row hh1 0, ⟨A1, n + k, c1, heap_set0 hh1, hrd.grown (grownBy_set w1 g 0 _) (fun a ha h => (hneA a ha).1 (by simpa using h)), hneA⟩, hgw _⟩
  clear hl
  rcases hk with ⟨h1, h2⟩ | ⟨h1, h2⟩
  · subst h2
    have hmin : (k : Int) ≤ 4096 - (n : Int) := by omega
    go_enter Try.func19, Try.ntmps19
    go_wp2
    go_region_law (refine step_app w _ w.heap.size rfl _ _ 25 25 26 (.int .u32 0) 1 4 rfl Try.underlying25 info_u32 rfl (by omega) (by omega) (.slice A n n) n (us l) rfl happ (.slice A' k c') k (us (l'.take k)) rfl (.slice hr3 (us_one _)) hb1 hz1 (by omega) ?_; intro v1 w1 ha1 ho1 hb2 hg2; obtain ⟨A1, c1, rfl, hc1', hf1', hs1', hg1'⟩ := fin v1 w1 ha1 hb2; clear ha1 ho1 hg2)
    all_goals (go_end0; exact ⟨rfl, hs1'.mono (fun k hk => by simpa [World.setCell] using hk), hg1'⟩)
  · have hmin : 4096 - (n : Int) ≤ (m : Int) := by omega
    have hm2 : 4096 - (n : Int) = (k : Int) := by omega
    have hkc : k ≤ c' := by omega
    go_enter Try.func19, Try.ntmps19
    go_wp2
    go_region_law (refine step_app w _ w.heap.size rfl _ _ 25 25 26 (.int .u32 0) 1 4 rfl Try.underlying25 info_u32 rfl (by omega) (by omega) (.slice A n n) n (us l) rfl happ (.slice A' k c') k (us (l'.take k)) rfl (.slice hr3 (us_one _)) hb1 hz1 (by omega) ?_; intro v1 w1 ha1 ho1 hb2 hg2; obtain ⟨A1, c1, rfl, hc1', hf1', hs1', hg1'⟩ := fin v1 w1 ha1 hb2; clear ha1 ho1 hg2)
    all_goals (go_end0; exact ⟨rfl, hs1'.mono (fun k hk => by simpa [World.setCell] using hk), hg1'⟩)
/-- What Add leaves. -/
def Adds (w : World) (g : Nat) (l : List Int) (last : Int) (l' : List Int) (e : Ending) (w' : World) : Prop :=
  e = .returned (.tuple #[]) ∧ Src (· < w'.heap.size) w' g (l ++ l'.take (4096 - l.length)) last ∧ w.grownBy w' (some g)
theorem add_ (w : World) (g : Nat) (l : List Int) (last : Int) (hl4 : l.length ≤ 4096) (hs : Src (· < w.heap.size) w g l last) (A' : Option Addr) (m c' : Nat) (l' : List Int) (hr' : Rd w 1 A' m c' (us l')) (hm : m ≤ 140737488355328) :
    Calls Try.prog 19 #[.pointer (some ⟨g, 0, none⟩), .slice A' m c'] w (Adds w g l last l') := by
  have hl' : l'.length = m := by have := hr'.len; rw [us_length] at this; omega
  by_cases h : m + l.length ≤ 4096
  · have ht : l'.take (4096 - l.length) = l'.take m := by rw [List.take_of_length_le (by omega), List.take_of_length_le (by omega)]
    unfold Adds
    rw [ht]
    exact add_core w g l last hs A' m c' l' hr' hm m (Nat.le_refl _) (by omega) (.inl ⟨h, rfl⟩)
  · exact add_core w g l last hs A' m c' l' hr' hm (4096 - l.length) (by omega) (by omega) (.inr ⟨by omega, by omega⟩)
theorem add_nil (w : World) (A' : Option Addr) (m c' : Nat) :
    Calls Try.prog 19 #[.pointer none, .slice A' m c'] w fun e w' => e = .returned (.tuple #[]) ∧ w = w' := by
  go_enter Try.func19, Try.ntmps19
  go_wp2
  exact bodyPost_ret (results_none rfl _ _ _) rfl ⟨rfl, rfl⟩

/-- What New leaves. -/
def News (w : World) (l : List Int) (e : Ending) (w' : World) : Prop :=
  ∃ g, e = .returned (.pointer (some ⟨g, 0, none⟩)) ∧ w.heap.size ≤ g ∧ Src (· < w'.heap.size) w' g (l.take 4096) 0 ∧ Below w.heap.size w w'
theorem new_ (w : World) (A' : Option Addr) (m c' : Nat) (l' : List Int) (hr' : Rd w 1 A' m c' (us l')) (hm : m ≤ 140737488355328) :
    Calls Try.prog 10 #[.slice A' m c'] w (News w l') := by
  have hs : Src (· < (w.alloc (.cells #[.slice none 0 0, .int .u32 0] 52)).heap.size) (w.alloc (.cells #[.slice none 0 0, .int .u32 0] 52)) w.heap.size [] 0 := ⟨none, 0, 0, heap_alloc_new w _, Rd.nil _ _, fun a ha => by cases ha⟩
  have ha := add_ _ _ [] 0 (by simp) hs A' m c' l' (hr'.alloc _) hm
  go_enter Try.func10, Try.ntmps10
  go_wp2_with (go_at_call 19; refine ha.mono ?_; rintro e w1 ⟨rfl, hs1, hg1⟩)
  go_ret
  rw [List.nil_append] at hs1
  exact ⟨_, rfl, Nat.le_refl _, hs1, (below_new w _).grown hg1 (by simp) (fun k hk => by cases hk; exact Nat.le_refl _)⟩
end Go.Proofs.Ytbcpnjgmbdhdkaa
