/- stream: wakes; what cutting leaves. -/
import Derived.Test.YtmifnmnpihikgaaSD
import Derived.Deep.DeepCutAuto
import Derived.Deep.CutBlock
import Derived.Deep.LoopGhost
import Derived.Deep.QuietTactic
import Derived.BigQuiet
import Derived.Lib.SlBytesConst
namespace Go.Proofs.Ytmifnmnpihikgaa
open Go.RowKit Go.HL
set_option linter.unusedVariables false
set_option linter.unusedSimpArgs false

theorem own_some {w : World} {base n size : Nat} {e : TypeId} {v : Value} {cs : List Value} (h : w.ownsRow base e size v n cs) (hn : 0 < n) : ∃ g c, v = .slice (some ⟨g, 0, none⟩) n c ∧ Rd w size (some ⟨g, 0, none⟩) n c cs := by
  obtain ⟨A, c, rfl, hr⟩ := own_rd h
  rcases h.2 with ⟨h1, h2⟩ | ⟨g, cap, cur, he, _⟩
  · cases h1; omega
  · cases he
    exact ⟨g, c, rfl, hr⟩
theorem cutL_total : ∀ (k : Nat) (l : List UInt8), ((cutL k l).1.map fun x => 2 + x.length).sum + (cutL k l).2.length = l.length
  | 0, l => by simp [cutL]
  | k + 1, l => by
    rw [cutL]
    by_cases hs : l.length < 2 ∨ l.length < 2 + nW l
    · rw [if_pos hs]; simp
    · rw [if_neg hs]
      have := cutL_total k (l.drop (2 + nW l))
      simp at this ⊢
      omega
theorem cutL_rest : ∀ (k : Nat) (l : List UInt8), l.length ≤ k → (cutL k l).2.length < 65538
  | 0, l, h => by simp [cutL]; omega
  | k + 1, l, h => by
    rw [cutL]
    by_cases hs : l.length < 2 ∨ l.length < 2 + nW l
    · rw [if_pos hs]
      have := nW_lt l
      show l.length < 65538
      omega
    · rw [if_neg hs]
      exact cutL_rest k _ (by simp; omega)
theorem cut_total (l : List UInt8) : ((cut l).1.map fun x => 2 + x.length).sum + (cut l).2.length = l.length := cutL_total _ l
theorem cut_rest (l : List UInt8) : (cut l).2.length < 65538 := cutL_rest _ l (Nat.le_refl _)
theorem rd_const (w : World) (l : List UInt8) (fr : Nat × Nat) : Rd (w.alloc (.cells (bs l).toArray 5 fr)) 1 (some ⟨w.heap.size, 0, none⟩) l.length l.length (bs l) :=
  ⟨by rw [bs_length]; omega, fun ha => by (cases ha), Nat.le_refl _, fun a ha => by cases ha; exact World.news_of_block (cs := (bs l).toArray) (t := 5) (fr := fr) (heap_alloc_new w _)⟩
theorem wk_cut : cut [0, 2, 97, 98, 0] = ([[97, 98]], [0]) := by decide +kernel
theorem wk_frm : frm [97, 98] = [0, 2, 97, 98] := by decide +kernel
set_option maxHeartbeats 1000000 in
theorem wakes (w : World) : Calls Try.prog 8 #[] w (Tells w (.bool true)) := by
  have hr0 : Rd (w.alloc (.cells #[.int .u8 97, .int .u8 98] 5 (2, 3))) 1 (some ⟨w.heap.size, 0, none⟩) 2 2 (bs [97, 98]) := rd_const w [97, 98] (2, 3)
  have hb0 := below_new w (.cells #[.int .u8 97, .int .u8 98] 5 (2, 3))
  have hf := frame_ok _ _ 2 2 [97, 98] hr0 (by omega)
  unfold FrameP at hf
  rw [wk_frm] at hf
  simp only [List.length_cons, List.length_nil, Nat.zero_add, Nat.reduceAdd] at hf
  have hfd := fun (W : World) R A n c hR hr => feed_ W R none 0 0 [] A n c [0, 2, 97, 98, 0] hR (Rd.nil W 1) hr
  have HF := Lib.hid hfd
  clear hfd
  have kc := fun (W : World) (C : Array Value) (n c : Nat) => Lib.run_convert_bytes_const (P := Try.prog) W 26 5 C n c Try.underlying26 Try.underlying5
  go_enter Try.func8, Try.ntmps8
  go_upto_region 2 with (go_at_call 14; refine hf.mono ?_; clear hf; rintro e w1 ⟨v1, rfl, ho1, hb1⟩; obtain ⟨A1, c1, rfl, hr1⟩ := own_rd ho1)
  go_upto_region 3 with (go_at_call 9; refine (newReader_ _).mono ?_; rintro e w' ⟨rfl, rfl⟩)
  have hR := Boxed.new w1 48 (.slice none 0 0)
  have hb2 := below_alloc (below_trans hb0 hb1) (.cells #[.slice none 0 0] 48)
  have hr2 := hr1.alloc (.cells #[.slice none 0 0] 48)
  obtain ⟨W2, hW⟩ : ∃ x, w1.alloc (.cells #[.slice none 0 0] 48) = x := ⟨_, rfl⟩
  obtain ⟨R, hRR⟩ : ∃ x, w1.heap.size = x := ⟨_, rfl⟩
  have hwR : w.heap.size ≤ R := by rw [← hRR]; have := hb1.size; rw [World.size_alloc] at this; omega
  have hdb : ∀ a, A1 = some a → a.block < R := fun a ha => by have := (ho1.lt a.block (by rw [ha]; rfl)).2; omega
  rw [hW, hRR] at hR
  rw [hW] at hb2 hr2
  rw [hW, hRR]
  clear hW hRR hb0 hb1 hr1 hr0 ho1
  have hlit : Rd (W2.alloc (.cells #[.int .u8 0, .int .u8 2, .int .u8 97, .int .u8 98, .int .u8 0] 5 (5, 6))) 1 (some ⟨W2.heap.size, 0, none⟩) 5 5 (bs [0, 2, 97, 98, 0]) := rd_const W2 [0, 2, 97, 98, 0] (5, 6)
  have hF2 := HF.out _ R _ 5 5 (hR.alloc (.cells #[.int .u8 0, .int .u8 2, .int .u8 97, .int .u8 98, .int .u8 0] 5 (5, 6))) hlit (by omega)
  have hb3 := below_alloc hb2 (.cells #[.int .u8 0, .int .u8 2, .int .u8 97, .int .u8 98, .int .u8 0] 5 (5, 6))
  have hr3 := hr2.alloc (.cells #[.int .u8 0, .int .u8 2, .int .u8 97, .int .u8 98, .int .u8 0] 5 (5, 6))
  unfold FeedP at hF2
  rw [List.nil_append, wk_cut] at hF2
  clear hb2 hr2 hlit HF
  go_upto_region 4 with (go_at_call 10; refine hF2.mono ?_; clear hF2; rintro e w5 ⟨X, v, r, rfl, ho, hX, hXl, hR5, hor, hg5⟩)
  obtain ⟨m, rfl⟩ := List.length_eq_one_iff.1 (show X.length = 1 by have := congrArg List.length hXl; simpa using this)
  obtain ⟨hm, _⟩ := hX m (by simp)
  have hml : m.l = [97, 98] := by simpa using hXl
  obtain ⟨g, c, rfl, hrX⟩ := own_some ho (by simp)
  obtain ⟨ra, rc, rfl, _⟩ := own_rd hor
  obtain ⟨ma, mn, mc, ml⟩ := m
  have hm2 : Rd w5 1 ma mn mc (bs [97, 98]) := by have h : MsOk w5 ⟨ma, mn, mc, ml⟩ := hm; unfold MsOk at h; rw [show ml = [97, 98] from hml] at h; exact h
  have hrr := rd_grown hr3 hg5 (fun a ha => by have := hdb a ha; simp; omega)
  have hc0 := hrX.cells _ rfl 0 (.slice ma mn mc) rfl
  rw [add_plain] at hc0
  have hc1 := run_conv_str (P := Try.prog) w5 (dst := 9) Try.underlying26 Try.underlying5 Try.underlying9 hrr
  have hc2 := run_conv_str (P := Try.prog) w5 (dst := 9) Try.underlying26 Try.underlying5 Try.underlying9 hm2
  have hl5 := left_ w5 R ra 1 rc hR5.cell
  have hbf : Below w.heap.size w w5 := hb3.grown hg5 hb3.size (fun k hk => by cases hk; exact hwR)
  clear hm hml hX hXl ho hrX hor hg5 hr3 hrr hm2 hR5 hb3 hR
  go_wp2_with (go_at_call 13; refine hl5.mono ?_; rintro e w' ⟨rfl, rfl⟩)
  go_ret
  exact ⟨rfl, hbf⟩
end Go.Proofs.Ytmifnmnpihikgaa
