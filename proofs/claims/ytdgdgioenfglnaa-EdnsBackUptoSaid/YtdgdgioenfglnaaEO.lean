/- edns: Options, the program's. -/
import Derived.Test.YtdgdgioenfglnaaEA
import Derived.Laws.EntriesVeiled
namespace Go.Proofs.Ytdgdgioenfglnaa
open Go.RowKit Go.HL Go.Shelf
set_option linter.unusedVariables false
set_option linter.unusedSimpArgs false
attribute [local go_sem] Oper.semAt_some

def sumL (l : List (Int × ByteArray)) : Nat := (l.map fun x => 4 + x.2.size).sum
theorem sumL_append (l m : List (Int × ByteArray)) : sumL (l ++ m) = sumL l + sumL m := by simp [sumL]
theorem sumL_ge (l : List (Int × ByteArray)) : 4 * l.length ≤ sumL l := by
  induction l with
  | nil => simp [sumL]
  | cons x l ih => simp only [sumL, List.map_cons, List.sum_cons, List.length_cons] at *; omega
theorem chain_sum : ∀ (k : Nat) (s : ByteArray), sumL (chain k s).1 + (chain k s).2.size = s.size := by
  intro k
  induction k with
  | zero => intro s; simp [chain, sumL]
  | succ k ih =>
    intro s
    by_cases h : s.size < 4 ∨ s.size < 4 + nOf s
    · simp only [chain]; rw [if_pos h]; simp [sumL]
    · have := ih (s.extract (4 + nOf s) s.size)
      simp only [chain]
      rw [if_neg h]
      simp only [sumL, List.map_cons, List.sum_cons] at *
      have e1 : (s.extract (4 + nOf s) s.size).size = s.size - (4 + nOf s) := by rw [ByteArray.size_extract]; omega
      have e2 : (s.extract 4 (4 + nOf s)).size = nOf s := by rw [ByteArray.size_extract]; omega
      rw [e1] at this
      rw [e2]
      omega
def optL (s : ByteArray) : List (Int × ByteArray) := (chain s.size s).1
def okOf (s : ByteArray) : Bool := decide ((chain s.size s).2.size = 0)
def resL (s : ByteArray) : List (Int × ByteArray) := if okOf s then optL s else []
def nsV (l : List (Int × ByteArray)) : List Value := l.map fun x => .int .u16 x.1
def lsV (l : List (Int × ByteArray)) : List Value := l.map fun x => .string x.2
/-- What is told of a string of options. -/
def OptsP (w : World) (s : ByteArray) (e : Ending) (w' : World) : Prop :=
  ∃ vn vl, e = .returned (.tuple #[vn, vl, .bool (okOf s)]) ∧ w'.ownsRow w.heap.size 22 1 vn (resL s).length (nsV (resL s)) ∧ w'.ownsRow w.heap.size 9 1 vl (resL s).length (lsV (resL s)) ∧ Below w.heap.size w w'

theorem each_ (w : World) (s : ByteArray) : Calls Try.prog 21 #[.string s] w fun e w' => e = .returned (.func (.func 27) #[] #[.pointer (some ⟨w.heap.size, 0, none⟩)]) ∧ w' = w.alloc (.cells #[.string s] 9) := by
  go_enter Try.func21, Try.ntmps21
  go_wp2
  go_ret
  exact ⟨rfl, rfl⟩
/-- While the options are told. -/
def OptI (w : World) (s : ByteArray) (h : Nat) (pre : List (Int × ByteArray)) (W : World) : Prop :=
  ∃ vn vl, Boxed W h 38 vn ∧ W.ownsRow (h + 5) 22 1 vn pre.length (nsV pre) ∧ Boxed W (h + 1) 39 vl ∧ W.ownsRow (h + 5) 9 1 vl pre.length (lsV pre) ∧ Boxed W (h + 2) 3 (.int .i64 ((s.size : Int) - (sumL pre : Nat)))
    ∧ Boxed W (h + 3) 55 (.func (.func 20) #[] #[.pointer (some ⟨h, 0, none⟩), .pointer (some ⟨h + 1, 0, none⟩), .pointer (some ⟨h + 2, 0, none⟩)]) ∧ Below h w W ∧ h + 5 ≤ W.heap.size
theorem OptI.grown {w : World} {s : ByteArray} {h : Nat} {pre : List (Int × ByteArray)} {W W' : World} {k : Nat} (hi : OptI w s h pre W) (hg : W.grownBy W' (some k)) (hk : h + 4 ≤ k) (hne : ∀ o, W.heap[k]? = some o → k = h + 4 ∨ o.isCells = false) (hex : ∃ o, W.heap[k]? = some o) : OptI w s h pre W' := by
  obtain ⟨vn, vl, a1, a2, a3, a4, a5, a6, a7, a8⟩ := hi
  have hown : ∀ {e : TypeId} {v : Value} {m : Nat} {xs : List Value}, W.ownsRow (h + 5) e 1 v m xs → W'.ownsRow (h + 5) e 1 v m xs := fun ho => ho.kept hg (.inr fun e => by
    have h1 := own_base ho k e
    obtain ⟨o, h2⟩ := hex
    rcases hne o h2 with h3 | h3
    · omega
    · have := own_cells ho k o e h2
      rw [h3] at this
      cases this)
  exact ⟨vn, vl, a1.kept hg (by simp; omega), hown a2, a3.kept hg (by simp; omega), hown a4, a5.kept hg (by simp; omega), a6.kept hg (by simp; omega), a7.grown hg (by omega) (fun j hj => by cases hj; omega), Nat.le_trans a8 hg.size⟩
theorem OptI.grown' {w : World} {s : ByteArray} {h k : Nat} {pre : List (Int × ByteArray)} {W W' : World} (hi : OptI w s h pre W) (hg : W.grownBy W' (some k)) (hk : k = h + 4) : OptI w s h pre W' := by
  subst hk
  obtain ⟨vn, vl, a1, a2, a3, a4, a5, a6, a7, a8⟩ := hi
  exact ⟨vn, vl, a1.kept hg (by simp), own_kept_low a2 (by omega) hg, a3.kept hg (by simp), own_kept_low a4 (by omega) hg, a5.kept hg (by simp), a6.kept hg (by simp), a7.grown hg (by omega) (fun j hj => by cases hj; omega), Nat.le_trans a8 hg.size⟩
theorem OptI.new {w : World} {s : ByteArray} {h : Nat} {pre : List (Int × ByteArray)} {W W' : World} (hi : OptI w s h pre W) (hg : W.grownBy W' none) : OptI w s h pre W' := by
  obtain ⟨vn, vl, a1, a2, a3, a4, a5, a6, a7, a8⟩ := hi
  exact ⟨vn, vl, a1.kept hg (by simp), own_kept_new a2 hg, a3.kept hg (by simp), own_kept_new a4 hg, a5.kept hg (by simp), a6.kept hg (by simp), a7.grown hg (by omega) (fun j hj => by cases hj), Nat.le_trans a8 hg.size⟩
set_option maxHeartbeats 4000000 in
theorem options_ (w : World) (s : ByteArray) (hlen : s.size ≤ 1048576) : Calls Try.prog 12 #[.string s] w (OptsP w s) := by
  refine (callsIn_wide (n := 9)).1 ?_
  refine callsIn_of_wp_marks Try.func12 rfl trivial ?_ rfl
  simp only [Try.ntmps12, List.size_toArray, List.length_cons, List.length_nil, Nat.reduceAdd, Nat.reduceSub, Array.replicate_succ, Array.replicate_zero, List.push_toArray, List.append_toArray, List.nil_append, List.cons_append]
  have f21 : Fence.wide.fn 21 := trivial
  have f20 : Fence.wide.fn 20 := trivial
  have he := fun W => callsIn_wide (n := 8).2 (each_ W s)
  gi_wp2_with (gi_at_call 21; refine (he _).mono ?_; rintro e w' ⟨rfl, rfl⟩)
  obtain ⟨h, hh⟩ : ∃ h, w.heap.size = h := ⟨_, rfl⟩
  rw [hh]
  obtain ⟨W0, hW0⟩ : ∃ W0, (((((w.alloc (.cells #[.slice none 0 0] 38)).alloc (.cells #[.slice none 0 0] 39)).alloc (.cells #[.int .i64 (s.size : Int)] 3)).alloc (.cells #[.func (.func 20) #[] #[.pointer (some ⟨h, 0, none⟩), .pointer (some ⟨h + 1, 0, none⟩), .pointer (some ⟨h + 1 + 1, 0, none⟩)]] 55)).alloc (.cells #[.string s] 9)) = W0 := ⟨_, rfl⟩
  rw [hW0]
  have hz : W0.heap.size = h + 5 := by rw [← hW0, ← hh]; simp
  have hg0 : w.grownBy W0 none := by
    rw [← hW0]
    exact World.grownBy.trans (World.grownBy.trans (World.grownBy.trans (World.grownBy.trans (World.grownBy_alloc _ _ _) (World.grownBy_alloc _ _ _)) (World.grownBy_alloc _ _ _)) (World.grownBy_alloc _ _ _)) (World.grownBy_alloc _ _ _)
  have b0 : Boxed W0 h 38 (.slice none 0 0) := by
    rw [← hW0, ← hh]
    exact ((((Boxed.new w _ _).alloc _).alloc _).alloc _).alloc _
  have b1 : Boxed W0 (h + 1) 39 (.slice none 0 0) := by
    have := (((Boxed.new (w.alloc (.cells #[.slice none 0 0] 38)) 39 (.slice none 0 0)).alloc (.cells #[.int .i64 (s.size : Int)] 3)).alloc (.cells #[.func (.func 20) #[] #[.pointer (some ⟨h, 0, none⟩), .pointer (some ⟨h + 1, 0, none⟩), .pointer (some ⟨h + 1 + 1, 0, none⟩)]] 55)).alloc (.cells #[.string s] 9)
    rw [hW0, World.size_alloc, hh] at this
    exact this
  have b2 : Boxed W0 (h + 2) 3 (.int .i64 (s.size : Int)) := by
    have := ((Boxed.new ((w.alloc (.cells #[.slice none 0 0] 38)).alloc (.cells #[.slice none 0 0] 39)) 3 (.int .i64 (s.size : Int))).alloc (.cells #[.func (.func 20) #[] #[.pointer (some ⟨h, 0, none⟩), .pointer (some ⟨h + 1, 0, none⟩), .pointer (some ⟨h + 1 + 1, 0, none⟩)]] 55)).alloc (.cells #[.string s] 9)
    rw [hW0, World.size_alloc, World.size_alloc, hh] at this
    exact this
  have b3 : Boxed W0 (h + 3) 55 (.func (.func 20) #[] #[.pointer (some ⟨h, 0, none⟩), .pointer (some ⟨h + 1, 0, none⟩), .pointer (some ⟨h + 2, 0, none⟩)]) := by
    have := (Boxed.new (((w.alloc (.cells #[.slice none 0 0] 38)).alloc (.cells #[.slice none 0 0] 39)).alloc (.cells #[.int .i64 (s.size : Int)] 3)) 55 (.func (.func 20) #[] #[.pointer (some ⟨h, 0, none⟩), .pointer (some ⟨h + 1, 0, none⟩), .pointer (some ⟨h + 1 + 1, 0, none⟩)])).alloc (.cells #[.string s] 9)
    rw [hW0, World.size_alloc, World.size_alloc, World.size_alloc, hh] at this
    exact this
  have b4 : Boxed W0 (h + 4) 9 (.string s) := by
    have := Boxed.new ((((w.alloc (.cells #[.slice none 0 0] 38)).alloc (.cells #[.slice none 0 0] 39)).alloc (.cells #[.int .i64 (s.size : Int)] 3)).alloc (.cells #[.func (.func 20) #[] #[.pointer (some ⟨h, 0, none⟩), .pointer (some ⟨h + 1, 0, none⟩), .pointer (some ⟨h + 1 + 1, 0, none⟩)]] 55)) 9 (.string s)
    rw [hW0, World.size_alloc, World.size_alloc, World.size_alloc, World.size_alloc, hh] at this
    exact this
  have hI0 : OptI w s h [] W0 := ⟨_, _, b0, World.ownsRow_nil _ _ _ _, b1, World.ownsRow_nil _ _ _ _, by simpa [sumL] using b2, b3, (Below.refl _ w).grown hg0 (by omega) (fun j hj => by cases hj), by omega⟩
  clear hW0 he
  rw [show h + 1 + 1 + 1 + 1 = h + 4 from rfl, show h + 1 + 1 + 1 = h + 3 from rfl, show h + 1 + 1 = h + 2 from rfl]
  refine wpIn_range_cells rfl (by omega) (gf := 27) (lb := #[.pointer (some ⟨h + 4, 0, none⟩)]) rfl trivial (enters_of Try.func27 (by kernel_rfl) rfl) encE (fun _ => rfl) (h + 4) 9 (.string s) (optL s) (each_iter 8 (by omega) (h + 4) s (by omega)) b4
    (OptI w s h) ?hset ?hdrew ?hput ?h0 ?a1 ?hassign ?hbody ?hdone
  case hassign =>
    intro l x W K hK
    simp only [encE]
    gi_wp2
    exact hK
  case hset =>
    intro pre W v hi
    exact hi.grown' (grownBy_setCell' W (h + 4) v) rfl
  case hdrew => exact fun pre W hi => hi.new (grown_drew W)
  case hput => exact fun pre W k o o' hi hk ho hc => hi.grown (grownBy_putObj' W k o') (by omega) (fun o2 h2 => .inr (by rw [ho] at h2; cases h2; exact hc)) ⟨o, ho⟩
  case h0 => exact fun o => (hI0.new (World.grownBy_alloc _ _ _)).new (World.grownBy_alloc _ _ _)
  case hbody =>
    rintro l pre x W hi hpre
    obtain ⟨vn, vl, a1, a2, a3, a4, a5, a6, a7, a8⟩ := hi
    have c3 := a6.cell
    have hsum := chain_sum s.size s
    obtain ⟨post, hpost⟩ := hpre
    have hs2 : sumL pre + (4 + x.2.size) + sumL post = sumL (optL s) := by rw [← hpost, sumL_append, sumL_append]; simp [sumL]
    have hge := sumL_ge pre
    have hsum2 : sumL (optL s) ≤ s.size := by unfold optL; omega
    have hadd := add_ W (h + 5) h (h + 1) (h + 2) pre.length x.1 x.2 (nsV pre) (lsV pre) ((s.size : Int) - (sumL pre : Nat)) vn vl (by omega) (by omega) (by omega) a8 (by omega) (by omega) (by omega) a1 a3 a5 a2 a4 (by omega) (by omega) (by omega) (by omega)
    have hadd2 := fun m => CallsIn.inRound l (callsIn_wide (n := m).2 hadd)
    clear hadd
    gi_wp2_with (gi_at_call 20; refine (hadd2 _).mono ?_; rintro e W' ⟨rfl, vn', vl', d1, d2, d3, d4, d5, d6⟩)
    refine ⟨d6.oth, ⟨vn', vl', d1, ?_, d3, ?_, ?_, ?_, ?_, Nat.le_trans a8 d6.oth.size⟩, fun u hu => ?_⟩
    · simpa [nsV] using d2
    · simpa [lsV] using d4
    · have : ((s.size : Int) - (sumL pre : Nat)) - (4 + x.2.size) = (s.size : Int) - (sumL (pre ++ [x]) : Nat) := by rw [sumL_append]; simp [sumL]; omega
      rw [← this]; exact d5
    · exact (d6.block (h + 3) (by omega) a6.lt (by simp)).trans a6
    · exact a7.trans ⟨d6.os, d6.tape, d6.output, d6.oth.size, fun k hk => d6.block k (by omega) (by have := a7.size; omega) (by simp; omega)⟩
    · exact (d6.block (h + 4) (by omega) hu.lt (by simp)).trans hu
  case hdone =>
    intro D W hi hD hK
    obtain ⟨vn, vl, a1, a2, a3, a4, a5, a6, a7, a8⟩ := hi
    have c0 := a1.cell
    have c1 := a3.cell
    have c2 := a5.cell
    have hsum := chain_sum s.size s
    have hle : ((s.size : Int) - (sumL (optL s) : Nat)) = ((chain s.size s).2.size : Int) := by unfold optL; omega
    rw [hle] at c2
    by_cases hok : (chain s.size s).2.size = 0
    · have hd : okOf s = true := decide_eq_true hok
      rw [hok] at c2
      have hr : resL s = optL s := by unfold resL; rw [hd]; rfl
      have hWD : W.heap.size ≤ (W.putObj D (.deferred none)).heap.size := by simp
      gi_wp2
      refine wpIn_wide.2 ?_
      go_quiet (fail)
      gi_wp2
      refine ⟨by simp, .inl ⟨_, _, rfl, run_takeDeferred (w := W.drewN nq) hK, ?_⟩⟩
      have hgq : W.grownBy (W.drewN nq) none := ⟨rfl, rfl, rfl, Nat.le_refl _, fun _ _ _ => rfl⟩
      refine ⟨_, results_tmp3 rfl _ _ _, vn, vl, by rw [hd]; rfl, ?_, ?_, ?_⟩
      · rw [hr, hh]
        exact own_lower (ownsRow_putObj (own_kept_new a2 hgq) _ (W := W.drewN nq) hK rfl) (by omega)
      · rw [hr, hh]
        exact own_lower (ownsRow_putObj (own_kept_new a4 hgq) _ (W := W.drewN nq) hK rfl) (by omega)
      · rw [hh]
        exact (below_drewN a7 nq).grown (grownBy_putObj' (W.drewN nq) D _) (by show h ≤ W.heap.size; omega) (fun j hj => by cases hj; omega)
    · have hd : okOf s = false := decide_eq_false hok
      have hr : resL s = [] := by unfold resL; rw [hd]; rfl
      have hne : ((chain s.size s).2.size : Int) ≠ 0 := by omega
      gi_wp2
      refine ⟨by simp, .inl ⟨_, _, rfl, run_takeDeferred hK, ?_⟩⟩
      refine ⟨_, results_tmp3 rfl _ _ _, .slice none 0 0, .slice none 0 0, by rw [hd]; rfl, ?_, ?_, ?_⟩
      · rw [hr]; exact World.ownsRow_nil _ _ _ _
      · rw [hr]; exact World.ownsRow_nil _ _ _ _
      · rw [hh]
        exact a7.grown (grownBy_putObj' W D _) (by omega) (fun j hj => by cases hj; omega)
end Go.Proofs.Ytdgdgioenfglnaa
