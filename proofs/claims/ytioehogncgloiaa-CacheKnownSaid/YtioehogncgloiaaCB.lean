/- An answer's life: plain; cache.seconds, hearsayref14.counts, all, Life, cache.life: contracts. -/
import Derived.Test.YtioehogncgloiaaCA
import Derived.BigGuard
namespace Go.Proofs.Ytioehogncgloiaa
open Go.RowKit Go.HL
set_option linter.unusedVariables false
set_option linter.unusedSimpArgs false
/-- An answer in memory. -/
structure Am where
  rc : Int
  aa : Bool
  an : Sl
  au : Sl
  ex : Sl
def Am.cells (a : Am) : List Value := [.int .u16 a.rc, .bool a.aa, .slice a.an.a a.an.n a.an.c, .slice a.au.a a.au.n a.au.c, .slice a.ex.a a.ex.n a.ex.c]
def Am.val (a : Am) : Value := .agg #[.int .u16 a.rc, .bool a.aa, .slice a.an.a a.an.n a.an.c, .slice a.au.a a.au.n a.au.c, .slice a.ex.a a.ex.n a.ex.c]
structure Am.ok (W : World) (a : Am) : Prop where
  rc : 0 ≤ a.rc ∧ a.rc < 65536
  an : a.an.ok W
  au : a.au.ok W
  ex : a.ex.ok W
theorem Am.ok.below {W W' : World} {a : Am} (h : a.ok W) (hb : Below W.heap.size W W') : a.ok W' := ⟨h.rc, h.an.below hb, h.au.below hb, h.ex.below hb⟩
/-- Small enough to be looked at. -/
structure Am.small (a : Am) : Prop where
  an : a.an.n ≤ 30
  au : a.au.n ≤ 30
  ex : a.ex.n ≤ 30
  na : ∀ r ∈ a.an.l, r.nm.size ≤ 2000
  nu : ∀ r ∈ a.au.l, r.nm.size ≤ 2000
  nx : ∀ r ∈ a.ex.l, r.nm.size ≤ 2000
theorem sizeAns : (Try.prog.info? 28).map (·.size) = some 5 := by kernel_rfl
/-- The lesser one. -/
def mi (a b : Int) : Int := if b < a then b else a
def cnt (n : Int) : Int := if 2147483647 < n then 0 else n
def mn (m : Int) (l : List Rc) : Int := l.foldl (fun m r => mi m (cnt r.ttl)) m
def soaOf (l : List Rc) : Option Rc := l.find? fun r => r.ty == 6
/-- An answer's life. -/
def lifeV (rc : Int) (an au ex : List Rc) : Int :=
  if rc ≠ 0 ∧ rc ≠ 3 then 0 else if rc = 0 ∧ an ≠ [] then mn 2147483647 (an ++ au ++ ex) else match soaOf au with | some r => mi (mn 2147483647 (an ++ au ++ ex)) (cnt r.n4) | none => 0
def Am.life (a : Am) : Int := lifeV a.rc a.an.l a.au.l a.ex.l
theorem mi_comm (a b c : Int) : mi (mi a b) c = mi (mi a c) b := by unfold mi; split <;> split <;> (try split) <;> (try split) <;> omega
theorem mn_mi (l : List Rc) : ∀ (m x : Int), mn (mi m x) l = mi (mn m l) x := by
  induction l with
  | nil => intro m x; rfl
  | cons r l ih =>
    intro m x
    simp only [mn, List.foldl_cons] at ih ⊢
    rw [mi_comm, ih]
theorem mn_append (m : Int) (l k : List Rc) : mn m (l ++ k) = mn (mn m l) k := by simp [mn]
theorem mn_snoc (m : Int) (l : List Rc) (r : Rc) : mn m (l ++ [r]) = mi (mn m l) (cnt r.ttl) := by simp [mn]
theorem mi_bd {a b : Int} (h0 : 0 ≤ a) (h1 : 0 ≤ b) : 0 ≤ mi a b ∧ mi a b ≤ a := by unfold mi; split <;> omega
theorem cnt_bd {n : Int} (h : 0 ≤ n) : 0 ≤ cnt n ∧ cnt n ≤ 2147483647 := by unfold cnt; split <;> omega
theorem mn_bd (l : List Rc) : ∀ (m : Int), 0 ≤ m → (∀ r ∈ l, r.ok) → 0 ≤ mn m l ∧ mn m l ≤ m := by
  induction l with
  | nil => intro m h _; exact ⟨h, Int.le_refl _⟩
  | cons r l ih =>
    intro m h hok
    have h1 := mi_bd h (cnt_bd (hok r (by simp)).ttl.1).1
    have h2 := ih (mi m (cnt r.ttl)) h1.1 (fun q hq => hok q (List.mem_cons_of_mem _ hq))
    simp only [mn, List.foldl_cons] at h2 ⊢
    omega
theorem life_bd (rc : Int) (an au ex : List Rc) (h1 : ∀ r ∈ an, r.ok) (h2 : ∀ r ∈ au, r.ok) (h3 : ∀ r ∈ ex, r.ok) : 0 ≤ lifeV rc an au ex ∧ lifeV rc an au ex ≤ 2147483647 := by
  have hall : ∀ r ∈ an ++ au ++ ex, r.ok := by
    intro r hr
    simp only [List.mem_append] at hr
    rcases hr with (h | h) | h
    · exact h1 r h
    · exact h2 r h
    · exact h3 r h
  have hm := mn_bd (an ++ au ++ ex) 2147483647 (by omega) hall
  unfold lifeV
  split
  · omega
  · split
    · omega
    · cases hs : soaOf au with
      | none => simp only; omega
      | some r =>
        have hr := h2 r (List.mem_of_find?_eq_some hs)
        have := mi_bd hm.1 (cnt_bd hr.n4.1).1
        simp only
        omega
/-- One record more, in part j. -/
def stp (j : Nat) (st : Int × Bool) (r : Rc) : Int × Bool :=
  if j = 1 ∧ r.ty = 6 ∧ st.2 = false then (mi (mi st.1 (cnt r.ttl)) (cnt r.n4), true) else (mi st.1 (cnt r.ttl), st.2)
def stAt (neg : Bool) (an au ex : List Rc) : Nat → Int × Bool
  | 0 => (2147483647, !neg)
  | 1 => an.foldl (stp 0) (2147483647, !neg)
  | 2 => au.foldl (stp 1) (an.foldl (stp 0) (2147483647, !neg))
  | _ => ex.foldl (stp 2) (au.foldl (stp 1) (an.foldl (stp 0) (2147483647, !neg)))
theorem fold_other {j : Nat} (hj : j ≠ 1) (l : List Rc) : ∀ st : Int × Bool, l.foldl (stp j) st = (mn st.1 l, st.2) := by
  induction l with
  | nil => intro st; rfl
  | cons r l ih =>
    intro st
    rw [List.foldl_cons, ih]
    unfold stp
    rw [if_neg (fun h => hj h.1)]
    rfl
theorem fold_found (l : List Rc) : ∀ m : Int, l.foldl (stp 1) (m, true) = (mn m l, true) := by
  induction l with
  | nil => intro m; rfl
  | cons r l ih =>
    intro m
    have e : stp 1 (m, true) r = (mi m (cnt r.ttl), true) := by unfold stp; rw [if_neg (by simp)]
    rw [List.foldl_cons, e, ih]
    rfl
theorem fold_neg (l : List Rc) : ∀ m : Int, l.foldl (stp 1) (m, false) = match soaOf l with | some r => (mi (mn m l) (cnt r.n4), true) | none => (mn m l, false) := by
  induction l with
  | nil => intro m; rfl
  | cons r l ih =>
    intro m
    rw [List.foldl_cons]
    by_cases h : r.ty = 6
    · have e : stp 1 (m, false) r = (mi (mi m (cnt r.ttl)) (cnt r.n4), true) := by unfold stp; rw [if_pos ⟨rfl, h, rfl⟩]
      rw [e, fold_found]
      have hs : soaOf (r :: l) = some r := by simp [soaOf, h]
      rw [hs]
      simp only
      rw [mn_mi]
      rfl
    · have e : stp 1 (m, false) r = (mi m (cnt r.ttl), false) := by unfold stp; rw [if_neg (fun hh => h hh.2.1)]
      rw [e, ih]
      have hs : soaOf (r :: l) = soaOf l := by simp [soaOf, h]
      rw [hs]
      rfl
theorem stAt_end (neg : Bool) (rc : Int) (an au ex : List Rc) (hrc : rc = 0 ∨ rc = 3) (hn : neg = (rc == 3 || (rc == 0 && an.isEmpty))) :
    (if (stAt neg an au ex 3).2 then (stAt neg an au ex 3).1 else 0) = lifeV rc an au ex := by
  simp only [stAt]
  rw [fold_other (j := 2) (by decide), fold_other (j := 0) (by decide)]
  simp only
  cases neg with
  | false =>
    have hrc0 : rc = 0 ∧ an ≠ [] := by
      rcases hrc with rfl | rfl
      · refine ⟨rfl, fun e => ?_⟩
        subst e
        simp at hn
      · simp at hn
    have e : lifeV rc an au ex = mn 2147483647 (an ++ au ++ ex) := by unfold lifeV; rw [if_neg (by simp [hrc0.1]), if_pos hrc0]
    rw [e]
    simp only [Bool.not_false]
    rw [fold_found, mn_append, mn_append]
    rfl
  | true =>
    have hrc0 : ¬ (rc = 0 ∧ an ≠ []) := by
      rintro ⟨rfl, h⟩
      cases an with
      | nil => exact h rfl
      | cons a l => simp at hn
    have e : lifeV rc an au ex = match soaOf au with | some r => mi (mn 2147483647 (an ++ au ++ ex)) (cnt r.n4) | none => 0 := by unfold lifeV; rw [if_neg (by rcases hrc with rfl | rfl <;> simp), if_neg hrc0]
    rw [e]
    simp only [Bool.not_true]
    rw [fold_neg]
    cases soaOf au with
    | none => simp
    | some r =>
      simp only
      rw [mn_mi, mn_append, mn_append]
      rfl
theorem seconds_ (w : World) (n : Int) (h0 : 0 ≤ n) (h1 : n < 4294967296) : Calls Try.prog 47 #[.int .u32 n] w fun e w' => e = .returned (.int .i64 (cnt n)) ∧ w' = w := by
  go_enter Try.func47, Try.ntmps47
  by_cases h : 2147483647 < n
  · have e : cnt n = 0 := if_pos h
    rw [e]
    go_wp2
    go_ret
    exact ⟨rfl, rfl⟩
  · have e : cnt n = n := if_neg h
    rw [e]
    go_wp2
    go_ret
    exact ⟨rfl, rfl⟩
theorem counts_ (w : World) (n : Int) (h0 : 0 ≤ n) (h1 : n < 4294967296) : Calls Try.prog 51 #[.int .u32 n] w fun e w' => e = .returned (.int .i64 (cnt n)) ∧ w' = w := by
  go_enter Try.func51, Try.ntmps51
  by_cases h : 2147483647 < n
  · have e : cnt n = 0 := if_pos h
    rw [e]
    go_wp2
    go_ret
    exact ⟨rfl, rfl⟩
  · have e : cnt n = n := if_neg h
    rw [e]
    go_wp2
    go_ret
    exact ⟨rfl, rfl⟩
theorem all_ (w : World) (a : Am) (ha : a.ok w) (hs : a.small) : Calls Try.prog 50 #[a.val] w fun e w' => ∃ v, e = .returned v ∧ w'.ownsRow w.heap.size 46 12 v (a.an.n + a.au.n + a.ex.n) (rcs (a.an.l ++ a.au.l ++ a.ex.l)) ∧ Below w.heap.size w w' := by
  have h1 := hs.an
  have h2 := hs.au
  have h3 := hs.ex
  unfold Am.val
  go_enter Try.func50, Try.ntmps50
  have hb0 := below_new w (.cells #[.int .u16 a.rc, .bool a.aa, .slice a.an.a a.an.n a.an.c, .slice a.au.a a.au.n a.au.c, .slice a.ex.a a.ex.n a.ex.c] 28)
  have hB := Blk.new w 28 #[.int .u16 a.rc, .bool a.aa, .slice a.an.a a.an.n a.an.c, .slice a.au.a a.au.n a.au.c, .slice a.ex.a a.ex.n a.ex.c]
  have hz0 : (w.alloc (.cells #[.int .u16 a.rc, .bool a.aa, .slice a.an.a a.an.n a.an.c, .slice a.au.a a.au.n a.au.c, .slice a.ex.a a.ex.n a.ex.c] 28)).heap.size = w.heap.size + 1 := World.size_alloc _ _
  have hr1 := ha.an.r.below hb0
  have hr2 := ha.au.r.below hb0
  have hr3 := ha.ex.r.below hb0
  have HZ := Lib.hid hz0
  clear hz0
  go_wp2_with (first | (at_builtin; refine wpList_app (w0 := w.alloc (.cells #[.int .u16 a.rc, .bool a.aa, .slice a.an.a a.an.n a.an.c, .slice a.au.a a.au.n a.au.c, .slice a.ex.a a.ex.n a.ex.c] 28)) _ (w.heap.size + 1) rfl (.tmp 4) (.tmp 6) 26 26 46 Rc.zero.val 12 96 rfl Try.underlying26 infoRec rfl (by omega) (by omega) (.slice none 0 0) 0 [] rfl (.own (World.ownsRow_nil _ _ _ _)) _ _ _ rfl (.slice hr1 (rcs_one _)) (by rw [← HZ.out]; exact Below.refl _ _) (by rw [HZ.out]; omega) (by omega) ?_; intro v1 w1 _ ho1 hb1 hg1; replace ho1 := ho1 (.inr (World.ownsRow_nil _ _ _ _)); rw [Nat.zero_add, List.nil_append] at ho1; rw [← HZ.out] at hb1; have k1 := (hB.below hb1).cell 3 _ rfl; have k2 := hr2.below hb1; have k3 := hr3.below hb1) | (at_builtin; refine wpList_app (w0 := w.alloc (.cells #[.int .u16 a.rc, .bool a.aa, .slice a.an.a a.an.n a.an.c, .slice a.au.a a.au.n a.au.c, .slice a.ex.a a.ex.n a.ex.c] 28)) _ (w.heap.size + 1) rfl (.tmp 8) (.tmp 10) 26 26 46 Rc.zero.val 12 96 rfl Try.underlying26 infoRec rfl (by omega) (by omega) v1 a.an.n _ rfl (.own ho1) _ _ _ rfl (.slice k2 (rcs_one _)) (by rw [← HZ.out]; exact hb1) (by rw [← HZ.out]; exact hb1.size) (by omega) ?_; intro v2 w2 _ ho2 hb2 hg2; replace ho2 := ho2 (.inr ho1); rw [← rcs_append] at ho2; rw [← HZ.out] at hb2; have j1 := (hB.below hb2).cell 4 _ rfl; have j3 := hr3.below hb2) | (at_builtin; refine wpList_app (w0 := w.alloc (.cells #[.int .u16 a.rc, .bool a.aa, .slice a.an.a a.an.n a.an.c, .slice a.au.a a.au.n a.au.c, .slice a.ex.a a.ex.n a.ex.c] 28)) _ (w.heap.size + 1) rfl (.tmp 12) (.tmp 14) 26 26 46 Rc.zero.val 12 96 rfl Try.underlying26 infoRec rfl (by omega) (by omega) v2 (a.an.n + a.au.n) _ rfl (.own ho2) _ _ _ rfl (.slice j3 (rcs_one _)) (by rw [← HZ.out]; exact hb2) (by rw [← HZ.out]; exact hb2.size) (by omega) ?_; intro v3 w3 _ ho3 hb3 hg3; replace ho3 := ho3 (.inr ho2); rw [← rcs_append] at ho3; rw [← HZ.out] at hb3))
  go_ret
  exact ⟨v3, rfl, by rw [← List.append_assoc]; exact own_lower ho3 (Nat.le_succ _), below_trans hb0 hb3⟩
end Go.Proofs.Ytioehogncgloiaa
