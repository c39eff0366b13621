/- A linked row of entries in memory. -/
import Derived.Test.YtioehogncgloiaaCB
import Derived.Test.YtioehogncgloiaaHF
import Derived.BigRegion
namespace Go.Proofs.Ytioehogncgloiaa
open Go.RowKit Go.HL
set_option linter.unusedVariables false
set_option linter.unusedSimpArgs false
/-- An entry: its key, its answer as it was put, when, and its life. -/
structure Ae where
  key : Qn
  rc : Int
  an : List Rc
  au : List Rc
  ex : List Rc
  put : Int
  life : Int
/-- An entry in memory: its block, and its three rows. -/
structure Ce where
  b : Nat
  e : Ae
  v1 : Value
  v2 : Value
  v3 : Value
def ptr (o : Option Nat) : Value := .pointer (o.map fun b => ⟨b, 0, none⟩)
def Ce.pay (c : Ce) : List Value := [.string c.e.key.nm, .int .u16 c.e.key.ty, .int .u16 c.e.key.cl, .int .u16 c.e.rc, .bool false, c.v1, c.v2, c.v3, .int .i64 c.e.put, .int .i64 (c.e.put + c.e.life * 10)]
def hd : List Ce → Option Nat → Option Nat
  | [], t => t
  | c :: _, _ => some c.b
def lst : Option Nat → List Ce → Option Nat
  | p, [] => p
  | _, c :: l => lst (some c.b) l
def Lk (W : World) : Option Nat → List Ce → Option Nat → Prop
  | _, [], _ => True
  | p, c :: l, t => Blk W c.b 86 (ptr p :: ptr (hd l t) :: c.pay) ∧ Lk W (some c.b) l t
theorem hd_append (l m : List Ce) (t : Option Nat) : hd (l ++ m) t = hd l (hd m t) := by cases l <;> rfl
theorem lst_append : ∀ (l m : List Ce) (p : Option Nat), lst p (l ++ m) = lst (lst p l) m
  | [], _, _ => rfl
  | c :: l, m, p => lst_append l m (some c.b)
theorem lst_snoc (l : List Ce) (c : Ce) (p : Option Nat) : lst p (l ++ [c]) = some c.b := by rw [lst_append]; rfl
theorem Lk.append {W : World} : ∀ {l m : List Ce} {p t : Option Nat}, Lk W p (l ++ m) t ↔ Lk W p l (hd m t) ∧ Lk W (lst p l) m t
  | [], m, p, t => by simp [Lk, lst]
  | c :: l, m, p, t => by
    have ih := Lk.append (W := W) (l := l) (m := m) (p := some c.b) (t := t)
    simp only [List.cons_append, Lk, lst]
    rw [ih, hd_append, and_assoc]
theorem Lk.fr {S : Nat → Prop} {W W' : World} (k : Fr S W W') : ∀ {l : List Ce} {p t : Option Nat}, Lk W p l t → (∀ c ∈ l, ¬ S c.b) → Lk W' p l t
  | [], _, _, _, _ => trivial
  | c :: l, p, t, h, hn => ⟨h.1.fr k (hn c (by simp)), Lk.fr k h.2 (fun d hd => hn d (List.mem_cons_of_mem _ hd))⟩
theorem fr_set (W : World) (g j : Nat) (v : Value) : Fr (fun k => k = g) W (W.setCell ⟨g, j, none⟩ v) := (Fr.refl _ W).setCell g j v (.inl rfl)
theorem Lk.set_other {W : World} {l : List Ce} {p t : Option Nat} (h : Lk W p l t) (g j : Nat) (v : Value) (hn : ∀ c ∈ l, c.b ≠ g) : Lk (W.setCell ⟨g, j, none⟩ v) p l t :=
  h.fr (fr_set W g j v) hn
theorem Lk.drew {W : World} {l : List Ce} {p t : Option Nat} (h : Lk W p l t) : Lk W.drew p l t := h.fr ((Fr.refl (fun _ => False) W).drew) (fun _ _ h => h)
/-- The last one's pointer is set. -/
theorem Lk.setTail {W : World} {l : List Ce} {c : Ce} {p t : Option Nat} (h : Lk W p (l ++ [c]) t) (hn : ∀ d ∈ l, d.b ≠ c.b) (t' : Option Nat) : Lk (W.setCell ⟨c.b, 1, none⟩ (ptr t')) p (l ++ [c]) t' := by
  rw [Lk.append] at h ⊢
  obtain ⟨h1, h2, _⟩ := h
  exact ⟨h1.set_other _ _ _ hn, h2.set 1 _, trivial⟩
/-- The first one's pointer is set. -/
theorem Lk.setHead {W : World} {l : List Ce} {c : Ce} {p t : Option Nat} (h : Lk W p (c :: l) t) (hn : ∀ d ∈ l, d.b ≠ c.b) (p' : Option Nat) : Lk (W.setCell ⟨c.b, 0, none⟩ (ptr p')) p' (c :: l) t :=
  ⟨h.1.set 0 _, h.2.set_other _ _ _ hn⟩
theorem Lk.lt {W : World} : ∀ {l : List Ce} {p t : Option Nat}, Lk W p l t → ∀ c ∈ l, c.b < W.heap.size
  | [], _, _, _, _, h => by cases h
  | d :: l, p, t, h, c, hc => by
    rcases List.mem_cons.1 hc with rfl | hc
    · exact h.1.lt
    · exact Lk.lt h.2 c hc
theorem Lk.ne_blk {W : World} {g : Nat} {t' : TypeId} {ds : List Value} (hb : Blk W g t' ds) (hne : t' ≠ 86) : ∀ {l : List Ce} {p t : Option Nat}, Lk W p l t → ∀ c ∈ l, c.b ≠ g
  | [], _, _, _, _, h => by cases h
  | d :: l, p, t, h, c, hc => by
    rcases List.mem_cons.1 hc with rfl | hc
    · intro e
      have h1 : W.heap[c.b]? = _ := h.1
      have h2 : W.heap[g]? = _ := hb
      rw [e, h2] at h1
      cases h1
      exact hne rfl
    · exact Lk.ne_blk hb hne h.2 c hc
theorem Lk.blk_of {W : World} : ∀ {l : List Ce} {p t : Option Nat}, Lk W p l t → ∀ c ∈ l, ∃ cs, Blk W c.b 86 cs
  | [], _, _, _, _, h => by cases h
  | d :: l, p, t, h, c, hc => by
    rcases List.mem_cons.1 hc with rfl | hc
    · exact ⟨_, h.1⟩
    · exact Lk.blk_of h.2 c hc
theorem sizeLink : (Try.prog.info? 76).map (·.size) = some 2 := by kernel_rfl
/-- The cache's own cells. -/
def headC (l : List Ce) (bm : Nat) (room : Int) : List Value := [ptr (lst none l), ptr (hd l none), .map (some bm), .int .i64 room]
set_option maxHeartbeats 2000000 in
theorem out_ (W : World) (C bm : Nat) (room : Int) (l1 l2 : List Ce) (e : Ce) (hC : Blk W C 78 (headC (l1 ++ e :: l2) bm room)) (hL : Lk W none (l1 ++ e :: l2) none) (hnd : ((l1 ++ e :: l2).map Ce.b).Nodup) :
    Calls Try.prog 37 #[ptr (some C), ptr (some e.b)] W fun en W' => en = .returned (.tuple #[]) ∧ Blk W' C 78 (headC (l1 ++ l2) bm room) ∧ Lk W' none (l1 ++ l2) none ∧ Blk W' e.b 86 (ptr none :: ptr none :: e.pay) ∧ Fr (fun k => k = C ∨ k ∈ (l1 ++ e :: l2).map Ce.b) W W' := by
  have hCn := Lk.ne_blk hC (by decide) hL
  rw [Lk.append] at hL
  obtain ⟨hL1, hE, hL2⟩ := hL
  have hEC := hCn e (by simp)
  rcases List.eq_nil_or_concat l1 with rfl | ⟨l1, p, rfl⟩
  · cases l2 with
    | nil =>
      have e0 : W.cell? ⟨e.b, 0, none⟩ = some (.pointer none) := hE.cell 0 _ rfl
      have e1 : W.cell? ⟨e.b, 1, none⟩ = some (.pointer none) := hE.cell 1 _ rfl
      have c0 : W.cell? ⟨C, 0, none⟩ = some (ptr (lst none ([] ++ e :: []))) := hC.cell 0 _ rfl
      have c1 : W.cell? ⟨C, 1, none⟩ = some (ptr (hd ([] ++ e :: []) none)) := hC.cell 1 _ rfl
      have f0 := hC.free 0
      have f1 := hC.free 1
      have g0 := hE.free 0
      have g1 := hE.free 1
      have hEC' : C ≠ e.b := fun h => hEC h.symm
      have XC : Blk ((((W.setCell ⟨C, 1, none⟩ (ptr none)).setCell ⟨C, 0, none⟩ (ptr none)).setCell ⟨e.b, 0, none⟩ (ptr none)).setCell ⟨e.b, 1, none⟩ (ptr none)) C 78 (headC ([] ++ []) bm room) := by
        have h := ((((hC.set 1 (ptr none)).set 0 (ptr none)).set_other 0 (ptr none) hEC').set_other 1 (ptr none) hEC')
        exact h
      have XE : Blk ((((W.setCell ⟨C, 1, none⟩ (ptr none)).setCell ⟨C, 0, none⟩ (ptr none)).setCell ⟨e.b, 0, none⟩ (ptr none)).setCell ⟨e.b, 1, none⟩ (ptr none)) e.b 86 (ptr none :: ptr none :: e.pay) := ((((hE.set_other 1 (ptr none) hEC).set_other 0 (ptr none) hEC).set 0 (ptr none)).set 1 (ptr none))
      have XL : Lk ((((W.setCell ⟨C, 1, none⟩ (ptr none)).setCell ⟨C, 0, none⟩ (ptr none)).setCell ⟨e.b, 0, none⟩ (ptr none)).setCell ⟨e.b, 1, none⟩ (ptr none)) none ([] ++ []) none := trivial
      have XF : Fr (fun k => k = C ∨ k ∈ ([] ++ e :: []).map Ce.b) W ((((W.setCell ⟨C, 1, none⟩ (ptr none)).setCell ⟨C, 0, none⟩ (ptr none)).setCell ⟨e.b, 0, none⟩ (ptr none)).setCell ⟨e.b, 1, none⟩ (ptr none)) := (((((Fr.refl (fun k => k = C ∨ k ∈ ([] ++ e :: []).map Ce.b) W).setCell C 1 (ptr none) (.inl (by simp))).setCell C 0 (ptr none) (.inl (by simp))).setCell e.b 0 (ptr none) (.inl (by simp))).setCell e.b 1 (ptr none) (.inl (by simp)))
      have HX := Lib.hid (And.intro XC (And.intro XL (And.intro XE XF)))
      clear XC XL XE XF hnd hCn hC hE hL2
      unfold ptr at c0 c1
      unfold ptr
      go_enter Try.func37, Try.ntmps37
      go_wp2
      refine bodyPost_end (results_none rfl _ _ _) rfl ⟨rfl, ?_⟩
      exact HX.out
    | cons n l2 =>
      have hNC := hCn n (by simp)
      have hN := hL2.1
      have hNE : n.b ≠ e.b := by have := hnd; simp [List.nodup_append] at this; grind
      have hl2n : ∀ d ∈ l2, d.b ≠ n.b := by have := hnd; simp [List.nodup_append] at this; grind
      have hl2e : ∀ d ∈ n :: l2, d.b ≠ e.b := by have := hnd; simp [List.nodup_append] at this; grind
      have hl2C : ∀ d ∈ n :: l2, d.b ≠ C := fun d hd => hCn d (by simp at hd ⊢; grind)
      have e0 : W.cell? ⟨e.b, 0, none⟩ = some (.pointer none) := hE.cell 0 _ rfl
      have e1 : W.cell? ⟨e.b, 1, none⟩ = some (.pointer (some ⟨n.b, 0, none⟩)) := hE.cell 1 _ rfl
      have c0 : W.cell? ⟨C, 0, none⟩ = some (ptr (lst none ([] ++ e :: (n :: l2)))) := hC.cell 0 _ rfl
      have c1 : W.cell? ⟨C, 1, none⟩ = some (ptr (hd ([] ++ e :: (n :: l2)) none)) := hC.cell 1 _ rfl
      have f0 := hC.free 0
      have f1 := hC.free 1
      have g0 := hE.free 0
      have g1 := hE.free 1
      have hEC' : C ≠ e.b := fun h => hEC h.symm
      have n0 := hN.cell 0 _ rfl
      have fn := hN.free 0
      have hNE' : e.b ≠ n.b := fun h => hNE h.symm
      have hNC' : C ≠ n.b := fun h => hNC h.symm
      have XC : Blk ((((W.setCell ⟨C, 1, none⟩ (ptr (some n.b))).setCell ⟨n.b, 0, none⟩ (ptr none)).setCell ⟨e.b, 0, none⟩ (ptr none)).setCell ⟨e.b, 1, none⟩ (ptr none)) C 78 (headC ([] ++ (n :: l2)) bm room) := by
        have h := ((((hC.set 1 (ptr (some n.b))).set_other 0 (ptr none) hNC').set_other 0 (ptr none) hEC').set_other 1 (ptr none) hEC')
        exact h
      have XE : Blk ((((W.setCell ⟨C, 1, none⟩ (ptr (some n.b))).setCell ⟨n.b, 0, none⟩ (ptr none)).setCell ⟨e.b, 0, none⟩ (ptr none)).setCell ⟨e.b, 1, none⟩ (ptr none)) e.b 86 (ptr none :: ptr none :: e.pay) := ((((hE.set_other 1 (ptr (some n.b)) hEC).set_other 0 (ptr none) hNE').set 0 (ptr none)).set 1 (ptr none))
      have X2 : Lk ((((W.setCell ⟨C, 1, none⟩ (ptr (some n.b))).setCell ⟨n.b, 0, none⟩ (ptr none)).setCell ⟨e.b, 0, none⟩ (ptr none)).setCell ⟨e.b, 1, none⟩ (ptr none)) none (n :: l2) none := (((Lk.setHead (hL2.set_other C 1 (ptr (some n.b)) hl2C) hl2n none).set_other e.b 0 (ptr none) hl2e).set_other e.b 1 (ptr none) hl2e)
      have XL : Lk ((((W.setCell ⟨C, 1, none⟩ (ptr (some n.b))).setCell ⟨n.b, 0, none⟩ (ptr none)).setCell ⟨e.b, 0, none⟩ (ptr none)).setCell ⟨e.b, 1, none⟩ (ptr none)) none ([] ++ n :: l2) none := X2
      have XF : Fr (fun k => k = C ∨ k ∈ ([] ++ e :: (n :: l2)).map Ce.b) W ((((W.setCell ⟨C, 1, none⟩ (ptr (some n.b))).setCell ⟨n.b, 0, none⟩ (ptr none)).setCell ⟨e.b, 0, none⟩ (ptr none)).setCell ⟨e.b, 1, none⟩ (ptr none)) := (((((Fr.refl (fun k => k = C ∨ k ∈ ([] ++ e :: (n :: l2)).map Ce.b) W).setCell C 1 (ptr (some n.b)) (.inl (by simp))).setCell n.b 0 (ptr none) (.inl (by simp))).setCell e.b 0 (ptr none) (.inl (by simp))).setCell e.b 1 (ptr none) (.inl (by simp)))
      have HX := Lib.hid (And.intro XC (And.intro XL (And.intro XE XF)))
      clear XC XL XE XF X2 hN hl2n hl2e hl2C hnd hCn hC hE hL2
      unfold ptr at c0 c1
      unfold ptr
      go_enter Try.func37, Try.ntmps37
      go_wp2
      go_region
      go_wp2
      refine bodyPost_end (results_none rfl _ _ _) rfl ⟨rfl, ?_⟩
      obtain ⟨x1, x2, x3, x4⟩ := HX.out
      exact ⟨x1, x2.drew, x3, x4.drew⟩
  · rw [List.concat_eq_append] at *
    cases l2 with
    | nil =>
      have hPC := hCn p (by simp)
      have hL1' := hL1
      rw [Lk.append] at hL1'
      obtain ⟨hL1a, hP, _⟩ := hL1'
      have hPE : p.b ≠ e.b := by have := hnd; simp [List.nodup_append] at this; grind
      have hl1p : ∀ d ∈ l1, d.b ≠ p.b := by have := hnd; simp [List.nodup_append] at this; grind
      have hl1e : ∀ d ∈ l1 ++ [p], d.b ≠ e.b := by have := hnd; simp [List.nodup_append] at this; grind
      have hl1C : ∀ d ∈ l1 ++ [p], d.b ≠ C := fun d hd => hCn d (by simp at hd ⊢; grind)
      have e0 : W.cell? ⟨e.b, 0, none⟩ = some (.pointer (some ⟨p.b, 0, none⟩)) := hE.cell 0 _ (by rw [lst_snoc]; rfl)
      have e1 : W.cell? ⟨e.b, 1, none⟩ = some (.pointer none) := hE.cell 1 _ rfl
      have c0 : W.cell? ⟨C, 0, none⟩ = some (ptr (lst none ((l1 ++ [p]) ++ e :: []))) := hC.cell 0 _ rfl
      have c1 : W.cell? ⟨C, 1, none⟩ = some (ptr (hd ((l1 ++ [p]) ++ e :: []) none)) := hC.cell 1 _ rfl
      have f0 := hC.free 0
      have f1 := hC.free 1
      have g0 := hE.free 0
      have g1 := hE.free 1
      have hEC' : C ≠ e.b := fun h => hEC h.symm
      have p1 := hP.cell 1 _ rfl
      have fp := hP.free 1
      have hPE' : e.b ≠ p.b := fun h => hPE h.symm
      have hPC' : C ≠ p.b := fun h => hPC h.symm
      have XC : Blk ((((W.setCell ⟨p.b, 1, none⟩ (ptr none)).setCell ⟨C, 0, none⟩ (ptr (some p.b))).setCell ⟨e.b, 0, none⟩ (ptr none)).setCell ⟨e.b, 1, none⟩ (ptr none)) C 78 (headC ((l1 ++ [p]) ++ []) bm room) := by
        have h := ((((hC.set_other 1 (ptr none) hPC').set 0 (ptr (some p.b))).set_other 0 (ptr none) hEC').set_other 1 (ptr none) hEC')
        have e1 : lst none (l1 ++ [p] ++ []) = some p.b := by rw [List.append_nil, lst_snoc]
        have e2 : hd (l1 ++ [p] ++ [e]) none = hd (l1 ++ [p] ++ []) none := by cases l1 <;> rfl
        unfold headC at h ⊢; rw [e2] at h; rw [e1]; exact h
      have XE : Blk ((((W.setCell ⟨p.b, 1, none⟩ (ptr none)).setCell ⟨C, 0, none⟩ (ptr (some p.b))).setCell ⟨e.b, 0, none⟩ (ptr none)).setCell ⟨e.b, 1, none⟩ (ptr none)) e.b 86 (ptr none :: ptr none :: e.pay) := ((((hE.set_other 1 (ptr none) hPE').set_other 0 (ptr (some p.b)) hEC).set 0 (ptr none)).set 1 (ptr none))
      have X1 : Lk ((((W.setCell ⟨p.b, 1, none⟩ (ptr none)).setCell ⟨C, 0, none⟩ (ptr (some p.b))).setCell ⟨e.b, 0, none⟩ (ptr none)).setCell ⟨e.b, 1, none⟩ (ptr none)) none (l1 ++ [p]) none := ((((hL1.setTail hl1p none).set_other C 0 (ptr (some p.b)) hl1C).set_other e.b 0 (ptr none) hl1e).set_other e.b 1 (ptr none) hl1e)
      have XL : Lk ((((W.setCell ⟨p.b, 1, none⟩ (ptr none)).setCell ⟨C, 0, none⟩ (ptr (some p.b))).setCell ⟨e.b, 0, none⟩ (ptr none)).setCell ⟨e.b, 1, none⟩ (ptr none)) none (l1 ++ [p] ++ []) none := by rw [List.append_nil]; exact X1
      have XF : Fr (fun k => k = C ∨ k ∈ ((l1 ++ [p]) ++ e :: []).map Ce.b) W ((((W.setCell ⟨p.b, 1, none⟩ (ptr none)).setCell ⟨C, 0, none⟩ (ptr (some p.b))).setCell ⟨e.b, 0, none⟩ (ptr none)).setCell ⟨e.b, 1, none⟩ (ptr none)) := (((((Fr.refl (fun k => k = C ∨ k ∈ ((l1 ++ [p]) ++ e :: []).map Ce.b) W).setCell p.b 1 (ptr none) (.inl (by simp))).setCell C 0 (ptr (some p.b)) (.inl (by simp))).setCell e.b 0 (ptr none) (.inl (by simp))).setCell e.b 1 (ptr none) (.inl (by simp)))
      have HX := Lib.hid (And.intro XC (And.intro XL (And.intro XE XF)))
      clear XC XL XE XF X1 hL1a hP hL1 hl1p hl1e hl1C hnd hCn hC hE hL2
      unfold ptr at c0 c1
      unfold ptr
      go_enter Try.func37, Try.ntmps37
      go_wp2
      go_region
      go_wp2
      refine bodyPost_end (results_none rfl _ _ _) rfl ⟨rfl, ?_⟩
      obtain ⟨x1, x2, x3, x4⟩ := HX.out
      exact ⟨x1, x2.drew, x3, x4.drew⟩
    | cons n l2 =>
      have hPC := hCn p (by simp)
      have hL1' := hL1
      rw [Lk.append] at hL1'
      obtain ⟨hL1a, hP, _⟩ := hL1'
      have hPE : p.b ≠ e.b := by have := hnd; simp [List.nodup_append] at this; grind
      have hl1p : ∀ d ∈ l1, d.b ≠ p.b := by have := hnd; simp [List.nodup_append] at this; grind
      have hl1e : ∀ d ∈ l1 ++ [p], d.b ≠ e.b := by have := hnd; simp [List.nodup_append] at this; grind
      have hl1C : ∀ d ∈ l1 ++ [p], d.b ≠ C := fun d hd => hCn d (by simp at hd ⊢; grind)
      have hNC := hCn n (by simp)
      have hN := hL2.1
      have hNE : n.b ≠ e.b := by have := hnd; simp [List.nodup_append] at this; grind
      have hl2n : ∀ d ∈ l2, d.b ≠ n.b := by have := hnd; simp [List.nodup_append] at this; grind
      have hl2e : ∀ d ∈ n :: l2, d.b ≠ e.b := by have := hnd; simp [List.nodup_append] at this; grind
      have hl2C : ∀ d ∈ n :: l2, d.b ≠ C := fun d hd => hCn d (by simp at hd ⊢; grind)
      have hPN : p.b ≠ n.b := by have := hnd; simp [List.nodup_append] at this; grind
      have hl1n : ∀ d ∈ l1 ++ [p], d.b ≠ n.b := by have := hnd; simp [List.nodup_append] at this; grind
      have hl2p : ∀ d ∈ n :: l2, d.b ≠ p.b := by have := hnd; simp [List.nodup_append] at this; grind
      have e0 : W.cell? ⟨e.b, 0, none⟩ = some (.pointer (some ⟨p.b, 0, none⟩)) := hE.cell 0 _ (by rw [lst_snoc]; rfl)
      have e1 : W.cell? ⟨e.b, 1, none⟩ = some (.pointer (some ⟨n.b, 0, none⟩)) := hE.cell 1 _ rfl
      have c0 : W.cell? ⟨C, 0, none⟩ = some (ptr (lst none ((l1 ++ [p]) ++ e :: (n :: l2)))) := hC.cell 0 _ rfl
      have c1 : W.cell? ⟨C, 1, none⟩ = some (ptr (hd ((l1 ++ [p]) ++ e :: (n :: l2)) none)) := hC.cell 1 _ rfl
      have f0 := hC.free 0
      have f1 := hC.free 1
      have g0 := hE.free 0
      have g1 := hE.free 1
      have hEC' : C ≠ e.b := fun h => hEC h.symm
      have p1 := hP.cell 1 _ rfl
      have fp := hP.free 1
      have hPE' : e.b ≠ p.b := fun h => hPE h.symm
      have hPC' : C ≠ p.b := fun h => hPC h.symm
      have n0 := hN.cell 0 _ rfl
      have fn := hN.free 0
      have hNE' : e.b ≠ n.b := fun h => hNE h.symm
      have hNC' : C ≠ n.b := fun h => hNC h.symm
      have hPN' : n.b ≠ p.b := fun h => hPN h.symm
      have XC : Blk ((((W.setCell ⟨p.b, 1, none⟩ (ptr (some n.b))).setCell ⟨n.b, 0, none⟩ (ptr (some p.b))).setCell ⟨e.b, 0, none⟩ (ptr none)).setCell ⟨e.b, 1, none⟩ (ptr none)) C 78 (headC ((l1 ++ [p]) ++ (n :: l2)) bm room) := by
        have h := ((((hC.set_other 1 (ptr (some n.b)) hPC').set_other 0 (ptr (some p.b)) hNC').set_other 0 (ptr none) hEC').set_other 1 (ptr none) hEC')
        have e1 : lst none (l1 ++ [p] ++ e :: n :: l2) = lst none (l1 ++ [p] ++ n :: l2) := by rw [lst_append (l1 ++ [p]), lst_append (l1 ++ [p])]; rfl
        have e2 : hd (l1 ++ [p] ++ e :: n :: l2) none = hd (l1 ++ [p] ++ n :: l2) none := by cases l1 <;> rfl
        unfold headC at h ⊢; rw [e1, e2] at h; exact h
      have XE : Blk ((((W.setCell ⟨p.b, 1, none⟩ (ptr (some n.b))).setCell ⟨n.b, 0, none⟩ (ptr (some p.b))).setCell ⟨e.b, 0, none⟩ (ptr none)).setCell ⟨e.b, 1, none⟩ (ptr none)) e.b 86 (ptr none :: ptr none :: e.pay) := ((((hE.set_other 1 (ptr (some n.b)) hPE').set_other 0 (ptr (some p.b)) hNE').set 0 (ptr none)).set 1 (ptr none))
      have X1 : Lk ((((W.setCell ⟨p.b, 1, none⟩ (ptr (some n.b))).setCell ⟨n.b, 0, none⟩ (ptr (some p.b))).setCell ⟨e.b, 0, none⟩ (ptr none)).setCell ⟨e.b, 1, none⟩ (ptr none)) none (l1 ++ [p]) (some n.b) := ((((hL1.setTail hl1p (some n.b)).set_other n.b 0 (ptr (some p.b)) hl1n).set_other e.b 0 (ptr none) hl1e).set_other e.b 1 (ptr none) hl1e)
      have X2 : Lk ((((W.setCell ⟨p.b, 1, none⟩ (ptr (some n.b))).setCell ⟨n.b, 0, none⟩ (ptr (some p.b))).setCell ⟨e.b, 0, none⟩ (ptr none)).setCell ⟨e.b, 1, none⟩ (ptr none)) (some p.b) (n :: l2) none := (((Lk.setHead (hL2.set_other p.b 1 (ptr (some n.b)) hl2p) hl2n (some p.b)).set_other e.b 0 (ptr none) hl2e).set_other e.b 1 (ptr none) hl2e)
      have XL : Lk ((((W.setCell ⟨p.b, 1, none⟩ (ptr (some n.b))).setCell ⟨n.b, 0, none⟩ (ptr (some p.b))).setCell ⟨e.b, 0, none⟩ (ptr none)).setCell ⟨e.b, 1, none⟩ (ptr none)) none (l1 ++ [p] ++ n :: l2) none := by rw [Lk.append, lst_snoc]; exact ⟨X1, X2⟩
      have XF : Fr (fun k => k = C ∨ k ∈ ((l1 ++ [p]) ++ e :: (n :: l2)).map Ce.b) W ((((W.setCell ⟨p.b, 1, none⟩ (ptr (some n.b))).setCell ⟨n.b, 0, none⟩ (ptr (some p.b))).setCell ⟨e.b, 0, none⟩ (ptr none)).setCell ⟨e.b, 1, none⟩ (ptr none)) := (((((Fr.refl (fun k => k = C ∨ k ∈ ((l1 ++ [p]) ++ e :: (n :: l2)).map Ce.b) W).setCell p.b 1 (ptr (some n.b)) (.inl (by simp))).setCell n.b 0 (ptr (some p.b)) (.inl (by simp))).setCell e.b 0 (ptr none) (.inl (by simp))).setCell e.b 1 (ptr none) (.inl (by simp)))
      have HX := Lib.hid (And.intro XC (And.intro XL (And.intro XE XF)))
      clear XC XL XE XF X1 hL1a hP hL1 hl1p hl1e hl1C X2 hN hl2n hl2e hl2C hl1n hl2p hnd hCn hC hE hL2
      unfold ptr at c0 c1
      unfold ptr
      go_enter Try.func37, Try.ntmps37
      go_wp2
      go_region
      go_wp2
      go_region
      go_wp2
      refine bodyPost_end (results_none rfl _ _ _) rfl ⟨rfl, ?_⟩
      obtain ⟨x1, x2, x3, x4⟩ := HX.out
      exact ⟨x1, x2.drew.drew, x3, x4.drew.drew⟩
set_option maxHeartbeats 2000000 in
theorem last_ (W : World) (C bm : Nat) (room : Int) (l : List Ce) (e : Ce) (hC : Blk W C 78 (headC l bm room)) (hL : Lk W none l none) (hE : Blk W e.b 86 (ptr none :: ptr none :: e.pay)) (hnd : ((l ++ [e]).map Ce.b).Nodup) :
    Calls Try.prog 36 #[ptr (some C), ptr (some e.b)] W fun en W' => en = .returned (.tuple #[]) ∧ Blk W' C 78 (headC (l ++ [e]) bm room) ∧ Lk W' none (l ++ [e]) none ∧ Fr (fun k => k = C ∨ k ∈ (l ++ [e]).map Ce.b) W W' := by
  have hCn := Lk.ne_blk hC (by decide) hL
  have hEC : e.b ≠ C := Lk.ne_blk (p := none) (t := none) hC (by decide) (show Lk W none [e] none from ⟨hE, trivial⟩) e (by simp)
  have hEC' : C ≠ e.b := fun h => hEC h.symm
  have c0 : W.cell? ⟨C, 0, none⟩ = some (ptr (lst none l)) := hC.cell 0 _ rfl
  have c1 : W.cell? ⟨C, 1, none⟩ = some (ptr (hd l none)) := hC.cell 1 _ rfl
  have e0 : W.cell? ⟨e.b, 0, none⟩ = some (.pointer none) := hE.cell 0 _ rfl
  have f0 := hC.free 0
  have f1 := hC.free 1
  have g0 := hE.free 0
  have g1 := hE.free 1
  rcases List.eq_nil_or_concat l with rfl | ⟨l, p, rfl⟩
  · have XC : Blk (((W.setCell ⟨e.b, 0, none⟩ (ptr none)).setCell ⟨C, 1, none⟩ (ptr (some e.b))).setCell ⟨C, 0, none⟩ (ptr (some e.b))) C 78 (headC ([] ++ [e]) bm room) := ((hC.set_other 0 (ptr none) hEC').set 1 (ptr (some e.b))).set 0 (ptr (some e.b))
    have XE : Lk (((W.setCell ⟨e.b, 0, none⟩ (ptr none)).setCell ⟨C, 1, none⟩ (ptr (some e.b))).setCell ⟨C, 0, none⟩ (ptr (some e.b))) none ([] ++ [e]) none := ⟨((hE.set 0 (ptr none)).set_other 1 (ptr (some e.b)) hEC).set_other 0 (ptr (some e.b)) hEC, trivial⟩
    have XF : Fr (fun k => k = C ∨ k ∈ ([] ++ [e]).map Ce.b) W (((W.setCell ⟨e.b, 0, none⟩ (ptr none)).setCell ⟨C, 1, none⟩ (ptr (some e.b))).setCell ⟨C, 0, none⟩ (ptr (some e.b))) := (((Fr.refl _ W).setCell e.b 0 (ptr none) (.inl (by simp))).setCell C 1 (ptr (some e.b)) (.inl (by simp))).setCell C 0 (ptr (some e.b)) (.inl (by simp))
    have HX := Lib.hid (And.intro XC (And.intro XE XF))
    clear XC XE XF hnd hCn hC hE hL
    replace c0 : W.cell? ⟨C, 0, none⟩ = some (.pointer none) := c0
    unfold ptr at c1
    unfold ptr
    go_enter Try.func36, Try.ntmps36
    go_wp2
    refine bodyPost_end (results_none rfl _ _ _) rfl ⟨rfl, ?_⟩
    exact HX.out
  · rw [List.concat_eq_append] at *
    have hPC := hCn p (by simp)
    have hPC' : C ≠ p.b := fun h => hPC h.symm
    have hL' := hL
    rw [Lk.append] at hL'
    obtain ⟨_, hP, _⟩ := hL'
    have hPE : p.b ≠ e.b := by have := hnd; simp [List.nodup_append] at this; grind
    have hPE' : e.b ≠ p.b := fun h => hPE h.symm
    have hlp : ∀ d ∈ l, d.b ≠ p.b := by have := hnd; simp [List.nodup_append] at this; grind
    have hle : ∀ d ∈ l ++ [p], d.b ≠ e.b := by have := hnd; simp [List.nodup_append] at this; grind
    have hlC : ∀ d ∈ l ++ [p], d.b ≠ C := fun d hd => hCn d (by simp at hd ⊢; grind)
    have p1 := hP.cell 1 _ rfl
    have fp := hP.free 1
    have XC : Blk (((W.setCell ⟨e.b, 0, none⟩ (ptr (some p.b))).setCell ⟨p.b, 1, none⟩ (ptr (some e.b))).setCell ⟨C, 0, none⟩ (ptr (some e.b))) C 78 (headC (l ++ [p] ++ [e]) bm room) := by
      have h := ((hC.set_other 0 (ptr (some p.b)) hEC').set_other 1 (ptr (some e.b)) hPC').set 0 (ptr (some e.b))
      have e2 : hd (l ++ [p] ++ [e]) none = hd (l ++ [p]) none := by cases l <;> rfl
      unfold headC at h ⊢
      rw [e2, lst_snoc]
      exact h
    have X1 := ((hL.set_other e.b 0 (ptr (some p.b)) hle).setTail hlp (some e.b)).set_other C 0 (ptr (some e.b)) hlC
    have X2 := ((hE.set 0 (ptr (some p.b))).set_other 1 (ptr (some e.b)) hPE').set_other 0 (ptr (some e.b)) hEC
    have XL : Lk (((W.setCell ⟨e.b, 0, none⟩ (ptr (some p.b))).setCell ⟨p.b, 1, none⟩ (ptr (some e.b))).setCell ⟨C, 0, none⟩ (ptr (some e.b))) none (l ++ [p] ++ [e]) none := by
      rw [Lk.append, lst_snoc]
      exact ⟨X1, X2, trivial⟩
    have XF : Fr (fun k => k = C ∨ k ∈ (l ++ [p] ++ [e]).map Ce.b) W (((W.setCell ⟨e.b, 0, none⟩ (ptr (some p.b))).setCell ⟨p.b, 1, none⟩ (ptr (some e.b))).setCell ⟨C, 0, none⟩ (ptr (some e.b))) := (((Fr.refl _ W).setCell e.b 0 (ptr (some p.b)) (.inl (by simp))).setCell p.b 1 (ptr (some e.b)) (.inl (by simp))).setCell C 0 (ptr (some e.b)) (.inl (by simp))
    have HX := Lib.hid (And.intro XC (And.intro XL XF))
    replace c0 : W.cell? ⟨C, 0, none⟩ = some (.pointer (some ⟨p.b, 0, none⟩)) := by rw [lst_snoc] at c0; exact c0
    clear XC XL XF X1 X2 hnd hCn hC hE hL hP hlp hle hlC
    unfold ptr at c1
    unfold ptr
    go_enter Try.func36, Try.ntmps36
    go_wp2
    refine bodyPost_end (results_none rfl _ _ _) rfl ⟨rfl, ?_⟩
    exact HX.out
end Go.Proofs.Ytioehogncgloiaa
