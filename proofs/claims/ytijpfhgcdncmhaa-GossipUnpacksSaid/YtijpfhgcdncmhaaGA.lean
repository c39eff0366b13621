/- gossip: packets and members as cells; the head, and what may be. -/
import Derived.Test.YtijpfhgcdncmhaaOct
import Derived.Test.YtijpfhgcdncmhaaRef
import Derived.Test.YtijpfhgcdncmhaaRG
namespace Go.Proofs.Ytijpfhgcdncmhaa
open Go.RowKit Go.HL
set_option linter.unusedVariables false
set_option linter.unusedSimpArgs false

def Tells (w : World) (v : Value) (e : Ending) (w' : World) : Prop := e = .returned v ∧ Below w.heap.size w w'
/-- A member. -/
structure Mb where
  ad : Int
  inc : Int
  st : Int
  me : ByteArray
def Mb.cells (m : Mb) : List Value := [.int .u32 m.ad, .int .u32 m.inc, .int .u8 m.st, .string m.me]
def Mb.val (m : Mb) : Value := .agg #[.int .u32 m.ad, .int .u32 m.inc, .int .u8 m.st, .string m.me]
structure Mb.ok (m : Mb) : Prop where
  a0 : 0 ≤ m.ad
  a1 : m.ad < 4294967296
  i0 : 0 ≤ m.inc
  i1 : m.inc < 4294967296
  s0 : 0 ≤ m.st
  s1 : m.st < 256
def mbs (l : List Mb) : List Value := l.flatMap Mb.cells
theorem mbs_elem : ∀ (l : List Mb) (i : Nat) (r : Mb), l[i]? = some r → ((mbs l).drop (i * 4)).take 4 = r.cells
  | [], i, r, h => by simp at h
  | x :: l, 0, r, h => by
    simp only [List.getElem?_cons_zero, Option.some.injEq] at h
    subst h
    simp only [mbs, List.flatMap_cons, Nat.zero_mul, List.drop_zero]
    exact List.take_left' rfl
  | x :: l, i + 1, r, h => by
    simp only [List.getElem?_cons_succ] at h
    have ih := mbs_elem l i r h
    simp only [mbs, List.flatMap_cons]
    rw [show (i + 1) * 4 = x.cells.length + i * 4 by simp [Mb.cells]; omega, ← List.drop_drop, List.drop_left]
    exact ih
theorem mbs_len (l : List Mb) : (mbs l).length = l.length * 4 := by
  induction l with
  | nil => rfl
  | cons x l ih => simp only [mbs, List.flatMap_cons, List.length_append, List.length_cons] at *; rw [ih]; simp [Mb.cells]; omega
theorem mbs_one (l : List Mb) : ∀ u ∈ mbs l, u.oneCell' = true := by
  intro u hu
  simp only [mbs, List.mem_flatMap] at hu
  obtain ⟨m, _, hm⟩ := hu
  simp only [Mb.cells, List.mem_cons, List.not_mem_nil, or_false] at hm
  rcases hm with rfl | rfl | rfl | rfl <;> rfl
theorem mbs_append (l m : List Mb) : mbs (l ++ m) = mbs l ++ mbs m := by simp [mbs]
theorem Rd.mb {w : World} {ad : Addr} {n c : Nat} {l : List Mb} (h : Rd w 4 (some ad) n c (mbs l)) (i : Nat) (r : Mb) (hr : l[i]? = some r) : Cells w (ad.add (i * 4)) r.cells := by
  have := ((h.cells ad rfl).drop (i * 4)).take 4
  rwa [mbs_elem l i r hr] at this
theorem Rd.mbs {w : World} {A : Option Addr} {n c : Nat} {l : List Mb} (h : Rd w 4 A n c (mbs l)) : l.length = n := by
  have := h.len
  rw [mbs_len] at this
  omega
/-- A packet. -/
def pkCells (k s t : Int) (A : Option Addr) (n c : Nat) : List Value := [.int .u8 k, .int .u32 s, .int .u32 t, .slice A n c]
def pkVal (k s t : Int) (A : Option Addr) (n c : Nat) : Value := .agg #[.int .u8 k, .int .u32 s, .int .u32 t, .slice A n c]
theorem sizePk : (Try.prog.info? 26).map (·.size) = some 4 := by kernel_rfl
theorem sizeMb : (Try.prog.info? 41).map (·.size) = some 4 := by kernel_rfl

/-- May a kind and a target be? -/
def headB (k t : Int) : Bool := decide (1 ≤ k) && (decide (k ≤ 6) && (decide (t = 0) || decide (k = 2)))
def mayB (m : Mb) : Bool := decide (m.st ≤ 3) && decide (m.me.size ≤ 400)
theorem head_ (w : World) (k t : Int) :
    Calls Try.prog 13 #[.int .u8 k, .int .u32 t] w fun e w' => e = .returned (.bool (headB k t)) ∧ w = w' := by
  unfold headB
  by_cases h1 : 1 ≤ k
  · by_cases h2 : k ≤ 6
    · by_cases h3 : t = 0
      · subst h3
        go_enter Try.func13, Try.ntmps13
        go_wp2
        go_ret
        simp [h1, h2] <;> (intros; omega)
      · by_cases h4 : k = 2
        · subst h4
          go_enter Try.func13, Try.ntmps13
          go_wp2
          go_ret
          simp
        · go_enter Try.func13, Try.ntmps13
          go_wp2
          go_ret
          simp [h1, h2, h3, h4] <;> (intros; omega)
    · go_enter Try.func13, Try.ntmps13
      go_wp2
      go_ret
      simp [h1, h2] <;> (intros; omega)
  · go_enter Try.func13, Try.ntmps13
    go_wp2
    go_ret
    simp [h1] <;> (intros; omega)
theorem rhead_ (w : World) (k t : Int) :
    Calls Try.prog 18 #[.int .u8 k, .int .u32 t] w fun e w' => e = .returned (.bool (headB k t)) ∧ w = w' := by
  unfold headB
  by_cases h1 : 1 ≤ k
  · by_cases h2 : k ≤ 6
    · by_cases h3 : t = 0
      · subst h3
        go_enter Try.func18, Try.ntmps18
        go_wp2
        go_ret
        simp [h1, h2] <;> (intros; omega)
      · by_cases h4 : k = 2
        · subst h4
          go_enter Try.func18, Try.ntmps18
          go_wp2
          go_ret
          simp
        · go_enter Try.func18, Try.ntmps18
          go_wp2
          go_ret
          simp [h1, h2, h3, h4] <;> (intros; omega)
    · go_enter Try.func18, Try.ntmps18
      go_wp2
      go_ret
      simp [h1, h2] <;> (intros; omega)
  · go_enter Try.func18, Try.ntmps18
    go_wp2
    go_ret
    simp [h1] <;> (intros; omega)
theorem may_ (w : World) (s n : Int) :
    Calls Try.prog 16 #[.int .u8 s, .int .i64 n] w fun e w' => e = .returned (.bool (decide (s ≤ 3) && decide (n ≤ 400))) ∧ w = w' := by
  by_cases h1 : s ≤ 3
  · by_cases h2 : n ≤ 400
    · go_enter Try.func16, Try.ntmps16
      go_wp2
      go_ret
      simp [h1, h2] <;> (intros; omega)
    · go_enter Try.func16, Try.ntmps16
      go_wp2
      go_ret
      simp [h1, h2] <;> (intros; omega)
  · go_enter Try.func16, Try.ntmps16
    go_wp2
    go_ret
    simp [h1] <;> (intros; omega)
theorem rmay_ (w : World) (m : Mb) :
    Calls Try.prog 19 #[m.val] w (Tells w (.bool (mayB m))) := by
  unfold mayB Mb.val
  have hb := below_new w (.cells m.cells.toArray 41)
  by_cases h1 : m.st ≤ 3
  · by_cases h2 : m.me.size ≤ 400
    · have h2' : (m.me.size : Int) ≤ 400 := by omega
      go_enter Try.func19, Try.ntmps19
      go_wp2
      go_ret
      exact ⟨by simp [h1, h2], hb⟩
    · have h2' : ¬ (m.me.size : Int) ≤ 400 := by omega
      go_enter Try.func19, Try.ntmps19
      go_wp2
      go_ret
      exact ⟨by simp [h1, h2], hb⟩
  · go_enter Try.func19, Try.ntmps19
    go_wp2
    go_ret
    exact ⟨by simp [h1] <;> (intros; omega), hb⟩
end Go.Proofs.Ytijpfhgcdncmhaa
