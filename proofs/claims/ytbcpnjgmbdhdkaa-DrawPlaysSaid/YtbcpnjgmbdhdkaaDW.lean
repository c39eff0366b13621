/- Words for sources of draws: what stands in memory, and what is drawn in plain numbers. -/
import Derived.Test.YtbcpnjgmbdhdkaaHL
import Derived.Deep.RegionLaw
import Derived.ChangeSlices
namespace Go.HL
open Go.RowKit Go.ChangeShapes
set_option linter.unusedVariables false
set_option linter.unusedSimpArgs false

/-- Numbers of 32 bits as cells. -/
def us (l : List Int) : List Value := l.map (Value.int .u32)
theorem us_length (l : List Int) : (us l).length = l.length := by simp [us]
theorem us_one (l : List Int) : ∀ u ∈ us l, u.oneCell' = true := by
  intro u hu
  simp only [us, List.mem_map] at hu
  obtain ⟨b, _, rfl⟩ := hu
  rfl
theorem us_append (l m : List Int) : us (l ++ m) = us l ++ us m := by simp [us]
theorem us_take (l : List Int) (k : Nat) : (us l).take k = us (l.take k) := by simp [us]
theorem us_drop (l : List Int) (k : Nat) : (us l).drop k = us (l.drop k) := by simp [us]

/-- A block of two cells. -/
theorem cell_two0 {w : World} {g : Nat} {x y : Value} {T : TypeId} (h : w.heap[g]? = some (.cells #[x, y] T (0, 0))) : w.cell? ⟨g, 0, none⟩ = some x := by rw [cell_of_row w g 0 _ _ _ h]; rfl
theorem cell_two1 {w : World} {g : Nat} {x y : Value} {T : TypeId} (h : w.heap[g]? = some (.cells #[x, y] T (0, 0))) : w.cell? ⟨g, 1, none⟩ = some y := by rw [cell_of_row w g 1 _ _ _ h]; rfl
theorem free_row {w : World} {g : Nat} {cs : Array Value} {T : TypeId} (h : w.heap[g]? = some (.cells cs T (0, 0))) (j : Nat) : w.frozen? ⟨g, j, none⟩ = false := by
  simp [World.frozen?, h]
theorem heap_set0 {w : World} {g : Nat} {x y u : Value} {T : TypeId} (h : w.heap[g]? = some (.cells #[x, y] T (0, 0))) : (w.setCell ⟨g, 0, none⟩ u).heap[g]? = some (.cells #[u, y] T (0, 0)) := by
  simp [World.setCell, Array.getElem?_modify, h]
theorem heap_set1 {w : World} {g : Nat} {x y u : Value} {T : TypeId} (h : w.heap[g]? = some (.cells #[x, y] T (0, 0))) : (w.setCell ⟨g, 1, none⟩ u).heap[g]? = some (.cells #[x, u] T (0, 0)) := by
  simp [World.setCell, Array.getElem?_modify, h]

/-- A source at block g: the numbers that are left, and the last one. -/
def SrcAt (T : TypeId) (ok : Nat → Prop) (w : World) (g : Nat) (l : List Int) (last : Int) : Prop :=
  ∃ A n c, w.heap[g]? = some (.cells #[.slice A n c, .int .u32 last] T (0, 0)) ∧ Rd w 1 A n c (us l) ∧ ∀ a, A = some a → a.block ≠ g ∧ ok a.block
theorem SrcAt.mono {T : TypeId} {ok ok' : Nat → Prop} {w : World} {g : Nat} {l : List Int} {last : Int} (h : SrcAt T ok w g l last) (hm : ∀ k, ok k → ok' k) : SrcAt T ok' w g l last := by
  obtain ⟨A, n, c, h1, h2, h3⟩ := h
  exact ⟨A, n, c, h1, h2, fun a ha => ⟨(h3 a ha).1, hm _ (h3 a ha).2⟩⟩
theorem SrcAt.lt {T : TypeId} {ok : Nat → Prop} {w : World} {g : Nat} {l : List Int} {last : Int} (h : SrcAt T ok w g l last) : g < w.heap.size := by
  obtain ⟨A, n, c, h1, _⟩ := h
  exact (Array.getElem?_eq_some_iff.1 h1).1
/-- What is drawn. -/
def nextV (l : List Int) (last : Int) : Int := match l with | [] => (last * 1664525 + 1013904223) % 4294967296 | x :: _ => x
theorem grownBy_set (w : World) (g j : Nat) (u : Value) : w.grownBy (w.setCell ⟨g, j, none⟩ u) (some g) :=
  ⟨rfl, rfl, rfl, by simp [World.setCell], fun k hk hne => by simp only [World.setCell, Array.getElem?_modify]; rw [if_neg (fun h => hne (by rw [h]))]⟩
theorem Rd.grown {w w1 : World} {size : Nat} {A : Option Addr} {n c : Nat} {cs : List Value} {row : Option Nat} (h : Rd w size A n c cs) (hg : w.grownBy w1 row) (hne : ∀ a, A = some a → some a.block ≠ row) : Rd w1 size A n c cs :=
  ⟨h.len, h.nil_, h.le, fun a ha j u hu => hg.cell (h.cells a ha j u hu) (by rw [block_add]; exact hne a ha)⟩
/-- append, as one step of a region that draws. -/
theorem step_app {P : Program} {ops : Array Oper} {o : Oper} {a : Act} {K : Act → World → Prop} {Q : Exit → Act → World → Prop} {E : Prop} (w0 w : World) (base : Nat) (hgd : o.guard = none) (s x : Operand) (t tx e : TypeId) (z : Value) (size bytes : Nat)
    (ho : o.op = .call { callee := .builtin .append, args := #[s, x], argTypes := #[t, tx] })
    (ht : P.underlying t = some (.slice e)) (hinfo : (P.info? e).map (fun i => (i.zero, i.size, i.bytes)) = some (some z, size, bytes)) (hz : z.cells.size = size) (hs0 : 0 < size) (hb0 : 0 < bytes)
    (v : Value) (n : Nat) (cs : List Value) (hs : a.eval s = v) (happ : App w base e size v n cs) (y : Value) (m : Nat) (news : List Value) (hx : a.eval x = y) (hadd : Add P w size t tx y m news)
    (HB : Below base w0 w) (hbase : base ≤ w.heap.size) (hbytes : (n + m) * bytes ≤ 140737488355328)
    (hK : ∀ v1 w1, ((m = 0 ∧ v1 = v ∧ w1 = w) ∨ w1.ownsRow base e size v1 (n + m) (cs ++ news)) → (0 < m ∨ w.ownsRow base e size v n cs → w1.ownsRow base e size v1 (n + m) (cs ++ news)) → Below base w0 w1 → w.grownBy w1 v.ownBlock → K (a.put o.dst v1) w1) :
    if Region.wanted o (yielded ops a.tmps) = true then Oper.wp P o a w K Q else E := by
  have hw : Region.wanted o (yielded ops a.tmps) = true := by simp [Region.wanted, hgd]
  rw [if_pos hw]
  obtain ⟨v1, w1, hr, h1, h2, h3, h4⟩ := run_app (P := P) (w0 := w0) w base t tx e o.type z size bytes ht hinfo hz hs0 hb0 v n cs happ y m news hadd HB hbase hbytes
  unfold Oper.wp execOp
  simp only [ho, resolve, invoke, builtin, Sem.run_bind, Sem.run_pure, Result.andThen_ok, List.map_toArray, List.map_cons, List.map_nil, hs, hx, hr]
  exact hK v1 w1 h1 h2 h3 h4
/-- Another block (none of its numbers') has been written. -/
theorem SrcAt.grown {T : TypeId} {ok : Nat → Prop} {w w1 : World} {g : Nat} {l : List Int} {last : Int} {row : Option Nat} (h : SrcAt T ok w g l last) (hg : w.grownBy w1 row) (hne : some g ≠ row) (hok : ∀ k, ok k → some k ≠ row) : SrcAt T ok w1 g l last := by
  obtain ⟨A, n, c, h1, h2, h3⟩ := h
  exact ⟨A, n, c, by rw [hg.block g (Array.getElem?_eq_some_iff.1 h1).1 hne]; exact h1, h2.grown hg (fun a ha => hok _ (h3 a ha).2), h3⟩
theorem SrcAt.below {T : TypeId} {ok : Nat → Prop} {w w1 : World} {g : Nat} {l : List Int} {last : Int} (h : SrcAt T ok w g l last) (hb : Below w.heap.size w w1) : SrcAt T ok w1 g l last :=
  h.grown (row := none) ⟨hb.os, hb.tape, hb.output, hb.size, fun i hi _ => hb.block i hi⟩ (by simp) (by simp)
end Go.HL
