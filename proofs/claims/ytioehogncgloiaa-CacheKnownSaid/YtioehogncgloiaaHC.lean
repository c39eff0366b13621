/- Cuts of slices, wherever they end: the address as the model has it, under one name. No program in sight. -/
import Derived.Test.YtioehogncgloiaaHL
set_option linter.unusedVariables false
set_option linter.unusedSimpArgs false
namespace Go.HL
open Go.RowKit
/-- The address of s[lo:..], where nothing of the room is left, too. -/
def cutS (A : Option Addr) (lo cap size : Nat) : Option Addr := if cap = lo then A else A.map (·.add (lo * size))
theorem Rd.cutS {w : World} {A : Option Addr} {size n c : Nat} {cs : List Value} (h : Rd w size A n c cs) (lo k m : Nat) (h1 : lo + k ≤ n) (hm : lo + k ≤ m) (hmc : m ≤ c) : Rd w size (cutS A lo m size) k (m - lo) ((cs.drop (lo * size)).take (k * size)) := by
  have hle := h.le
  have hlen := h.len
  have hl : ((cs.drop (lo * size)).take (k * size)).length = k * size := by
    rw [List.length_take, List.length_drop, hlen, ← Nat.sub_mul]
    exact Nat.min_eq_left (Nat.mul_le_mul_right _ (by omega))
  unfold Go.HL.cutS
  cases A with
  | none =>
    obtain ⟨h2, h3⟩ := h.nil_ rfl
    have hk : k = 0 := by omega
    have hlo : lo = 0 := by omega
    subst hk
    subst hlo
    refine ⟨hl, fun _ => ⟨rfl, ?_⟩, by omega, fun a ha => ?_⟩
    · omega
    · split at ha <;> cases ha
  | some ad =>
    split
    · have hk : k = 0 := by omega
      subst hk
      refine ⟨hl, fun ha => by (cases ha), by omega, fun a ha j u hu => ?_⟩
      rw [Nat.zero_mul, List.take_zero] at hu
      simp at hu
    · refine ⟨hl, fun ha => by (cases ha), by omega, fun a ha => ?_⟩
      cases ha
      exact ((h.cells ad rfl).drop _).take _
theorem Rd.bcutO {w : World} {A : Option Addr} {n c : Nat} {l : List UInt8} (h : Rd w 1 A n c (bs l)) (lo k m : Nat) (h1 : lo + k ≤ n) (hm : lo + k ≤ m) (hmc : m ≤ c) : Rd w 1 (Go.HL.cutS A lo m 1) k (m - lo) (bs ((l.drop lo).take k)) := by
  have := h.cutS lo k m h1 hm hmc
  rwa [Nat.mul_one, Nat.mul_one, bs_drop, bs_take] at this
section
variable {P : Program} {ops : Array Oper} {rest : List Oper} {o : Oper} {a : Act} {w : World} {Q : Exit → Act → World → Prop}
theorem run_cut {t e : TypeId} (ht : P.underlying t = some (.slice e)) {size : Nat} (hsz : (P.info? e).map (·.size) = some size) (A : Option Addr) (n c : Nat) (kl kh : IntKind) (p q : Int) (i k : Nat) (hp : p = (i : Int)) (hq : q = (i : Int) + (k : Int)) (h1 : i + k ≤ c) (w : World) :
    (Instr.slice t (.slice A n c) (some (.int kl p)) (some (.int kh q)) none).run P w = .ok (.slice (cutS A i c size) k (c - i)) w := by
  have he : P.elem t = e := by simp [Program.elem, ht]
  have hs : (sizeOf e).run P w = .ok size w := by
    obtain ⟨i0, h2, h3⟩ := Option.map_eq_some_iff.1 hsz
    simp [sizeOf, typeInfo, h2, h3]
  have := run_slice_lh (P := P) w t A n c (by rw [he]; exact ht) kl kh p q (by omega) (by omega) (by omega)
  rw [this, he, hs, hp, hq, show ((i : Int) + (k : Int)).toNat = i + k by omega, Int.toNat_natCast]
  simp [sliced, Go.HL.cutS]
theorem run_cut3 {t e : TypeId} (ht : P.underlying t = some (.slice e)) {size : Nat} (hsz : (P.info? e).map (·.size) = some size) (A : Option Addr) (n c : Nat) (kl kh km : IntKind) (p q r : Int) (i k m : Nat) (hp : p = (i : Int)) (hq : q = (i : Int) + (k : Int)) (hr : r = (m : Int)) (h1 : i + k ≤ m) (h2 : m ≤ c) (w : World) :
    (Instr.slice t (.slice A n c) (some (.int kl p)) (some (.int kh q)) (some (.int km r))).run P w = .ok (.slice (cutS A i m size) k (m - i)) w := by
  have he : P.elem t = e := by simp [Program.elem, ht]
  have hs : (sizeOf e).run P w = .ok size w := by
    obtain ⟨i0, h2, h3⟩ := Option.map_eq_some_iff.1 hsz
    simp [sizeOf, typeInfo, h2, h3]
  have := run_slice_lhm (P := P) w t A n c (by rw [he]; exact ht) kl kh km p q r (by omega) (by omega) (by omega) (by omega)
  rw [this, he, hs, hp, hq, hr, show ((i : Int) + (k : Int)).toNat = i + k by omega, Int.toNat_natCast, Int.toNat_natCast]
  simp [sliced, Go.HL.cutS]
theorem run_cutL {t e : TypeId} (ht : P.underlying t = some (.slice e)) {size : Nat} (hsz : (P.info? e).map (·.size) = some size) (A : Option Addr) (n c : Nat) (kl : IntKind) (p : Int) (i : Nat) (hp : p = (i : Int)) (h1 : i ≤ n) (w : World) :
    (Instr.slice t (.slice A n c) (some (.int kl p)) none none).run P w = .ok (.slice (cutS A i c size) (n - i) (c - i)) w := by
  have he : P.elem t = e := by simp [Program.elem, ht]
  have hs : (sizeOf e).run P w = .ok size w := by
    obtain ⟨i0, h2, h3⟩ := Option.map_eq_some_iff.1 hsz
    simp [sizeOf, typeInfo, h2, h3]
  have := run_slice_l (P := P) w t A n c (by rw [he]; exact ht) kl p (by omega) (by omega)
  rw [this, he, hs, hp, Int.toNat_natCast]
  simp [sliced, Go.HL.cutS]
theorem wpList_of_slice (hgd : o.guard = none) (t : TypeId) (x : Operand) (lo hi mx : Option Operand) (ho : o.op = .slice t x lo hi mx) (v : Value) {e : TypeId} (ht : P.underlying t = some (.slice e)) (hrun : (Instr.slice t (a.eval x) (lo.map a.eval) (hi.map a.eval) (mx.map a.eval)).run P w = .ok v w) (h : wpList P ops Q rest (a.put o.dst v) w) : wpList P ops Q (o :: rest) a w := by
  refine wpList_plain hgd fun K hK => ?_
  have he : P.elem t = e := by simp [Program.elem, ht]
  have hat := run_sliceAt_slice (P := P) w t (a.eval x) (lo.map a.eval) (hi.map a.eval) (mx.map a.eval) (by rw [he]; exact ht)
  unfold Oper.wp execOp
  simp only [ho, Sem.run_bind, Sem.run_pure, Result.andThen_ok, hat, hrun]
  exact hK _ _ h
/-- s[i:i+k], at the operation. -/
theorem wpList_cut (hgd : o.guard = none) (t e : TypeId) (x lo hi : Operand) (ho : o.op = .slice t x (some lo) (some hi) none) (ht : P.underlying t = some (.slice e)) {size : Nat} (hsz : (P.info? e).map (·.size) = some size) (A : Option Addr) (n c : Nat) (hx : a.eval x = .slice A n c)
    {kl kh : IntKind} {p q : Int} (hlo : a.eval lo = .int kl p) (hhi : a.eval hi = .int kh q) (i k : Nat) (hp : p = (i : Int)) (hq : q = (i : Int) + (k : Int)) (h1 : i + k ≤ c) (h : wpList P ops Q rest (a.put o.dst (.slice (cutS A i c size) k (c - i))) w) : wpList P ops Q (o :: rest) a w :=
  wpList_of_slice hgd t x _ _ _ ho _ ht (by simp only [Option.map, hx, hlo, hhi]; exact run_cut ht hsz A n c kl kh p q i k hp hq h1 w) h
/-- s[i:i+k:m], at the operation. -/
theorem wpList_cut3 (hgd : o.guard = none) (t e : TypeId) (x lo hi mx : Operand) (ho : o.op = .slice t x (some lo) (some hi) (some mx)) (ht : P.underlying t = some (.slice e)) {size : Nat} (hsz : (P.info? e).map (·.size) = some size) (A : Option Addr) (n c : Nat) (hx : a.eval x = .slice A n c)
    {kl kh km : IntKind} {p q r : Int} (hlo : a.eval lo = .int kl p) (hhi : a.eval hi = .int kh q) (hmx : a.eval mx = .int km r) (i k m : Nat) (hp : p = (i : Int)) (hq : q = (i : Int) + (k : Int)) (hr : r = (m : Int)) (h1 : i + k ≤ m) (h2 : m ≤ c) (h : wpList P ops Q rest (a.put o.dst (.slice (cutS A i m size) k (m - i))) w) : wpList P ops Q (o :: rest) a w :=
  wpList_of_slice hgd t x _ _ _ ho _ ht (by simp only [Option.map, hx, hlo, hhi, hmx]; exact run_cut3 ht hsz A n c kl kh km p q r i k m hp hq hr h1 h2 w) h
/-- s[i:], at the operation. -/
theorem wpList_cutL (hgd : o.guard = none) (t e : TypeId) (x lo : Operand) (ho : o.op = .slice t x (some lo) none none) (ht : P.underlying t = some (.slice e)) {size : Nat} (hsz : (P.info? e).map (·.size) = some size) (A : Option Addr) (n c : Nat) (hx : a.eval x = .slice A n c)
    {kl : IntKind} {p : Int} (hlo : a.eval lo = .int kl p) (i : Nat) (hp : p = (i : Int)) (h1 : i ≤ n) (h : wpList P ops Q rest (a.put o.dst (.slice (cutS A i c size) (n - i) (c - i))) w) : wpList P ops Q (o :: rest) a w :=
  wpList_of_slice hgd t x _ _ _ ho _ ht (by simp only [Option.map, hx, hlo]; exact run_cutL ht hsz A n c kl p i hp h1 w) h
end
end Go.HL
