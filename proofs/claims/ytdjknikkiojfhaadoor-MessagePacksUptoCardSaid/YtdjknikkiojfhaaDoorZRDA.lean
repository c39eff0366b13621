import Derived.Test.YtdjknikkiojfhaaDoorZHL
import Derived.Test.YtdjknikkiojfhaaDoorZPB
import Derived.Test.YtdjknikkiojfhaaDoorZPG
/- Cuts of slices, wherever they end: the address as the model has it, under one name. No program in sight. -/
set_option linter.unusedVariables false
set_option linter.unusedSimpArgs false
namespace Go.HL
open Go.RowKit
/-- The address of s[lo:..], where nothing of the room is left, too. -/
def cutS (A : Option Addr) (lo cap size : Nat) : Option Addr := if cap = lo then A else A.map (·.add (lo * size))
theorem Rd.cutS {w : World} {A : Option Addr} {size n c : Nat} {cs : List Value} (h : Rd w size A n c cs) (lo k m : Nat) (h1 : lo + k ≤ n) (hm : lo + k ≤ m) (hmc : m ≤ c) : Rd w size (cutS A lo m size) k (m - lo) ((cs.drop (lo * size)).take (k * size)) := by
  have hle := h.le
  have hlen := h.len
  have hl : ((cs.drop (lo * size)).take (k * size)).length = k * size := by
    rw [List.length_take, List.length_drop, hlen, ← Nat.sub_mul]
    exact Nat.min_eq_left (Nat.mul_le_mul_right _ (by omega))
  unfold Go.HL.cutS
  cases A with
  | none =>
    obtain ⟨h2, h3⟩ := h.nil_ rfl
    have hk : k = 0 := by omega
    have hlo : lo = 0 := by omega
    subst hk
    subst hlo
    refine ⟨hl, fun _ => ⟨rfl, ?_⟩, by omega, fun a ha => ?_⟩
    · omega
    · split at ha <;> cases ha
  | some ad =>
    split
    · have hk : k = 0 := by omega
      subst hk
      refine ⟨hl, fun ha => by (cases ha), by omega, fun a ha j u hu => ?_⟩
      rw [Nat.zero_mul, List.take_zero] at hu
      simp at hu
    · refine ⟨hl, fun ha => by (cases ha), by omega, fun a ha => ?_⟩
      cases ha
      exact ((h.cells ad rfl).drop _).take _
theorem Rd.bcutO {w : World} {A : Option Addr} {n c : Nat} {l : List UInt8} (h : Rd w 1 A n c (bs l)) (lo k m : Nat) (h1 : lo + k ≤ n) (hm : lo + k ≤ m) (hmc : m ≤ c) : Rd w 1 (Go.HL.cutS A lo m 1) k (m - lo) (bs ((l.drop lo).take k)) := by
  have := h.cutS lo k m h1 hm hmc
  rwa [Nat.mul_one, Nat.mul_one, bs_drop, bs_take] at this
section
variable {P : Program} {ops : Array Oper} {rest : List Oper} {o : Oper} {a : Act} {w : World} {Q : Exit → Act → World → Prop}
theorem run_cut {t e : TypeId} (ht : P.underlying t = some (.slice e)) {size : Nat} (hsz : (P.info? e).map (·.size) = some size) (A : Option Addr) (n c : Nat) (kl kh : IntKind) (p q : Int) (i k : Nat) (hp : p = (i : Int)) (hq : q = (i : Int) + (k : Int)) (h1 : i + k ≤ c) (w : World) :
    (Instr.slice t (.slice A n c) (some (.int kl p)) (some (.int kh q)) none).run P w = .ok (.slice (cutS A i c size) k (c - i)) w := by
  have he : P.elem t = e := by simp [Program.elem, ht]
  have hs : (sizeOf e).run P w = .ok size w := by
    obtain ⟨i0, h2, h3⟩ := Option.map_eq_some_iff.1 hsz
    simp [sizeOf, typeInfo, h2, h3]
  have := run_slice_lh (P := P) w t A n c (by rw [he]; exact ht) kl kh p q (by omega) (by omega) (by omega)
  rw [this, he, hs, hp, hq, show ((i : Int) + (k : Int)).toNat = i + k by omega, Int.toNat_natCast]
  simp [sliced, Go.HL.cutS]
theorem run_cut3 {t e : TypeId} (ht : P.underlying t = some (.slice e)) {size : Nat} (hsz : (P.info? e).map (·.size) = some size) (A : Option Addr) (n c : Nat) (kl kh km : IntKind) (p q r : Int) (i k m : Nat) (hp : p = (i : Int)) (hq : q = (i : Int) + (k : Int)) (hr : r = (m : Int)) (h1 : i + k ≤ m) (h2 : m ≤ c) (w : World) :
    (Instr.slice t (.slice A n c) (some (.int kl p)) (some (.int kh q)) (some (.int km r))).run P w = .ok (.slice (cutS A i m size) k (m - i)) w := by
  have he : P.elem t = e := by simp [Program.elem, ht]
  have hs : (sizeOf e).run P w = .ok size w := by
    obtain ⟨i0, h2, h3⟩ := Option.map_eq_some_iff.1 hsz
    simp [sizeOf, typeInfo, h2, h3]
  have := run_slice_lhm (P := P) w t A n c (by rw [he]; exact ht) kl kh km p q r (by omega) (by omega) (by omega) (by omega)
  rw [this, he, hs, hp, hq, hr, show ((i : Int) + (k : Int)).toNat = i + k by omega, Int.toNat_natCast, Int.toNat_natCast]
  simp [sliced, Go.HL.cutS]
theorem run_cutL {t e : TypeId} (ht : P.underlying t = some (.slice e)) {size : Nat} (hsz : (P.info? e).map (·.size) = some size) (A : Option Addr) (n c : Nat) (kl : IntKind) (p : Int) (i : Nat) (hp : p = (i : Int)) (h1 : i ≤ n) (w : World) :
    (Instr.slice t (.slice A n c) (some (.int kl p)) none none).run P w = .ok (.slice (cutS A i c size) (n - i) (c - i)) w := by
  have he : P.elem t = e := by simp [Program.elem, ht]
  have hs : (sizeOf e).run P w = .ok size w := by
    obtain ⟨i0, h2, h3⟩ := Option.map_eq_some_iff.1 hsz
    simp [sizeOf, typeInfo, h2, h3]
  have := run_slice_l (P := P) w t A n c (by rw [he]; exact ht) kl p (by omega) (by omega)
  rw [this, he, hs, hp, Int.toNat_natCast]
  simp [sliced, Go.HL.cutS]
theorem wpList_of_slice (hgd : o.guard = none) (t : TypeId) (x : Operand) (lo hi mx : Option Operand) (ho : o.op = .slice t x lo hi mx) (v : Value) {e : TypeId} (ht : P.underlying t = some (.slice e)) (hrun : (Instr.slice t (a.eval x) (lo.map a.eval) (hi.map a.eval) (mx.map a.eval)).run P w = .ok v w) (h : wpList P ops Q rest (a.put o.dst v) w) : wpList P ops Q (o :: rest) a w := by
  refine wpList_plain hgd fun K hK => ?_
  have he : P.elem t = e := by simp [Program.elem, ht]
  have hat := run_sliceAt_slice (P := P) w t (a.eval x) (lo.map a.eval) (hi.map a.eval) (mx.map a.eval) (by rw [he]; exact ht)
  unfold Oper.wp execOp
  simp only [ho, Sem.run_bind, Sem.run_pure, Result.andThen_ok, hat, hrun]
  exact hK _ _ h
/-- s[i:i+k], at the operation. -/
theorem wpList_cut (hgd : o.guard = none) (t e : TypeId) (x lo hi : Operand) (ho : o.op = .slice t x (some lo) (some hi) none) (ht : P.underlying t = some (.slice e)) {size : Nat} (hsz : (P.info? e).map (·.size) = some size) (A : Option Addr) (n c : Nat) (hx : a.eval x = .slice A n c)
    {kl kh : IntKind} {p q : Int} (hlo : a.eval lo = .int kl p) (hhi : a.eval hi = .int kh q) (i k : Nat) (hp : p = (i : Int)) (hq : q = (i : Int) + (k : Int)) (h1 : i + k ≤ c) (h : wpList P ops Q rest (a.put o.dst (.slice (cutS A i c size) k (c - i))) w) : wpList P ops Q (o :: rest) a w :=
  wpList_of_slice hgd t x _ _ _ ho _ ht (by simp only [Option.map, hx, hlo, hhi]; exact run_cut ht hsz A n c kl kh p q i k hp hq h1 w) h
/-- s[i:i+k:m], at the operation. -/
theorem wpList_cut3 (hgd : o.guard = none) (t e : TypeId) (x lo hi mx : Operand) (ho : o.op = .slice t x (some lo) (some hi) (some mx)) (ht : P.underlying t = some (.slice e)) {size : Nat} (hsz : (P.info? e).map (·.size) = some size) (A : Option Addr) (n c : Nat) (hx : a.eval x = .slice A n c)
    {kl kh km : IntKind} {p q r : Int} (hlo : a.eval lo = .int kl p) (hhi : a.eval hi = .int kh q) (hmx : a.eval mx = .int km r) (i k m : Nat) (hp : p = (i : Int)) (hq : q = (i : Int) + (k : Int)) (hr : r = (m : Int)) (h1 : i + k ≤ m) (h2 : m ≤ c) (h : wpList P ops Q rest (a.put o.dst (.slice (cutS A i m size) k (m - i))) w) : wpList P ops Q (o :: rest) a w :=
  wpList_of_slice hgd t x _ _ _ ho _ ht (by simp only [Option.map, hx, hlo, hhi, hmx]; exact run_cut3 ht hsz A n c kl kh km p q r i k m hp hq hr h1 h2 w) h
/-- s[i:], at the operation. -/
theorem wpList_cutL (hgd : o.guard = none) (t e : TypeId) (x lo : Operand) (ho : o.op = .slice t x (some lo) none none) (ht : P.underlying t = some (.slice e)) {size : Nat} (hsz : (P.info? e).map (·.size) = some size) (A : Option Addr) (n c : Nat) (hx : a.eval x = .slice A n c)
    {kl : IntKind} {p : Int} (hlo : a.eval lo = .int kl p) (i : Nat) (hp : p = (i : Int)) (h1 : i ≤ n) (h : wpList P ops Q rest (a.put o.dst (.slice (cutS A i c size) (n - i) (c - i))) w) : wpList P ops Q (o :: rest) a w :=
  wpList_of_slice hgd t x _ _ _ ho _ ht (by simp only [Option.map, hx, hlo]; exact run_cutL ht hsz A n c kl p i hp h1 w) h
end
end Go.HL

/- octet's Take of one and of two bytes once more, for rows of any length that append can make. -/
namespace Go.Proofs.YtdjknikkiojfhaaDoor
open Go.RowKit Go.HL
set_option linter.unusedVariables false
set_option linter.unusedSimpArgs false
theorem take8w_arg (A : Option Addr) (n c : Nat) (i : Int) (hn : n ≤ c) (hc : n ≤ 281474976710656) (hi : i < 0 ∨ (n : Int) < i) (w : World) :
    Calls Tryd.prog 73 #[.slice A n c, .int .i64 i] w fun e w' => e = .returned (.tuple #[.int .u8 0, .int .i64 0, .int .i64 1]) ∧ w = w' := by
  by_cases h0 : i < 0
  · go_enter Tryd.func73, Tryd.ntmps73
    go_wp2_with (go_at_call 87; refine (size8 _).mono ?_; rintro e w' ⟨rfl, rfl⟩)
    go_ret3
    exact ⟨rfl, rfl⟩
  · have h1 : (n : Int) < i := by omega
    go_enter Tryd.func73, Tryd.ntmps73
    go_wp2_with (go_at_call 87; refine (size8 _).mono ?_; rintro e w' ⟨rfl, rfl⟩)
    go_ret3
    exact ⟨rfl, rfl⟩
theorem take8w_short (A : Option Addr) (n c : Nat) (i : Int) (hn : n ≤ c) (hc : n ≤ 281474976710656) (h0 : 0 ≤ i) (h1 : i ≤ n) (h2 : (n : Int) < i + 1) (w : World) :
    Calls Tryd.prog 73 #[.slice A n c, .int .i64 i] w fun e w' => e = .returned (.tuple #[.int .u8 0, .int .i64 0, .int .i64 6]) ∧ w = w' := by
  go_enter Tryd.func73, Tryd.ntmps73
  go_wp2_with (go_at_call 87; refine (size8 _).mono ?_; rintro e w' ⟨rfl, rfl⟩)
  go_ret3
  exact ⟨rfl, rfl⟩
set_option maxHeartbeats 800000 in
theorem take8w_okN (ad : Addr) (n c : Nat) (i : Nat) (hc : n ≤ 281474976710656) (h1 : i + 1 ≤ n) (w : World) (l : List UInt8) (hr : Rd w 1 (some ad) n c (bs l)) :
    Calls Tryd.prog 73 #[.slice (some ad) n c, .int .i64 i] w fun e w' => e = .returned (.tuple #[.int .u8 (val ((l.drop i).take 1)), .int .i64 (i + 1), .int .i64 0]) ∧ w = w' := by
  have hn := hr.le
  have hbl := hr.blen
  have c0 := hr.at i (by omega)
  obtain ⟨b0, hb0⟩ : ∃ b : Int, ((l.getD i 0).toNat : Int) = b := ⟨_, rfl⟩
  have p0 : 0 ≤ b0 := by omega
  have q0 : b0 < 256 := by have := (l.getD i 0).toNat_lt; omega
  rw [hb0] at c0
  have hv : val ((l.drop i).take 1) = b0 := by
    rw [val_take1 l i (by omega), ← hb0]
  rw [hv]
  clear hb0
  clear hv
  have o0 : bits .or .u32 0 b0 = b0 := or_zero _ (by omega) (by omega)
  go_enter Tryd.func73, Tryd.ntmps73
  go_wp2_with (go_at_call 87; refine (size8 _).mono ?_; rintro e w' ⟨rfl, rfl⟩)
  refine wp_loop_rounds 2 ?_
  rw [rounds_succ]
  go_wp2
  rw [rounds_succ]
  go_wp2
  go_ret3
  exact ⟨rfl, rfl⟩
theorem take16w_arg (A : Option Addr) (n c : Nat) (i : Int) (hn : n ≤ c) (hc : n ≤ 281474976710656) (hi : i < 0 ∨ (n : Int) < i) (w : World) :
    Calls Tryd.prog 50 #[.slice A n c, .int .i64 i] w fun e w' => e = .returned (.tuple #[.int .u16 0, .int .i64 0, .int .i64 1]) ∧ w = w' := by
  by_cases h0 : i < 0
  · go_enter Tryd.func50, Tryd.ntmps50
    go_wp2_with (go_at_call 61; refine (size16 _).mono ?_; rintro e w' ⟨rfl, rfl⟩)
    go_ret3
    exact ⟨rfl, rfl⟩
  · have h1 : (n : Int) < i := by omega
    go_enter Tryd.func50, Tryd.ntmps50
    go_wp2_with (go_at_call 61; refine (size16 _).mono ?_; rintro e w' ⟨rfl, rfl⟩)
    go_ret3
    exact ⟨rfl, rfl⟩
theorem take16w_short (A : Option Addr) (n c : Nat) (i : Int) (hn : n ≤ c) (hc : n ≤ 281474976710656) (h0 : 0 ≤ i) (h1 : i ≤ n) (h2 : (n : Int) < i + 2) (w : World) :
    Calls Tryd.prog 50 #[.slice A n c, .int .i64 i] w fun e w' => e = .returned (.tuple #[.int .u16 0, .int .i64 0, .int .i64 6]) ∧ w = w' := by
  go_enter Tryd.func50, Tryd.ntmps50
  go_wp2_with (go_at_call 61; refine (size16 _).mono ?_; rintro e w' ⟨rfl, rfl⟩)
  go_ret3
  exact ⟨rfl, rfl⟩
set_option maxHeartbeats 800000 in
theorem take16w_okN (ad : Addr) (n c : Nat) (i : Nat) (hc : n ≤ 281474976710656) (h1 : i + 2 ≤ n) (w : World) (l : List UInt8) (hr : Rd w 1 (some ad) n c (bs l)) :
    Calls Tryd.prog 50 #[.slice (some ad) n c, .int .i64 i] w fun e w' => e = .returned (.tuple #[.int .u16 (val ((l.drop i).take 2)), .int .i64 (i + 2), .int .i64 0]) ∧ w = w' := by
  have hn := hr.le
  have hbl := hr.blen
  have c0 := hr.at i (by omega)
  have c1 := hr.at' i 0 (by omega)
  obtain ⟨b0, hb0⟩ : ∃ b : Int, ((l.getD i 0).toNat : Int) = b := ⟨_, rfl⟩
  have p0 : 0 ≤ b0 := by omega
  have q0 : b0 < 256 := by have := (l.getD i 0).toNat_lt; omega
  rw [hb0] at c0
  obtain ⟨b1, hb1⟩ : ∃ b : Int, ((l.getD (i + (0 + 1)) 0).toNat : Int) = b := ⟨_, rfl⟩
  have p1 : 0 ≤ b1 := by omega
  have q1 : b1 < 256 := by have := (l.getD (i + (0 + 1)) 0).toNat_lt; omega
  rw [hb1] at c1
  have hv : val ((l.drop i).take 2) = (b0) * 256 + b1 := by
    rw [val_take2 l i (by omega), ← hb0, ← hb1]
  rw [hv]
  clear hb0
  clear hb1
  clear hv
  have o1 : bits .or .u32 ((b0) * 256) b1 = (b0) * 256 + b1 := or_byte _ _ (by omega) (by omega) (by omega) (by omega)
  have o0 : bits .or .u32 0 b0 = b0 := or_zero _ (by omega) (by omega)
  go_enter Tryd.func50, Tryd.ntmps50
  go_wp2_with (go_at_call 61; refine (size16 _).mono ?_; rintro e w' ⟨rfl, rfl⟩)
  refine wp_loop_rounds 3 ?_
  rw [rounds_succ]
  go_wp2
  rw [rounds_succ]
  go_wp2
  rw [rounds_succ]
  go_wp2
  go_ret3
  exact ⟨rfl, rfl⟩
theorem take8w_ok (A : Option Addr) (n c : Nat) (i : Int) (hc : n ≤ 281474976710656) (h0 : 0 ≤ i) (h1 : i + 1 ≤ n) (w : World) (l : List UInt8) (hr : Rd w 1 A n c (bs l)) :
    Calls Tryd.prog 73 #[.slice A n c, .int .i64 i] w fun e w' => e = .returned (.tuple #[.int .u8 (val ((l.drop i.toNat).take 1)), .int .i64 (i + 1), .int .i64 0]) ∧ w = w' := by
  cases A with
  | none => have := (hr.nil_ rfl).1; omega
  | some ad =>
    obtain ⟨j, rfl⟩ := Int.eq_ofNat_of_zero_le h0
    rw [Int.toNat_natCast]
    exact take8w_okN ad n c j hc (by omega) w l hr
theorem take16w_ok (A : Option Addr) (n c : Nat) (i : Int) (hc : n ≤ 281474976710656) (h0 : 0 ≤ i) (h1 : i + 2 ≤ n) (w : World) (l : List UInt8) (hr : Rd w 1 A n c (bs l)) :
    Calls Tryd.prog 50 #[.slice A n c, .int .i64 i] w fun e w' => e = .returned (.tuple #[.int .u16 (val ((l.drop i.toNat).take 2)), .int .i64 (i + 2), .int .i64 0]) ∧ w = w' := by
  cases A with
  | none => have := (hr.nil_ rfl).1; omega
  | some ad =>
    obtain ⟨j, rfl⟩ := Int.eq_ofNat_of_zero_le h0
    rw [Int.toNat_natCast]
    exact take16w_okN ad n c j hc (by omega) w l hr
end Go.Proofs.YtdjknikkiojfhaaDoor

/- press.Take: contract, by a walk. -/
namespace Go.Proofs.YtdjknikkiojfhaaDoor
open Go.RowKit Go.HL
set_option linter.unusedVariables false
set_option linter.unusedSimpArgs false
/-- What reading a name tells, in at most so many steps: the name, the place behind it, the error. -/
def tk (l : List UInt8) : Nat → Nat → Nat → Nat → List UInt8 → List UInt8 × Int × Int
  | 0, _, _, _, _ => ([], 0, 0)
  | f + 1, p, nx, rr, out =>
    if l.length < p + 1 then ([], 0, 6)
    else if 192 ≤ (l.getD p 0).toNat then
      if l.length < p + 2 then ([], 0, 6)
      else if rr ≤ ((l.getD p 0).toNat * 256 + (l.getD (p + 1) 0).toNat) % 16384 then ([], 0, 30)
      else tk l f (((l.getD p 0).toNat * 256 + (l.getD (p + 1) 0).toNat) % 16384) (if nx = 0 then p + 2 else nx) (((l.getD p 0).toNat * 256 + (l.getD (p + 1) 0).toNat) % 16384) out
    else if 63 < (l.getD p 0).toNat then ([], 0, 31)
    else if l.length < p + 1 + (l.getD p 0).toNat then ([], 0, 6)
    else if 0 < (l.getD p 0).toNat ∧ 255 ≤ out.length + (l.getD p 0).toNat + 1 then ([], 0, 2)
    else if (l.getD p 0).toNat = 0 then (out ++ [0], ((if nx = 0 then p + 1 else nx : Nat) : Int), 0)
    else tk l f (p + 1 + (l.getD p 0).toNat) nx rr (out ++ (l.drop p).take (1 + (l.getD p 0).toNat))
def tkR (l : List UInt8) (i : Int) : List UInt8 × Int × Int :=
  if i < 0 ∨ (l.length : Int) < i then ([], 0, 1) else tk l (i.toNat * (l.length + 1) + (l.length - i.toNat) + 1) i.toNat 0 i.toNat []
theorem far_and (v : Int) (h0 : 0 ≤ v) (h1 : v < 65536) : bits .and .u16 v 16383 = v % 16384 :=
  bits_mask .u16 16 (by decide) (fun n a b => by
    have e : (2 : Int) ^ 16 = 65536 := by decide
    rw [e] at b; simp only [IntKind.wrap, IntKind.bits, IntKind.signed]; simp; omega) 14 (by decide) v h0 (by omega)
theorem bs_app (a b : List UInt8) : bs (a ++ b) = bs a ++ bs b := by simp [bs]
theorem mul_fall {q r n : Nat} (h : q + 1 ≤ r) (p : Nat) : q * (n + 1) + (n - q) < r * (n + 1) + (n - p) := by
  have h1 := Nat.mul_le_mul_right (n + 1) h
  rw [Nat.add_mul] at h1
  generalize q * (n + 1) = x at h1 ⊢
  generalize r * (n + 1) = y at h1 ⊢
  omega
/-- What holds of Take's loop. -/
def InvT (w : World) (n : Nat) (l : List UInt8) (R : List UInt8 × Int × Int) (a v b r : Value) (wr : World) : Prop :=
  ∃ (p nx rr f : Nat) (out : List UInt8), a = .int .i64 p ∧ b = .int .i64 nx ∧ r = .int .i64 rr ∧ p ≤ n ∧ rr ≤ n ∧ nx ≤ n ∧ out.length ≤ 254 ∧ wr.ownsRow w.heap.size 5 1 v out.length (bs out) ∧ Hid (rr * (n + 1) + (n - p) < f ∧ tk l f p nx rr out = R) ∧ Below w.heap.size w wr
def mesT (n : Nat) (a r : Value) : Nat := (intOf r).toNat * (n + 1) + (n - (intOf a).toNat)
theorem mesT_lt {n q r p a : Nat} (h : q + 1 ≤ r) : mesT n (.int .i64 a) (.int .i64 q) < mesT n (.int .i64 p) (.int .i64 r) := by
  have h1 := Nat.mul_le_mul_right (n + 1) h
  rw [Nat.add_mul] at h1
  unfold mesT intOf
  simp only [Int.toNat_natCast]
  generalize q * (n + 1) = x at h1 ⊢
  generalize r * (n + 1) = y at h1 ⊢
  omega
theorem mesT_lt2 {n r p a : Nat} (h : p < a) (h2 : a ≤ n) : mesT n (.int .i64 a) (.int .i64 r) < mesT n (.int .i64 p) (.int .i64 r) := by
  unfold mesT intOf
  simp only [Int.toNat_natCast]
  omega
set_option maxHeartbeats 4000000 in
set_option maxRecDepth 4000 in
theorem take_ (A : Option Addr) (n c : Nat) (i : Int) (hc : n ≤ 281474976710656) (w : World) (l : List UInt8) (hr : Rd w 1 A n c (bs l)) :
    Calls Tryd.prog 52 #[.slice A n c, .int .i64 i] w fun e w' => e = .returned (.tuple #[.string (str (tkR l i).1), .int .i64 (tkR l i).2.1, .int .i64 (tkR l i).2.2]) ∧ Below w.heap.size w w' := by
  have hl := hr.blen
  have hn := hr.le
  unfold tkR
  by_cases h : i < 0 ∨ (l.length : Int) < i
  · rw [if_pos h]
    go_enter Tryd.func52, Tryd.ntmps52
    go_wp2
    refine wp_loop_rounds 1 ?_
    rw [rounds_succ]
    go_wp2_with (go_at_call 73; refine (take8w_arg _ _ _ _ hn (by omega) (by omega) _).mono ?_; rintro e w' ⟨rfl, rfl⟩)
    go_ret3
    exact ⟨rfl, Below.refl _ _⟩
  rw [if_neg h]
  obtain ⟨j, rfl⟩ := Int.eq_ofNat_of_zero_le (show 0 ≤ i by omega)
  rw [Int.toNat_natCast]
  obtain ⟨R, hR⟩ : ∃ R, tk l (j * (l.length + 1) + (l.length - j) + 1) j 0 j [] = R := ⟨_, rfl⟩
  rw [hR]
  rw [hl] at hR
  have hj : j ≤ n := by omega
  have HR := Lib.hid hR
  have HRD := Lib.hid hr
  have HLL := Lib.hid hl
  clear h hR hr hl
  go_enter Tryd.func52, Tryd.ntmps52
  go_wp2
  go_loopw [1, 7, 8, 9] (fun a v b r wr => InvT w n l R a v b r wr) (fun a _ _ r _ => mesT n a r)
  case atStart => exact ⟨j, 0, j, _, [], rfl, rfl, rfl, hj, hj, Nat.zero_le _, by simp, World.ownsRow_nil _ _ _ _, Lib.hid ⟨Nat.lt_succ_self _, HR.out⟩, Below.refl _ _⟩
  case round =>
    obtain ⟨p, nx, rr, f, out, rfl, rfl, rfl, hp, hrr, hnx, hlo, ho, HF, hb⟩ := hrel
    obtain ⟨f, rfl⟩ : ∃ g, f = g + 1 := ⟨f - 1, by have := HF.out.1; omega⟩
    have HRW := Lib.hid (HRD.out.below hb)
    by_cases hs : n < p + 1
    · go_wp2_with (go_at_call 73; refine (take8w_short _ _ _ _ hn (by omega) (by omega) (by omega) (by omega) _).mono ?_; rintro e w' ⟨rfl, rfl⟩)
      go_ret3
      have h2 := HF.out.2
      simp only [tk] at h2
      rw [if_pos (by rw [HLL.out]; exact hs)] at h2
      rw [← h2]
      exact ⟨rfl, hb⟩
    obtain ⟨y, hy⟩ : ∃ y, (l.getD p 0).toNat = y := ⟨_, rfl⟩
    have hy2 : y < 256 := by rw [← hy]; exact (l.getD p 0).toNat_lt
    have hv1 := val_take1 l p (by rw [HLL.out]; omega)
    have HY := Lib.hid hy
    rw [hy] at hv1
    clear hy
    have HV1 := Lib.hid hv1
    clear hv1
    obtain ⟨A1, c1, rfl, hr1⟩ := own_rd ho
    have HR1 := Lib.hid hr1
    have hoc := hr1.le
    clear hr1
    have h2 := HF.out.2
    simp only [tk] at h2
    rw [if_neg (by rw [HLL.out]; exact hs), HY.out] at h2
    by_cases hk : 192 ≤ y
    · have hk' : (192 : Int) ≤ (y : Int) := by omega
      rw [if_pos hk] at h2
      by_cases hs2 : n < p + 2
      · rw [if_pos (by rw [HLL.out]; exact hs2)] at h2
        go_wp2_with (first | (go_at_call 73; refine (take8w_ok _ _ _ _ (by omega) (by omega) (by omega) _ l HRW.out).mono ?_; rintro e w' ⟨rfl, rfl⟩; simp only [Int.toNat_natCast]; rw [HV1.out]) | (go_at_call 50; refine (take16w_short _ _ _ _ hn (by omega) (by omega) (by omega) (by omega) _).mono ?_; rintro e w' ⟨rfl, rfl⟩))
        go_ret3
        rw [← h2]
        exact ⟨rfl, hb⟩
      · rw [if_neg (by rw [HLL.out]; exact hs2)] at h2
        obtain ⟨z, hz⟩ : ∃ z, (l.getD (p + 1) 0).toNat = z := ⟨_, rfl⟩
        have hz2 : z < 256 := by rw [← hz]; exact (l.getD (p + 1) 0).toNat_lt
        have hv2 := val_take2 l p (by rw [HLL.out]; omega)
        rw [HY.out, hz] at hv2
        rw [hz] at h2
        clear hz
        have HV2 := Lib.hid hv2
        have HFA := Lib.hid (far_and ((y : Int) * 256 + (z : Int)) (by omega) (by omega))
        obtain ⟨q, hq⟩ : ∃ q, (y * 256 + z) % 16384 = q := ⟨_, rfl⟩
        have hqi : ((y : Int) * 256 + (z : Int)) % 16384 = (q : Int) := by omega
        have hq3 : q < 16384 := by omega
        rw [hq] at h2
        rw [hqi] at HFA
        have HQ := Lib.hid hqi
        clear hq hqi hv2
        have hand := HFA.out
        by_cases hge : rr ≤ q
        · rw [if_pos hge] at h2
          have hge' : (rr : Int) ≤ (q : Int) := by omega
          go_wp2_with (first | (go_at_call 73; refine (take8w_ok _ _ _ _ (by omega) (by omega) (by omega) _ l HRW.out).mono ?_; rintro e w' ⟨rfl, rfl⟩; simp only [Int.toNat_natCast]; rw [HV1.out]) | (go_at_call 50; refine (take16w_ok _ _ _ _ (by omega) (by omega) (by omega) _ l HRW.out).mono ?_; rintro e w' ⟨rfl, rfl⟩; simp only [Int.toNat_natCast]; rw [HV2.out]))
          go_ret3
          rw [← h2]
          exact ⟨rfl, hb⟩
        · rw [if_neg hge] at h2
          have hge' : ¬ (rr : Int) ≤ (q : Int) := by omega
          by_cases hnx0 : nx = 0
          · subst hnx0
            rw [if_pos rfl] at h2
            have H2 := Lib.hid h2
            clear h2
            go_wp2_with (first | (go_at_call 73; refine (take8w_ok _ _ _ _ (by omega) (by omega) (by omega) _ l HRW.out).mono ?_; rintro e w' ⟨rfl, rfl⟩; simp only [Int.toNat_natCast]; rw [HV1.out]) | (go_at_call 50; refine (take16w_ok _ _ _ _ (by omega) (by omega) (by omega) _ l HRW.out).mono ?_; rintro e w' ⟨rfl, rfl⟩; simp only [Int.toNat_natCast]; rw [HV2.out]))
            go_roundw
            case rel => exact ⟨q, p + 2, q, f, out, by go_num, by go_num, by go_num, by omega, by omega, by omega, hlo, ho, Lib.hid ⟨by have := HF.out.1; have := mul_fall (n := n) (show q + 1 ≤ rr by omega) p; omega, H2.out⟩, hb⟩
            case measure => exact mesT_lt (by omega)
          · rw [if_neg hnx0] at h2
            have hnx1 : ((nx : Int) == 0) = false := by simp; omega
            have H2 := Lib.hid h2
            clear h2
            go_wp2_with (first | (go_at_call 73; refine (take8w_ok _ _ _ _ (by omega) (by omega) (by omega) _ l HRW.out).mono ?_; rintro e w' ⟨rfl, rfl⟩; simp only [Int.toNat_natCast]; rw [HV1.out]) | (go_at_call 50; refine (take16w_ok _ _ _ _ (by omega) (by omega) (by omega) _ l HRW.out).mono ?_; rintro e w' ⟨rfl, rfl⟩; simp only [Int.toNat_natCast]; rw [HV2.out]))
            go_roundw
            case rel => exact ⟨q, nx, q, f, out, by go_num, by go_num, by go_num, by omega, by omega, by omega, hlo, ho, Lib.hid ⟨by have := HF.out.1; have := mul_fall (n := n) (show q + 1 ≤ rr by omega) p; omega, H2.out⟩, hb⟩
            case measure => exact mesT_lt (by omega)
    have hk' : ¬ (192 : Int) ≤ (y : Int) := by omega
    rw [if_neg hk] at h2
    by_cases h63 : 63 < y
    · have h63' : (63 : Int) < (y : Int) := by omega
      rw [if_pos h63] at h2
      go_wp2_with (go_at_call 73; refine (take8w_ok _ _ _ _ (by omega) (by omega) (by omega) _ l HRW.out).mono ?_; rintro e w' ⟨rfl, rfl⟩; simp only [Int.toNat_natCast]; rw [HV1.out])
      go_ret3
      rw [← h2]
      exact ⟨rfl, hb⟩
    have h63' : ¬ (63 : Int) < (y : Int) := by omega
    rw [if_neg h63] at h2
    by_cases hsh : n < p + 1 + y
    · have hsh' : ((n : Int) - ((p : Int) + 1)) < (y : Int) := by omega
      rw [if_pos (by rw [HLL.out]; exact hsh)] at h2
      go_wp2_with (go_at_call 73; refine (take8w_ok _ _ _ _ (by omega) (by omega) (by omega) _ l HRW.out).mono ?_; rintro e w' ⟨rfl, rfl⟩; simp only [Int.toNat_natCast]; rw [HV1.out])
      go_ret3
      rw [← h2]
      exact ⟨rfl, hb⟩
    have hsh' : ¬ ((n : Int) - ((p : Int) + 1)) < (y : Int) := by omega
    rw [if_neg (by rw [HLL.out]; exact hsh)] at h2
    by_cases hlg : 0 < y ∧ 255 ≤ out.length + y + 1
    · have hlg1 : (0 : Int) < (y : Int) := by omega
      have hlg2 : (255 : Int) ≤ (out.length : Int) + (y : Int) + 1 := by omega
      rw [if_pos hlg] at h2
      go_wp2_with (go_at_call 73; refine (take8w_ok _ _ _ _ (by omega) (by omega) (by omega) _ l HRW.out).mono ?_; rintro e w' ⟨rfl, rfl⟩; simp only [Int.toNat_natCast]; rw [HV1.out])
      go_ret3
      rw [← h2]
      exact ⟨rfl, hb⟩
    rw [if_neg hlg] at h2
    have HCUT := Lib.hid (HRW.out.bcutO p (1 + y) c (by omega) (by omega) (Nat.le_refl _))
    by_cases hy0 : y = 0
    · subst hy0
      rw [if_pos rfl] at h2
      have hl1 : (l.drop p).take (1 + 0) = [0] := by
        have h0 : l.getD p 0 = 0 := UInt8.toNat_inj.1 (by simpa using HY.out)
        have := take_one l p 0 (by rw [HLL.out]; omega)
        rw [show l.getD (p + 0) 0 = 0 from h0] at this
        simpa using this
      rw [hl1] at HCUT
      clear hl1
      have HV0 := Lib.hid (show val (List.take 1 (List.drop p l)) = 0 from HV1.out)
      clear HV1
      have HV1 := HV0
      clear HV0 hk hk' h63 h63' hsh hsh' hlg hy2
      by_cases hnx0 : nx = 0
      · subst hnx0
        rw [if_pos rfl] at h2
        go_wp2_with (first | (go_at_call 73; refine (take8w_ok _ _ _ _ (by omega) (by omega) (by omega) _ l HRW.out).mono ?_; rintro e w' ⟨rfl, rfl⟩; simp only [Int.toNat_natCast]; rw [HV1.out]) | (refine wpList_cut rfl 27 5 (.tmp 28) (.tmp 29) (.tmp 33) rfl Tryd.underlying27 (size := 1) (by kernel_rfl) A n c rfl rfl rfl p (1 + 0) (by omega) (by omega) (by omega) ?_) | (at_builtin; refine wpList_app (w0 := w) wr w.heap.size rfl _ _ 27 27 5 (.int .u8 0) 1 1 rfl Tryd.underlying27 info_u8 rfl (by omega) (by omega) (.slice A1 out.length c1) out.length (bs out) rfl (.own ho) (.slice (cutS A p c 1) (1 + 0) (c - p)) (1 + 0) (bs [0]) rfl (.slice HCUT.out (bs_one _)) hb hb.size (by omega) ?_; intro v3 w3 _ ho3' hb3 hg3; have ho3 := ho3' (.inr ho); obtain ⟨A3, c3, rfl, hr3⟩ := own_rd ho3; have hr4 : Rd w3 1 A3 (out.length + (1 + 0)) c3 (bs (out ++ [0])) := (bs_app out [0]).symm ▸ hr3; have hcv := run_conv_str (P := Tryd.prog) w3 Tryd.underlying27 Tryd.underlying5 Tryd.underlying40 hr4))
        go_ret3
        rw [← h2]
        exact ⟨rfl, hb3⟩
      · rw [if_neg hnx0] at h2
        have hnx1 : ((nx : Int) == 0) = false := by simp; omega
        go_wp2_with (first | (go_at_call 73; refine (take8w_ok _ _ _ _ (by omega) (by omega) (by omega) _ l HRW.out).mono ?_; rintro e w' ⟨rfl, rfl⟩; simp only [Int.toNat_natCast]; rw [HV1.out]) | (refine wpList_cut rfl 27 5 (.tmp 28) (.tmp 29) (.tmp 33) rfl Tryd.underlying27 (size := 1) (by kernel_rfl) A n c rfl rfl rfl p (1 + 0) (by omega) (by omega) (by omega) ?_) | (at_builtin; refine wpList_app (w0 := w) wr w.heap.size rfl _ _ 27 27 5 (.int .u8 0) 1 1 rfl Tryd.underlying27 info_u8 rfl (by omega) (by omega) (.slice A1 out.length c1) out.length (bs out) rfl (.own ho) (.slice (cutS A p c 1) (1 + 0) (c - p)) (1 + 0) (bs [0]) rfl (.slice HCUT.out (bs_one _)) hb hb.size (by omega) ?_; intro v3 w3 _ ho3' hb3 hg3; have ho3 := ho3' (.inr ho); obtain ⟨A3, c3, rfl, hr3⟩ := own_rd ho3; have hr4 : Rd w3 1 A3 (out.length + (1 + 0)) c3 (bs (out ++ [0])) := (bs_app out [0]).symm ▸ hr3; have hcv := run_conv_str (P := Tryd.prog) w3 Tryd.underlying27 Tryd.underlying5 Tryd.underlying40 hr4))
        go_ret3
        rw [← h2]
        exact ⟨rfl, hb3⟩
    rw [if_neg hy0] at h2
    have hy1 : ((y : Int) == 0) = false := by simp; omega
    have hlg1 : (0 : Int) < (y : Int) := by omega
    have hlg2 : ¬ (255 : Int) ≤ (out.length : Int) + (y : Int) + 1 := by omega
    have H2 := Lib.hid h2
    clear h2
    go_wp2_with (first | (go_at_call 73; refine (take8w_ok _ _ _ _ (by omega) (by omega) (by omega) _ l HRW.out).mono ?_; rintro e w' ⟨rfl, rfl⟩; simp only [Int.toNat_natCast]; rw [HV1.out]) | (refine wpList_cut rfl 27 5 (.tmp 28) (.tmp 29) (.tmp 33) rfl Tryd.underlying27 (size := 1) (by kernel_rfl) A n c rfl rfl rfl p (1 + y) (by omega) (by omega) (by omega) ?_) | (at_builtin; refine wpList_app (w0 := w) wr w.heap.size rfl _ _ 27 27 5 (.int .u8 0) 1 1 rfl Tryd.underlying27 info_u8 rfl (by omega) (by omega) (.slice A1 out.length c1) out.length (bs out) rfl (.own ho) (.slice (cutS A p c 1) (1 + y) (c - p)) (1 + y) (bs ((l.drop p).take (1 + y))) rfl (.slice HCUT.out (bs_one _)) hb hb.size (by omega) ?_; intro v3 w3 _ ho3' hb3 hg3; have ho3 := ho3' (.inr ho)))
    have hlen2 : (out ++ (l.drop p).take (1 + y)).length = out.length + (1 + y) := by
      have := HLL.out
      rw [List.length_append, List.length_take, List.length_drop]; omega
    go_roundw
    case rel => exact ⟨p + 1 + y, nx, rr, f, out ++ (l.drop p).take (1 + y), by go_num, rfl, rfl, by omega, hrr, hnx, by omega, by rw [hlen2]; simpa [bs] using ho3, Lib.hid ⟨by have := HF.out.1; omega, H2.out⟩, hb3⟩
    case measure => refine Nat.lt_of_le_of_lt (Nat.le_of_eq (congr (congrArg (mesT n) (a₂ := .int .i64 ((p + 1 + y : Nat) : Int)) ?_) rfl)) (mesT_lt2 (n := n) (r := rr) (p := p) (a := p + 1 + y) (by omega) (by omega)); go_num
end Go.Proofs.YtdjknikkiojfhaaDoor

/- press.New, Put, Plain: contracts; wakes. -/
namespace Go.Proofs.YtdjknikkiojfhaaDoor
open Go.RowKit Go.HL Go.Maps
set_option linter.unusedVariables false
set_option linter.unusedSimpArgs false
attribute [local go_sem] run_makeMap
theorem ok2 (a b : UInt8) : okL [[a], [b]] := by
  intro x hx
  simp at hx
  rcases hx with rfl | rfl <;> simp
theorem new_ (w : World) : Calls Tryd.prog 40 #[] w fun e w' => e = .returned (.pointer (some ⟨w.heap.size + 1, 0, none⟩)) ∧ w' = (w.alloc (.map #[] 0)).alloc (.cells #[.map (some w.heap.size)] 119) := by
  go_enter Tryd.func40, Tryd.ntmps40
  go_wp2
  go_ret
  exact ⟨rfl, rfl⟩
/-- Two results. -/
def Two (R : Value → Value → World → Prop) (e : Ending) (w' : World) : Prop := ∃ a b, e = .returned (.tuple #[a, b]) ∧ R a b w'
theorem put_two (w : World) (p b s : Value) (R : Value → Value → World → Prop) (h : Calls Tryd.prog 64 #[p, b, s, .bool false] w (Two R)) : Calls Tryd.prog 41 #[p, b, s] w (Two R) := by
  go_enter Tryd.func41, Tryd.ntmps41
  go_wp2_with (go_at_call 64; refine h.mono ?_; clear h; rintro e w1 ⟨x, y, rfl, hR⟩)
  go_ret2
  exact ⟨x, y, rfl, hR⟩
theorem plain_two (w : World) (p b s : Value) (R : Value → Value → World → Prop) (h : Calls Tryd.prog 64 #[p, b, s, .bool true] w (Two R)) : Calls Tryd.prog 66 #[p, b, s] w (Two R) := by
  go_enter Tryd.func66, Tryd.ntmps66
  go_wp2_with (go_at_call 64; refine h.mono ?_; clear h; rintro e w1 ⟨x, y, rfl, hR⟩)
  go_ret2
  exact ⟨x, y, rfl, hR⟩
/-- No bytes and an error. -/
def NoneB (w : World) (er : Int) (a b : Value) (w' : World) : Prop := a = .slice none 0 0 ∧ b = .int .i64 er ∧ Below w.heap.size w w'
theorem two_none {f : Nat} {args : Array Value} {w : World} {er : Int} (h : Calls Tryd.prog f args w (None2 w er)) : Calls Tryd.prog f args w (Two (NoneB w er)) :=
  h.mono fun e w' ⟨h1, h2⟩ => ⟨_, _, h1, rfl, rfl, h2⟩
/-- The bytes behind, and what is remembered then. -/
def SomeB (w : World) (bm : Nat) (plain : Bool) (l : List UInt8) (ls : List (List UInt8)) (tab : Tb) (a b : Value) (w' : World) : Prop :=
  b = .int .i64 0 ∧ w'.ownsRow w.heap.size 5 1 a (l.length + (en plain tab ls l.length).1.length) (bs (l ++ (en plain tab ls l.length).1)) ∧ Tbl w' bm (en plain tab ls l.length).2 ∧ w.grownBy w' (some bm)
theorem two_some {f : Nat} {args : Array Value} {w : World} {bm : Nat} {plain : Bool} {l : List UInt8} {ls : List (List UInt8)} {tab : Tb} (h : Calls Tryd.prog f args w (RowR w bm plain l ls tab)) : Calls Tryd.prog f args w (Two (SomeB w bm plain l ls tab)) :=
  h.mono fun e w' ⟨v2, h1, h2⟩ => ⟨v2, _, h1, rfl, h2⟩
theorem put_ok (w : World) (gt bm : Nat) (hgt : w.cell? ⟨gt, 0, none⟩ = some (.map (some bm))) (hgb : gt ≠ bm) (tab : Tb) (hT : Tbl w bm tab) (A : Option Addr) (n c : Nat) (l : List UInt8) (hr : Rd w 1 A n c (bs l)) (hn : n ≤ 140737488354000) (ls : List (List UInt8)) (hok : okL ls) (h255 : (gl ls).length ≤ 255) (htl : tab.length ≤ 100000000) :
    Calls Tryd.prog 41 #[.pointer (some ⟨gt, 0, none⟩), .slice A n c, .string (str (gl ls))] w (Two (SomeB w bm false l ls tab)) :=
  put_two w _ _ _ _ (two_some (row_ok w gt bm hgt hgb tab hT A n c l hr hn ls hok h255 htl false))
/-- A table that was made. -/
structure Made (w : World) (gt bm : Nat) (tab : Tb) : Prop where
  cell : w.cell? ⟨gt, 0, none⟩ = some (.map (some bm))
  ne : gt ≠ bm
  tbl : Tbl w bm tab
theorem Made.new (w : World) : Made ((w.alloc (.map #[] 0)).alloc (.cells #[.map (some w.heap.size)] 119)) (w.heap.size + 1) w.heap.size [] := by
  refine ⟨?_, by omega, (Tbl.made w).kept (World.grownBy_alloc _ _ none) (by simp)⟩
  have hb := Boxed.new (w.alloc (.map #[] 0)) 119 (.map (some w.heap.size))
  rw [World.size_alloc] at hb
  exact hb.cell
theorem Made.next {w w' : World} {gt bm : Nat} {tab tab' : Tb} (h : Made w gt bm tab) (hg : w.grownBy w' (some bm)) (ht : Tbl w' bm tab') : Made w' gt bm tab' :=
  ⟨hg.cell h.cell (by simpa using h.ne), h.ne, ht⟩
theorem Made.below (w : World) : Below w.heap.size w ((w.alloc (.map #[] 0)).alloc (.cells #[.map (some w.heap.size)] 119)) :=
  ((Below.refl _ _).alloc (Nat.le_refl _) _).alloc (by rw [World.size_alloc]; omega) _
end Go.Proofs.YtdjknikkiojfhaaDoor

/- What a type's data are made of: rdata.form. -/
namespace Go.Proofs.YtdjknikkiojfhaaDoor
open Go.RowKit Go.HL Go.Maps
set_option linter.unusedVariables false
set_option linter.unusedSimpArgs false
def kindsL : List (Int × List UInt8 × List UInt8) := [(1, [65], [97]), (2, [78, 83], [104]), (5, [67, 78, 65, 77, 69], [104]), (6, [83, 79, 65], [104, 109, 108, 108, 108, 108, 108]), (12, [80, 84, 82], [104]), (15, [77, 88], [115, 104]), (16, [84, 88, 84], [120]), (28, [65, 65, 65, 65], [113]), (33, [83, 82, 86], [115, 115, 115, 112])]
def kindCells : List Value := kindsL.flatMap fun x => [.int .u16 x.1, .string (str x.2.1), .string (str x.2.2)]
/-- What the package's variable reads as. -/
def Kd (W : World) : Prop := Cells W ⟨0, 0, none⟩ kindCells
theorem Kd.below {W W' : World} (h : Kd W) (b : Below W.heap.size W W') : Kd W' := fun j u hu => by
  have := h j u hu
  rw [b.cell (World.block_lt_of_cell? W _ this)]
  exact this
def formF : List (Int × List UInt8 × List UInt8) → Int → List UInt8
  | [], _ => [114]
  | (a, _, f) :: r, t => if a = t then f else formF r t
def formV (t : Int) : List UInt8 := formF kindsL t
theorem form_ (W : World) (t : Int) (h : Kd W) : Calls Tryd.prog 59 #[.int .u16 t] W fun e W' => e = .returned (.string (str (formV t))) ∧ W' = W := by
  go_enter Tryd.func59, Tryd.ntmps59
  go_wp2
  go_loopw [4] (fun i wr => ∃ k : Nat, k ≤ 9 ∧ i = .int .i64 k ∧ wr = W ∧ formF (kindsL.drop k) t = formV t) (fun i _ => 9 - (intOf i).toNat)
  case atStart => exact ⟨0, by omega, rfl, rfl, rfl⟩
  case round =>
    obtain ⟨k, hk, rfl, rfl, hf⟩ := hrel
    by_cases hlt : k < 9
    · have hki : (k : Int) < 9 := by omega
      obtain ⟨a, n, f, e1⟩ : ∃ a n f, kindsL.drop k = (a, n, f) :: kindsL.drop (k + 1) := by
        rcases k with _ | _ | _ | _ | _ | _ | _ | _ | _ | k
        all_goals first | exact ⟨_, _, _, rfl⟩ | omega
      have c0 : kindCells[k * 3]? = some (.int .u16 a) ∧ kindCells[k * 3 + 2]? = some (.string (str f)) := by
        rcases k with _ | _ | _ | _ | _ | _ | _ | _ | _ | k
        all_goals first | (simp only [kindsL, List.drop] at e1; cases e1; exact ⟨rfl, rfl⟩) | omega
      have t0 := h _ _ c0.1
      have t2 := h _ _ c0.2
      rw [add_plain] at t0 t2
      rw [e1] at hf
      unfold formF at hf
      by_cases he : a = t
      · subst he
        rw [if_pos rfl] at hf
        clear e1 c0 h
        go_wp2
        go_ret
        exact ⟨rfl, by trivial⟩
      · rw [if_neg he] at hf
        have he2 : (a == t) = false := by simpa using he
        clear e1 c0
        go_wp2
        go_roundw
        case rel => exact ⟨k + 1, by omega, by go_num, by trivial, hf⟩
        case measure => simp [intOf]; omega
    · obtain rfl : k = 9 := by omega
      go_wp2
      go_ret
      exact ⟨by rw [← hf]; rfl, by trivial⟩
end Go.Proofs.YtdjknikkiojfhaaDoor
