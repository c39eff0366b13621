import Derived.Test.YtdjknikkiojfhaaDoorZRG
import Derived.Test.YtdjknikkiojfhaaDoorZHT
import Derived.Test.YtdjknikkiojfhaaDoorRows
/- Records: in memory, compared, read among arguments. -/
namespace Go.Proofs.YtdjknikkiojfhaaDoor
open Go.RowKit Go.HL Go.WideShapes
set_option linter.unusedVariables false
set_option linter.unusedSimpArgs false
/-- A record. -/
structure Rc where
  nm : ByteArray
  ty : Int
  cl : Int
  ttl : Int
  raw : ByteArray
  host : ByteArray
  mail : ByteArray
  n0 : Int
  n1 : Int
  n2 : Int
  n3 : Int
  n4 : Int
def Rc.cells (r : Rc) : List Value := [.string r.nm, .int .u16 r.ty, .int .u16 r.cl, .int .u32 r.ttl, .string r.raw, .string r.host, .string r.mail, .int .u32 r.n0, .int .u32 r.n1, .int .u32 r.n2, .int .u32 r.n3, .int .u32 r.n4]
def Rc.val (r : Rc) : Value := .agg #[.string r.nm, .int .u16 r.ty, .int .u16 r.cl, .int .u32 r.ttl, .string r.raw, .string r.host, .string r.mail, .int .u32 r.n0, .int .u32 r.n1, .int .u32 r.n2, .int .u32 r.n3, .int .u32 r.n4]
structure Rc.ok (r : Rc) : Prop where
  ty : 0 ≤ r.ty ∧ r.ty < 65536
  cl : 0 ≤ r.cl ∧ r.cl < 65536
  ttl : 0 ≤ r.ttl ∧ r.ttl < 4294967296
  n0 : 0 ≤ r.n0 ∧ r.n0 < 4294967296
  n1 : 0 ≤ r.n1 ∧ r.n1 < 4294967296
  n2 : 0 ≤ r.n2 ∧ r.n2 < 4294967296
  n3 : 0 ≤ r.n3 ∧ r.n3 < 4294967296
  n4 : 0 ≤ r.n4 ∧ r.n4 < 4294967296
  nm : r.nm.size ≤ maxLen
  raw : r.raw.size ≤ maxLen
  host : r.host.size ≤ maxLen
  mail : r.mail.size ≤ maxLen
def Rc.zero : Rc := ⟨⟨#[]⟩, 0, 0, 0, ⟨#[]⟩, ⟨#[]⟩, ⟨#[]⟩, 0, 0, 0, 0, 0⟩
theorem cells_at {w : World} {a : Addr} {cs : List Value} (h : Cells w a cs) (j : Nat) (v : Value) (hj : cs[j + 1]? = some v) : w.cell? ⟨a.block, a.off + (j + 1), none⟩ = some v := by
  rw [← Addr.add_succ']
  exact h (j + 1) v hj
theorem sizeRec : (Tryd.prog.info? 46).map (·.size) = some 12 := by kernel_rfl
def rcs (l : List Rc) : List Value := l.flatMap Rc.cells
theorem rcs_elem : ∀ (l : List Rc) (i : Nat) (r : Rc), l[i]? = some r → ((rcs l).drop (i * 12)).take 12 = r.cells
  | [], i, r, h => by simp at h
  | x :: l, 0, r, h => by
    simp only [List.getElem?_cons_zero, Option.some.injEq] at h
    subst h
    simp only [rcs, List.flatMap_cons, Nat.zero_mul, List.drop_zero]
    exact List.take_left' rfl
  | x :: l, i + 1, r, h => by
    simp only [List.getElem?_cons_succ] at h
    have ih := rcs_elem l i r h
    simp only [rcs, List.flatMap_cons]
    rw [show (i + 1) * 12 = x.cells.length + i * 12 by simp [Rc.cells]; omega, ← List.drop_drop, List.drop_left]
    exact ih
theorem Rd.rec {w : World} {ad : Addr} {n c : Nat} {l : List Rc} (h : Rd w 12 (some ad) n c (rcs l)) (i : Nat) (r : Rc) (hr : l[i]? = some r) : Cells w (ad.add (i * 12)) r.cells := by
  have := ((h.cells ad rfl).drop (i * 12)).take 12
  rwa [rcs_elem l i r hr] at this
theorem rcs_len (l : List Rc) : (rcs l).length = l.length * 12 := by
  induction l with
  | nil => rfl
  | cons x l ih => simp only [rcs, List.flatMap_cons, List.length_append, List.length_cons] at *; rw [ih]; simp [Rc.cells]; omega
theorem Rd.recs {w : World} {A : Option Addr} {n c : Nat} {l : List Rc} (h : Rd w 12 A n c (rcs l)) : l.length = n := by
  have := h.len
  rw [rcs_len] at this
  omega
theorem rcs_one (l : List Rc) : ∀ u ∈ rcs l, u.oneCell' = true := by
  intro u hu
  simp only [rcs, List.mem_flatMap] at hu
  obtain ⟨r, _, hr⟩ := hu
  simp only [Rc.cells, List.mem_cons, List.not_mem_nil, or_false] at hr
  rcases hr with h | h | h | h | h | h | h | h | h | h | h | h <;> (subst h; rfl)
theorem rcs_append (l m : List Rc) : rcs (l ++ m) = rcs l ++ rcs m := by simp [rcs]
theorem rcs_nil : rcs [] = [] := rfl
theorem rcs_take (l : List Rc) (k : Nat) : (rcs l).take (k * 12) = rcs (l.take k) := by
  by_cases h : k ≤ l.length
  · conv => lhs; rw [← List.take_append_drop k l, rcs_append]
    exact List.take_left' (by rw [rcs_len, List.length_take]; rw [Nat.min_eq_left h])
  · rw [List.take_of_length_le (show l.length ≤ k by omega), List.take_of_length_le (show (rcs l).length ≤ k * 12 by rw [rcs_len]; omega)]
theorem rcs_drop (l : List Rc) (k : Nat) : (rcs l).drop (k * 12) = rcs (l.drop k) := by
  by_cases h : k ≤ l.length
  · conv => lhs; rw [← List.take_append_drop k l, rcs_append]
    exact List.drop_left' (by rw [rcs_len, List.length_take]; rw [Nat.min_eq_left h])
  · rw [List.drop_of_length_le (show l.length ≤ k by omega), List.drop_of_length_le (show (rcs l).length ≤ k * 12 by rw [rcs_len]; omega)]
    rfl
theorem eqArr (d : Nat) (a0 a1 a2 a3 a4 b0 b1 b2 b3 b4 : Int) (w : World) :
    (Op.equalIn (d + 2) 42 (.agg #[.int .u32 a0, .int .u32 a1, .int .u32 a2, .int .u32 a3, .int .u32 a4]) (.agg #[.int .u32 b0, .int .u32 b1, .int .u32 b2, .int .u32 b3, .int .u32 b4])).run Tryd.prog w = .ok (a0 == b0 && a1 == b1 && a2 == b2 && a3 == b3 && a4 == b4) w := by
  have hi : ∃ i, Tryd.prog.info? 41 = some i := by
    cases h : Tryd.prog.info? 41 with
    | some i => exact ⟨i, rfl⟩
    | none => have : (Tryd.prog.info? 41).isSome = true := by kernel_rfl
              rw [h] at this; cases this
  obtain ⟨i, hi⟩ := hi
  have hc : Tryd.prog.cellsOf 41 = 1 := by kernel_rfl
  rw [run_equalIn_array w (d + 1) _ _ Tryd.underlying42 hi, hc]
  simp only [show List.range 5 = [0, 1, 2, 3, 4] from rfl, Op.eqItems]
  go_simp
  by_cases e0 : a0 = b0 <;> by_cases e1 : a1 = b1 <;> by_cases e2 : a2 = b2 <;> by_cases e3 : a3 = b3 <;> by_cases e4 : a4 = b4 <;> simp [e0, e1, e2, e3, e4]
def dataCells (raw host mail : ByteArray) (n0 n1 n2 n3 n4 : Int) : List Value := [.string raw, .string host, .string mail, .int .u32 n0, .int .u32 n1, .int .u32 n2, .int .u32 n3, .int .u32 n4]
theorem eqData (d : Nat) (raw host mail raw' host' mail' : ByteArray) (a0 a1 a2 a3 a4 b0 b1 b2 b3 b4 : Int) (w : World) :
    (Op.equalIn (d + 3) 44 (.agg (dataCells raw host mail a0 a1 a2 a3 a4).toArray) (.agg (dataCells raw' host' mail' b0 b1 b2 b3 b4).toArray)).run Tryd.prog w
      = .ok (raw.toList == raw'.toList && host.toList == host'.toList && mail.toList == mail'.toList && (a0 == b0 && a1 == b1 && a2 == b2 && a3 == b3 && a4 == b4)) w := by
  have hS : Tryd.prog.underlying 44 = some (.struct (Tryd.prog.fieldsOf 44)) := by kernel_rfl
  have hp : Tryd.prog.stoodInHeld 44 = false := by kernel_rfl
  have hN := eqArr d a0 a1 a2 a3 a4 b0 b1 b2 b3 b4 w
  unfold dataCells
  rw [run_equalIn_agg w (d + 2) 44 _ _ hS hp]
  clear hS hp
  simp only [Program.fieldsOf, Tryd.underlying44]
  go_simp
  by_cases h1 : raw.toList = raw'.toList <;> by_cases h2 : host.toList = host'.toList <;> by_cases h3 : mail.toList = mail'.toList <;> by_cases e0 : a0 = b0 <;> by_cases e1 : a1 = b1 <;> by_cases e2 : a2 = b2 <;> by_cases e3 : a3 = b3 <;> by_cases e4 : a4 = b4 <;> simp [h1, h2, h3, e0, e1, e2, e3, e4]
/-- Are two records one? -/
def Rc.eqB (a b : Rc) : Bool := a.nm.toList == b.nm.toList && a.ty == b.ty && a.cl == b.cl && a.ttl == b.ttl && (a.raw.toList == b.raw.toList && a.host.toList == b.host.toList && a.mail.toList == b.mail.toList && (a.n0 == b.n0 && a.n1 == b.n1 && a.n2 == b.n2 && a.n3 == b.n3 && a.n4 == b.n4))
theorem toList_inj {a b : ByteArray} (h : a.toList = b.toList) : a = b := by
  obtain ⟨x⟩ := a
  obtain ⟨y⟩ := b
  have hx := ByteArray.toList_mk x.toList
  have hy := ByteArray.toList_mk y.toList
  simp only [Array.toArray_toList] at hx hy
  rw [hx, hy] at h
  rw [Array.toList_inj.1 h]
theorem Rc.eqB_iff (a b : Rc) : a.eqB b = true ↔ a = b := by
  constructor
  · intro h
    simp only [Rc.eqB, Bool.and_eq_true, beq_iff_eq] at h
    obtain ⟨⟨⟨⟨h1, h2⟩, h3⟩, h4⟩, ⟨⟨h5, h6⟩, h7⟩, ⟨⟨⟨h8, h9⟩, h10⟩, h11⟩, h12⟩ := h
    obtain ⟨an, at', ac, al, ar, ah, am, a0, a1, a2, a3, a4⟩ := a
    obtain ⟨bn, bt', bc, bl, br, bh, bm, b0, b1, b2, b3, b4⟩ := b
    simp only at *
    rw [toList_inj h1, h2, h3, h4, toList_inj h5, toList_inj h6, toList_inj h7, h8, h9, h10, h11, h12]
  · rintro rfl
    simp [Rc.eqB]
theorem Rc.eqB_self (a : Rc) : a.eqB a = true := (Rc.eqB_iff a a).2 rfl
theorem Rc.eqB_comm (a b : Rc) : a.eqB b = b.eqB a := by
  rw [Bool.eq_iff_iff, Rc.eqB_iff, Rc.eqB_iff]
  exact eq_comm
set_option maxRecDepth 100000 in
theorem eqInRec (a b : Rc) (w : World) : (Op.equalIn 10000 46 a.val b.val).run Tryd.prog w = .ok (a.eqB b) w := by
  have hS : Tryd.prog.underlying 46 = some (.struct (Tryd.prog.fieldsOf 46)) := by kernel_rfl
  have hp : Tryd.prog.stoodInHeld 46 = false := by kernel_rfl
  obtain ⟨an, at', ac, al, ar, ah, am, a0, a1, a2, a3, a4⟩ := a
  obtain ⟨bn, bt', bc, bl, br, bh, bm, b0, b1, b2, b3, b4⟩ := b
  have hD : (Op.equalIn 9998 42 (.agg #[.int .u32 a0, .int .u32 a1, .int .u32 a2, .int .u32 a3, .int .u32 a4]) (.agg #[.int .u32 b0, .int .u32 b1, .int .u32 b2, .int .u32 b3, .int .u32 b4])).run Tryd.prog w = _ := eqArr 9996 a0 a1 a2 a3 a4 b0 b1 b2 b3 b4 w
  unfold Rc.val Rc.eqB
  rw [show (10000 : Nat) = 9999 + 1 from rfl, run_equalIn_agg w 9999 46 _ _ hS hp]
  clear hS hp
  simp only [Program.fieldsOf, Tryd.underlying46]
  generalize (a0 == b0 && a1 == b1 && a2 == b2 && a3 == b3 && a4 == b4) = D at hD ⊢
  go_simp
  by_cases h1 : an.toList = bn.toList <;> by_cases h2 : at' = bt' <;> by_cases h3 : ac = bc <;> by_cases h4 : al = bl <;> by_cases h5 : ar.toList = br.toList <;> by_cases h6 : ah.toList = bh.toList <;> by_cases h7 : am.toList = bm.toList <;> cases D <;> simp [h1, h2, h3, h4, h5, h6, h7]
theorem eqRec (a b : Rc) (w : World) : (binOp .eql 46 a.val b.val).run Tryd.prog w = .ok (.bool (a.eqB b)) w := by
  have h := eqInRec a b w
  unfold Rc.val at *
  rw [run_eql_struct, h]
  rfl
theorem neqRec (a b : Rc) (w : World) : (binOp .neq 46 a.val b.val).run Tryd.prog w = .ok (.bool (!a.eqB b)) w := by
  have h := eqInRec a b w
  unfold Rc.val at *
  rw [run_neq_struct, h]
  rfl
/-- Are two rows of records one? -/
def eqRs : List Rc → List Rc → Bool
  | [], [] => true
  | a :: l, b :: m => a.eqB b && eqRs l m
  | _, _ => false
theorem eqRs_iff : ∀ l m : List Rc, eqRs l m = true ↔ l = m
  | [], [] => by simp [eqRs]
  | a :: l, b :: m => by simp [eqRs, Rc.eqB_iff, eqRs_iff l m]
  | [], b :: m => by simp [eqRs]
  | a :: l, [] => by simp [eqRs]
theorem bulk_one {H : Type} (d : DataW H) : 1 ≤ Rows.uptoBulk d := by
  cases d with
  | lit l => cases l <;> simp [Rows.uptoBulk]
  | _ => simp [Rows.uptoBulk]
theorem bulk_part {H : Type} {d : DataW H} : ∀ {l : List (DataW H)}, d ∈ l → Rows.uptoBulk d ≤ Rows.uptoBulkAll l
  | x :: r, h => by
    simp only [Rows.uptoBulkAll]
    rcases List.mem_cons.1 h with e | e
    · subst e; omega
    · have := bulk_part e; omega
theorem bulk_len {H : Type} : ∀ (l : List (DataW H)), l.length ≤ Rows.uptoBulkAll l
  | [] => by simp [Rows.uptoBulkAll]
  | x :: r => by have := bulk_one x; have := bulk_len r; simp only [Rows.uptoBulkAll, List.length_cons]; omega
section
variable {H : Type} {enc : TypeId × Value → H} {W : World} {base : Nat} {sp : Nat → Bool} {held : Bool}
set_option maxRecDepth 100000 in
theorem rec_open (m : Nat) (cs : List Value) (x : DataW H × List MemPlace) (h : DataW.trod enc Tryd.prog W base sp held m 46 cs = some x) :
    ∃ r : Rc, cs = r.cells ∧ r.ok ∧ r.nm.size + r.raw.size + r.host.size + r.mail.size + 1 ≤ Rows.uptoBulk x.1 := by
  obtain ⟨m1, xs, rfl, hl, hx, rfl⟩ := trod_struct Tryd.underlying46 h
  rw [show Tryd.prog.cellsOf 46 = 12 from by kernel_rfl] at hl
  obtain ⟨c0, c1, c2, c3, c4, c5, c6, c7, c8, c9, c10, c11, rfl⟩ := lst12 cs hl
  obtain ⟨y0, r0, e0, hx0, rfl⟩ := mapM_cons_some hx
  obtain ⟨y1, r1, e1, hx1, rfl⟩ := mapM_cons_some hx0
  obtain ⟨y2, r2, e2, hx2, rfl⟩ := mapM_cons_some hx1
  obtain ⟨y3, r3, e3, hx3, rfl⟩ := mapM_cons_some hx2
  obtain ⟨y4, r4, e4, hx4, rfl⟩ := mapM_cons_some hx3
  obtain rfl := mapM_nil_some hx4
  clear hx hx0 hx1 hx2 hx3 hx4
  simp only [show Tryd.prog.cellsOf 40 = 1 from by kernel_rfl, List.drop_zero, List.drop_succ_cons, List.take_succ_cons, List.take_zero] at e0
  simp only [show Tryd.prog.cellsOf 22 = 1 from by kernel_rfl, List.drop_zero, List.drop_succ_cons, List.take_succ_cons, List.take_zero] at e1
  simp only [show Tryd.prog.cellsOf 22 = 1 from by kernel_rfl, List.drop_zero, List.drop_succ_cons, List.take_succ_cons, List.take_zero] at e2
  simp only [show Tryd.prog.cellsOf 41 = 1 from by kernel_rfl, List.drop_zero, List.drop_succ_cons, List.take_succ_cons, List.take_zero] at e3
  simp only [show Tryd.prog.cellsOf 44 = 8 from by kernel_rfl, List.drop_zero, List.drop_succ_cons, List.take_succ_cons, List.take_zero] at e4
  obtain ⟨nm, ea, wnm, rfl⟩ := trod_str Tryd.underlying40 e0
  obtain rfl : c0 = .string nm := by simpa using ea
  clear ea e0
  obtain ⟨ty, ea, wty, rfl⟩ := trod_int Tryd.underlying22 e1
  obtain rfl : c1 = .int .u16 ty := by simpa using ea
  clear ea e1
  obtain ⟨cl, ea, wcl, rfl⟩ := trod_int Tryd.underlying22 e2
  obtain rfl : c2 = .int .u16 cl := by simpa using ea
  clear ea e2
  obtain ⟨ttl, ea, wttl, rfl⟩ := trod_int Tryd.underlying41 e3
  obtain rfl : c3 = .int .u32 ttl := by simpa using ea
  clear ea e3
  obtain ⟨m2, ys, rfl, hl2, hy, rfl⟩ := trod_struct Tryd.underlying44 e4
  clear e4
  obtain ⟨z0, q0, f0, hy0, rfl⟩ := mapM_cons_some hy
  obtain ⟨z1, q1, f1, hy1, rfl⟩ := mapM_cons_some hy0
  obtain ⟨z2, q2, f2, hy2, rfl⟩ := mapM_cons_some hy1
  obtain ⟨z3, q3, f3, hy3, rfl⟩ := mapM_cons_some hy2
  obtain rfl := mapM_nil_some hy3
  clear hy hy0 hy1 hy2 hy3
  simp only [show Tryd.prog.cellsOf 9 = 1 from by kernel_rfl, List.drop_zero, List.drop_succ_cons, List.take_succ_cons, List.take_zero] at f0
  simp only [show Tryd.prog.cellsOf 40 = 1 from by kernel_rfl, List.drop_zero, List.drop_succ_cons, List.take_succ_cons, List.take_zero] at f1
  simp only [show Tryd.prog.cellsOf 40 = 1 from by kernel_rfl, List.drop_zero, List.drop_succ_cons, List.take_succ_cons, List.take_zero] at f2
  simp only [show Tryd.prog.cellsOf 42 = 5 from by kernel_rfl, List.drop_zero, List.drop_succ_cons, List.take_succ_cons, List.take_zero] at f3
  obtain ⟨raw, ea, wraw, rfl⟩ := trod_str Tryd.underlying9 f0
  obtain rfl : c4 = .string raw := by simpa using ea
  clear ea f0
  obtain ⟨host, ea, whost, rfl⟩ := trod_str Tryd.underlying40 f1
  obtain rfl : c5 = .string host := by simpa using ea
  clear ea f1
  obtain ⟨mail, ea, wmail, rfl⟩ := trod_str Tryd.underlying40 f2
  obtain rfl : c6 = .string mail := by simpa using ea
  clear ea f2
  obtain ⟨m3, vs, rfl, hl3, hv, rfl⟩ := trod_array Tryd.underlying42 f3
  clear f3
  rw [show List.range 5 = [0, 1, 2, 3, 4] from rfl] at hv
  obtain ⟨u0, p0, g0, hv0, rfl⟩ := mapM_cons_some hv
  obtain ⟨u1, p1, g1, hv1, rfl⟩ := mapM_cons_some hv0
  obtain ⟨u2, p2, g2, hv2, rfl⟩ := mapM_cons_some hv1
  obtain ⟨u3, p3, g3, hv3, rfl⟩ := mapM_cons_some hv2
  obtain ⟨u4, p4, g4, hv4, rfl⟩ := mapM_cons_some hv3
  obtain rfl := mapM_nil_some hv4
  clear hv hv0 hv1 hv2 hv3 hv4
  simp only [show Tryd.prog.cellsOf 41 = 1 from by kernel_rfl, Nat.mul_one, Nat.zero_mul, Nat.one_mul, List.drop_zero, List.drop_succ_cons, List.take_succ_cons, List.take_zero] at g0
  simp only [show Tryd.prog.cellsOf 41 = 1 from by kernel_rfl, Nat.mul_one, Nat.zero_mul, Nat.one_mul, List.drop_zero, List.drop_succ_cons, List.take_succ_cons, List.take_zero] at g1
  simp only [show Tryd.prog.cellsOf 41 = 1 from by kernel_rfl, Nat.mul_one, Nat.zero_mul, Nat.one_mul, List.drop_zero, List.drop_succ_cons, List.take_succ_cons, List.take_zero] at g2
  simp only [show Tryd.prog.cellsOf 41 = 1 from by kernel_rfl, Nat.mul_one, Nat.zero_mul, Nat.one_mul, List.drop_zero, List.drop_succ_cons, List.take_succ_cons, List.take_zero] at g3
  simp only [show Tryd.prog.cellsOf 41 = 1 from by kernel_rfl, Nat.mul_one, Nat.zero_mul, Nat.one_mul, List.drop_zero, List.drop_succ_cons, List.take_succ_cons, List.take_zero] at g4
  obtain ⟨n0, ea, wn0, rfl⟩ := trod_int Tryd.underlying41 g0
  obtain rfl : c7 = .int .u32 n0 := by simpa using ea
  clear ea g0
  obtain ⟨n1, ea, wn1, rfl⟩ := trod_int Tryd.underlying41 g1
  obtain rfl : c8 = .int .u32 n1 := by simpa using ea
  clear ea g1
  obtain ⟨n2, ea, wn2, rfl⟩ := trod_int Tryd.underlying41 g2
  obtain rfl : c9 = .int .u32 n2 := by simpa using ea
  clear ea g2
  obtain ⟨n3, ea, wn3, rfl⟩ := trod_int Tryd.underlying41 g3
  obtain rfl : c10 = .int .u32 n3 := by simpa using ea
  clear ea g3
  obtain ⟨n4, ea, wn4, rfl⟩ := trod_int Tryd.underlying41 g4
  obtain rfl : c11 = .int .u32 n4 := by simpa using ea
  clear ea g4
  refine ⟨⟨nm, ty, cl, ttl, raw, host, mail, n0, n1, n2, n3, n4⟩, rfl, ⟨bd_u16 wty, bd_u16 wcl, bd_u32 wttl, bd_u32 wn0, bd_u32 wn1, bd_u32 wn2, bd_u32 wn3, bd_u32 wn4, wnm, wraw, whost, wmail⟩, ?_⟩
  simp only [List.map_cons, List.map_nil, Rows.uptoBulkAll, Rows.uptoBulk, Array.length_toList]
  show nm.size + raw.size + host.size + mail.size + 1 ≤ _
  have e : ∀ b : ByteArray, b.data.size = b.size := fun _ => rfl
  simp only [e]
  omega
/-- A row of records among the arguments. -/
theorem recs_open {m : Nat} {cs : List Value} {x : DataW H × List MemPlace} (h : DataW.trod enc Tryd.prog W base sp held m 24 cs = some x) :
    ∃ (A : Option Addr) (n c : Nat) (l : List Rc), cs = [.slice A n c] ∧ Rd W 12 A n c (rcs l) ∧ n ≤ Rows.uptoBulk x.1 ∧ ∀ r ∈ l, r.ok := by
  rcases trod_slice Tryd.underlying24 h with ⟨ea, _⟩ | ⟨m2, a, len, cap, elems, rest, _, ea, hle, hm, hy⟩
  · exact ⟨none, 0, 0, [], ea, Rd.nil _ _, Nat.zero_le _, (fun r (hr : r ∈ ([] : List Rc)) => absurd hr (by simp))⟩
  · obtain ⟨l, h1, h2, h3, h4⟩ := rd_items Rc.cells 12 (by omega) (fun _ => rfl) (fun r d => r.ok ∧ r.nm.size + r.raw.size + r.host.size + r.mail.size + 1 ≤ Rows.uptoBulk d) (show Tryd.prog.cellsOf 46 = 12 from by kernel_rfl) hle (rec_open m2) hm
    rw [hy]
    simp only [Rows.uptoBulk]
    have hlen := bulk_len (elems.map (·.1))
    rw [List.length_map, h3] at hlen
    refine ⟨some a, len, cap, l, ea, h1, by omega, fun r hr => ?_⟩
    obtain ⟨d, hd, k1, k2⟩ := h4 r hr
    exact k1
end
end Go.Proofs.YtdjknikkiojfhaaDoor

/- Questions and rows of records: in memory, read among arguments. -/
namespace Go.Proofs.YtdjknikkiojfhaaDoor
open Go.RowKit Go.HL Go.WideShapes
set_option linter.unusedVariables false
set_option linter.unusedSimpArgs false
/-- A question. -/
structure Qn where
  nm : ByteArray
  ty : Int
  cl : Int
def Qn.cells (q : Qn) : List Value := [.string q.nm, .int .u16 q.ty, .int .u16 q.cl]
def Qn.val (q : Qn) : Value := .agg #[.string q.nm, .int .u16 q.ty, .int .u16 q.cl]
structure Qn.ok (q : Qn) : Prop where
  ty : 0 ≤ q.ty ∧ q.ty < 65536
  cl : 0 ≤ q.cl ∧ q.cl < 65536
  nm : q.nm.size ≤ maxLen
def qns (l : List Qn) : List Value := l.flatMap Qn.cells
/-- Records in memory. -/
structure Sl where
  a : Option Addr
  n : Nat
  c : Nat
  l : List Rc
def Sl.val (s : Sl) : Value := .slice s.a s.n s.c
structure Sl.ok (W : World) (s : Sl) : Prop where
  r : Rd W 12 s.a s.n s.c (rcs s.l)
  ok : ∀ r ∈ s.l, r.ok
theorem Sl.ok.below {W W' : World} {s : Sl} (h : s.ok W) (hb : Below W.heap.size W W') : s.ok W' := ⟨h.r.below hb, h.ok⟩
theorem Sl.ok.len {W : World} {s : Sl} (h : s.ok W) : s.l.length = s.n := Rd.recs h.r
/-- Questions in memory. -/
structure Ql where
  a : Option Addr
  n : Nat
  c : Nat
  l : List Qn
def Ql.val (s : Ql) : Value := .slice s.a s.n s.c
structure Ql.ok (W : World) (s : Ql) : Prop where
  r : Rd W 3 s.a s.n s.c (qns s.l)
  ok : ∀ r ∈ s.l, r.ok
theorem Ql.ok.below {W W' : World} {s : Ql} (h : s.ok W) (hb : Below W.heap.size W W') : s.ok W' := ⟨h.r.below hb, h.ok⟩
section
variable {H : Type} {enc : TypeId × Value → H} {W : World} {base : Nat} {sp : Nat → Bool} {held : Bool}
theorem lst3 {α : Type} (q : List α) (h : q.length = 3) : ∃ a b c, q = [a, b, c] := by
  match q, h with
  | [a, b, c], _ => exact ⟨a, b, c, rfl⟩
theorem que_open (m : Nat) (cs : List Value) (x : DataW H × List MemPlace) (h : DataW.trod enc Tryd.prog W base sp held m 55 cs = some x) :
    ∃ q : Qn, cs = q.cells ∧ q.ok ∧ q.nm.size + 1 ≤ Rows.uptoBulk x.1 := by
  obtain ⟨m1, xs, rfl, hl, hx, rfl⟩ := trod_struct Tryd.underlying55 h
  rw [show Tryd.prog.cellsOf 55 = 3 from by kernel_rfl] at hl
  obtain ⟨c0, c1, c2, rfl⟩ := lst3 cs hl
  obtain ⟨y0, r0, e0, hx0, rfl⟩ := mapM_cons_some hx
  obtain ⟨y1, r1, e1, hx1, rfl⟩ := mapM_cons_some hx0
  obtain ⟨y2, r2, e2, hx2, rfl⟩ := mapM_cons_some hx1
  obtain rfl := mapM_nil_some hx2
  clear hx hx0 hx1 hx2
  simp only [show Tryd.prog.cellsOf 40 = 1 from by kernel_rfl, List.drop_zero, List.drop_succ_cons, List.take_succ_cons, List.take_zero] at e0
  simp only [show Tryd.prog.cellsOf 22 = 1 from by kernel_rfl, List.drop_zero, List.drop_succ_cons, List.take_succ_cons, List.take_zero] at e1
  simp only [show Tryd.prog.cellsOf 22 = 1 from by kernel_rfl, List.drop_zero, List.drop_succ_cons, List.take_succ_cons, List.take_zero] at e2
  obtain ⟨nm, ea, wnm, rfl⟩ := trod_str Tryd.underlying40 e0
  obtain rfl : c0 = .string nm := by simpa using ea
  clear ea e0
  obtain ⟨ty, ea, wty, rfl⟩ := trod_int Tryd.underlying22 e1
  obtain rfl : c1 = .int .u16 ty := by simpa using ea
  clear ea e1
  obtain ⟨cl, ea, wcl, rfl⟩ := trod_int Tryd.underlying22 e2
  obtain rfl : c2 = .int .u16 cl := by simpa using ea
  clear ea e2
  refine ⟨⟨nm, ty, cl⟩, rfl, ⟨bd_u16 wty, bd_u16 wcl, wnm⟩, ?_⟩
  simp only [List.map_cons, List.map_nil, Rows.uptoBulkAll, Rows.uptoBulk, Array.length_toList]
  show nm.size + 1 ≤ _
  have e : ∀ b : ByteArray, b.data.size = b.size := fun _ => rfl
  simp only [e]
  omega
/-- A row of questions among the arguments. -/
theorem ques_open {m : Nat} {cs : List Value} {x : DataW H × List MemPlace} (h : DataW.trod enc Tryd.prog W base sp held m 23 cs = some x) :
    ∃ s : Ql, cs = [s.val] ∧ s.ok W ∧ s.n ≤ Rows.uptoBulk x.1 := by
  rcases trod_slice Tryd.underlying23 h with ⟨ea, _⟩ | ⟨m2, a, len, cap, elems, rest, _, ea, hle, hm, hy⟩
  · exact ⟨⟨none, 0, 0, []⟩, ea, ⟨Rd.nil _ _, fun r (hr : r ∈ ([] : List Qn)) => absurd hr (by simp)⟩, Nat.zero_le _⟩
  · obtain ⟨l, h1, h2, h3, h4⟩ := rd_items Qn.cells 3 (by omega) (fun _ => rfl) (fun r d => r.ok ∧ r.nm.size + 1 ≤ Rows.uptoBulk d) (show Tryd.prog.cellsOf 55 = 3 from by kernel_rfl) hle (que_open m2) hm
    rw [hy]
    simp only [Rows.uptoBulk]
    have hlen := bulk_len (elems.map (·.1))
    rw [List.length_map, h3] at hlen
    refine ⟨⟨some a, len, cap, l⟩, ea, ⟨h1, fun r hr => ?_⟩, by show len ≤ _; omega⟩
    obtain ⟨d, hd, k1, k2⟩ := h4 r hr
    exact k1
theorem recsl_open {m : Nat} {cs : List Value} {x : DataW H × List MemPlace} (h : DataW.trod enc Tryd.prog W base sp held m 24 cs = some x) :
    ∃ s : Sl, cs = [s.val] ∧ s.ok W ∧ s.n ≤ Rows.uptoBulk x.1 := by
  obtain ⟨A, n, c, l, h1, h2, h3, h4⟩ := recs_open h
  exact ⟨⟨A, n, c, l⟩, h1, ⟨h2, h4⟩, h3⟩
end
end Go.Proofs.YtdjknikkiojfhaaDoor

/- Messages: in memory, read among arguments. -/
namespace Go.Proofs.YtdjknikkiojfhaaDoor
open Go.RowKit Go.HL Go.WideShapes
set_option linter.unusedVariables false
set_option linter.unusedSimpArgs false
/-- A message. -/
structure Mg where
  id : Int
  reply : Bool
  op : Int
  aa : Bool
  tc : Bool
  rd : Bool
  ra : Bool
  z : Int
  rc : Int
  q : Ql
  an : Sl
  au : Sl
  ex : Sl
def Mg.cells (m : Mg) : List Value := [.int .u16 m.id, .bool m.reply, .int .u8 m.op, .bool m.aa, .bool m.tc, .bool m.rd, .bool m.ra, .int .u8 m.z, .int .u8 m.rc, .slice m.q.a m.q.n m.q.c, .slice m.an.a m.an.n m.an.c, .slice m.au.a m.au.n m.au.c, .slice m.ex.a m.ex.n m.ex.c]
def Mg.val (m : Mg) : Value := .agg #[.int .u16 m.id, .bool m.reply, .int .u8 m.op, .bool m.aa, .bool m.tc, .bool m.rd, .bool m.ra, .int .u8 m.z, .int .u8 m.rc, .slice m.q.a m.q.n m.q.c, .slice m.an.a m.an.n m.an.c, .slice m.au.a m.au.n m.au.c, .slice m.ex.a m.ex.n m.ex.c]
structure Mg.ok (W : World) (m : Mg) : Prop where
  id : 0 ≤ m.id ∧ m.id < 65536
  op : 0 ≤ m.op ∧ m.op < 256
  z : 0 ≤ m.z ∧ m.z < 256
  rc : 0 ≤ m.rc ∧ m.rc < 256
  q : m.q.ok W
  an : m.an.ok W
  au : m.au.ok W
  ex : m.ex.ok W
theorem Mg.ok.below {W W' : World} {m : Mg} (h : m.ok W) (hb : Below W.heap.size W W') : m.ok W' := ⟨h.id, h.op, h.z, h.rc, h.q.below hb, h.an.below hb, h.au.below hb, h.ex.below hb⟩
theorem sizeMsg : (Tryd.prog.info? 26).map (·.size) = some 13 := by kernel_rfl
section
variable {H : Type} {enc : TypeId × Value → H} {W : World} {base : Nat} {sp : Nat → Bool} {held : Bool}
theorem lst13 {α : Type} (q : List α) (h : q.length = 13) : ∃ a b c d e f g i j k l m n, q = [a, b, c, d, e, f, g, i, j, k, l, m, n] := by
  match q, h with
  | [a, b, c, d, e, f, g, i, j, k, l, m, n], _ => exact ⟨a, b, c, d, e, f, g, i, j, k, l, m, n, rfl⟩
set_option maxRecDepth 100000 in
theorem msg_open (m : Nat) (cs : List Value) (x : DataW H × List MemPlace) (h : DataW.trod enc Tryd.prog W base sp held m 26 cs = some x) :
    ∃ g : Mg, cs = g.cells ∧ g.ok W ∧ g.q.n + g.an.n + g.au.n + g.ex.n + 1 ≤ Rows.uptoBulk x.1 := by
  obtain ⟨m1, xs, rfl, hl, hx, rfl⟩ := trod_struct Tryd.underlying26 h
  rw [show Tryd.prog.cellsOf 26 = 13 from by kernel_rfl] at hl
  obtain ⟨c0, c1, c2, c3, c4, c5, c6, c7, c8, c9, c10, c11, c12, rfl⟩ := lst13 cs hl
  obtain ⟨y0, r0, e0, hx0, rfl⟩ := mapM_cons_some hx
  obtain ⟨y1, r1, e1, hx1, rfl⟩ := mapM_cons_some hx0
  obtain ⟨y2, r2, e2, hx2, rfl⟩ := mapM_cons_some hx1
  obtain ⟨y3, r3, e3, hx3, rfl⟩ := mapM_cons_some hx2
  obtain ⟨y4, r4, e4, hx4, rfl⟩ := mapM_cons_some hx3
  obtain ⟨y5, r5, e5, hx5, rfl⟩ := mapM_cons_some hx4
  obtain ⟨y6, r6, e6, hx6, rfl⟩ := mapM_cons_some hx5
  obtain ⟨y7, r7, e7, hx7, rfl⟩ := mapM_cons_some hx6
  obtain ⟨y8, r8, e8, hx8, rfl⟩ := mapM_cons_some hx7
  obtain ⟨y9, r9, e9, hx9, rfl⟩ := mapM_cons_some hx8
  obtain ⟨y10, r10, e10, hx10, rfl⟩ := mapM_cons_some hx9
  obtain ⟨y11, r11, e11, hx11, rfl⟩ := mapM_cons_some hx10
  obtain ⟨y12, r12, e12, hx12, rfl⟩ := mapM_cons_some hx11
  obtain rfl := mapM_nil_some hx12
  clear hx hx0 hx1 hx2 hx3 hx4 hx5 hx6 hx7 hx8 hx9 hx10 hx11 hx12
  simp only [show Tryd.prog.cellsOf 22 = 1 from by kernel_rfl, List.drop_zero, List.drop_succ_cons, List.take_succ_cons, List.take_zero] at e0
  simp only [show Tryd.prog.cellsOf 4 = 1 from by kernel_rfl, List.drop_zero, List.drop_succ_cons, List.take_succ_cons, List.take_zero] at e1
  simp only [show Tryd.prog.cellsOf 5 = 1 from by kernel_rfl, List.drop_zero, List.drop_succ_cons, List.take_succ_cons, List.take_zero] at e2
  simp only [show Tryd.prog.cellsOf 4 = 1 from by kernel_rfl, List.drop_zero, List.drop_succ_cons, List.take_succ_cons, List.take_zero] at e3
  simp only [show Tryd.prog.cellsOf 4 = 1 from by kernel_rfl, List.drop_zero, List.drop_succ_cons, List.take_succ_cons, List.take_zero] at e4
  simp only [show Tryd.prog.cellsOf 4 = 1 from by kernel_rfl, List.drop_zero, List.drop_succ_cons, List.take_succ_cons, List.take_zero] at e5
  simp only [show Tryd.prog.cellsOf 4 = 1 from by kernel_rfl, List.drop_zero, List.drop_succ_cons, List.take_succ_cons, List.take_zero] at e6
  simp only [show Tryd.prog.cellsOf 5 = 1 from by kernel_rfl, List.drop_zero, List.drop_succ_cons, List.take_succ_cons, List.take_zero] at e7
  simp only [show Tryd.prog.cellsOf 5 = 1 from by kernel_rfl, List.drop_zero, List.drop_succ_cons, List.take_succ_cons, List.take_zero] at e8
  simp only [show Tryd.prog.cellsOf 23 = 1 from by kernel_rfl, List.drop_zero, List.drop_succ_cons, List.take_succ_cons, List.take_zero] at e9
  simp only [show Tryd.prog.cellsOf 24 = 1 from by kernel_rfl, List.drop_zero, List.drop_succ_cons, List.take_succ_cons, List.take_zero] at e10
  simp only [show Tryd.prog.cellsOf 24 = 1 from by kernel_rfl, List.drop_zero, List.drop_succ_cons, List.take_succ_cons, List.take_zero] at e11
  simp only [show Tryd.prog.cellsOf 24 = 1 from by kernel_rfl, List.drop_zero, List.drop_succ_cons, List.take_succ_cons, List.take_zero] at e12
  obtain ⟨id, ea, wid, rfl⟩ := trod_int Tryd.underlying22 e0
  obtain rfl : c0 = .int .u16 id := by simpa using ea
  clear ea e0
  obtain ⟨reply, ea, rfl⟩ := trod_bool Tryd.underlying4 e1
  obtain rfl : c1 = .bool reply := by simpa using ea
  clear ea e1
  obtain ⟨op, ea, wop, rfl⟩ := trod_int Tryd.underlying5 e2
  obtain rfl : c2 = .int .u8 op := by simpa using ea
  clear ea e2
  obtain ⟨aa, ea, rfl⟩ := trod_bool Tryd.underlying4 e3
  obtain rfl : c3 = .bool aa := by simpa using ea
  clear ea e3
  obtain ⟨tc, ea, rfl⟩ := trod_bool Tryd.underlying4 e4
  obtain rfl : c4 = .bool tc := by simpa using ea
  clear ea e4
  obtain ⟨rd, ea, rfl⟩ := trod_bool Tryd.underlying4 e5
  obtain rfl : c5 = .bool rd := by simpa using ea
  clear ea e5
  obtain ⟨ra, ea, rfl⟩ := trod_bool Tryd.underlying4 e6
  obtain rfl : c6 = .bool ra := by simpa using ea
  clear ea e6
  obtain ⟨z, ea, wz, rfl⟩ := trod_int Tryd.underlying5 e7
  obtain rfl : c7 = .int .u8 z := by simpa using ea
  clear ea e7
  obtain ⟨rc, ea, wrc, rfl⟩ := trod_int Tryd.underlying5 e8
  obtain rfl : c8 = .int .u8 rc := by simpa using ea
  clear ea e8
  obtain ⟨q, ea, kq, bq⟩ := ques_open e9
  obtain rfl : c9 = q.val := by simpa using ea
  clear ea e9
  obtain ⟨an, ea, kan, ban⟩ := recsl_open e10
  obtain rfl : c10 = an.val := by simpa using ea
  clear ea e10
  obtain ⟨au, ea, kau, bau⟩ := recsl_open e11
  obtain rfl : c11 = au.val := by simpa using ea
  clear ea e11
  obtain ⟨ex, ea, kex, bex⟩ := recsl_open e12
  obtain rfl : c12 = ex.val := by simpa using ea
  clear ea e12
  refine ⟨⟨id, reply, op, aa, tc, rd, ra, z, rc, q, an, au, ex⟩, rfl, ⟨bd_u16 wid, bd_u8 wop, bd_u8 wz, bd_u8 wrc, kq, kan, kau, kex⟩, ?_⟩
  simp only [List.map_cons, List.map_nil, Rows.uptoBulkAll, Rows.uptoBulk]
  show q.n + an.n + au.n + ex.n + 1 ≤ _
  omega
end
end Go.Proofs.YtdjknikkiojfhaaDoor
