/- edns: a message's code. -/
import Derived.Test.YtdgdgioenfglnaaLF
namespace Go.Proofs.Ytdgdgioenfglnaa
open Go.RowKit Go.HL
set_option linter.unusedVariables false
set_option linter.unusedSimpArgs false

/-- A message, but for its last part. -/
structure Mg where
  id : Int
  reply : Bool
  op : Int
  aa : Bool
  tc : Bool
  rd : Bool
  ra : Bool
  z : Int
  rc : Int
  qa : Option Addr
  qn : Nat
  qc : Nat
  aA : Option Addr
  an : Nat
  ac : Nat
  uA : Option Addr
  un : Nat
  uc : Nat
def Mg.cells (m : Mg) (A : Option Addr) (n c : Nat) : List Value := [.int .u16 m.id, .bool m.reply, .int .u8 m.op, .bool m.aa, .bool m.tc, .bool m.rd, .bool m.ra, .int .u8 m.z, .int .u8 m.rc, .slice m.qa m.qn m.qc, .slice m.aA m.an m.ac, .slice m.uA m.un m.uc, .slice A n c]
def Mg.val (m : Mg) (A : Option Addr) (n c : Nat) : Value := .agg #[.int .u16 m.id, .bool m.reply, .int .u8 m.op, .bool m.aa, .bool m.tc, .bool m.rd, .bool m.ra, .int .u8 m.z, .int .u8 m.rc, .slice m.qa m.qn m.qc, .slice m.aA m.an m.ac, .slice m.uA m.un m.uc, .slice A n c]
theorem cells_at {w : World} {a : Addr} {cs : List Value} (h : Cells w a cs) (j : Nat) (v : Value) (hj : cs[j + 1]? = some v) : w.cell? ⟨a.block, a.off + (j + 1), none⟩ = some v := by
  have := h (j + 1) v hj
  rwa [Addr.add_succ'] at this
theorem idx_cases (l : List Rc) : (idx l = -1 ∧ ∀ (j : Nat) r, l[j]? = some r → isOpt r = false) ∨ ∃ (i : Nat) (r : Rc), idx l = i ∧ l[i]? = some r ∧ isOpt r = true ∧ ∀ (j : Nat) q, j < i → l[j]? = some q → isOpt q = false := by
  cases h : l.findIdx? isOpt with
  | none =>
    rw [List.findIdx?_eq_none_iff] at h
    refine .inl ⟨?_, fun j r hj => by simpa using h r (List.mem_of_getElem? hj)⟩
    unfold idx
    rw [List.findIdx?_eq_none_iff.2 h]
  | some i =>
    have h' := h
    rw [List.findIdx?_eq_some_iff_getElem] at h'
    obtain ⟨h1, h2, h3⟩ := h'
    refine .inr ⟨i, l[i], by unfold idx; rw [h], List.getElem?_eq_getElem h1, h2, fun j q hj hq => ?_⟩
    have hjl := (List.getElem?_eq_some_iff.1 hq)
    obtain ⟨h4, h5⟩ := hjl
    have := h3 j hj
    rw [h5] at this
    simpa using this
def codeV (rc : Int) (l : List Rc) : Int := match l.find? isOpt with | some r => rc + r.ttl / 16777216 * 16 | none => rc
theorem codeV_none {rc : Int} {l : List Rc} (h : ∀ (j : Nat) r, l[j]? = some r → isOpt r = false) : codeV rc l = rc := by
  unfold codeV
  rw [List.find?_eq_none.2 (fun r hr => by
    obtain ⟨j, hj⟩ := List.getElem?_of_mem hr
    simpa using h j r hj)]
theorem codeV_some {rc : Int} {l : List Rc} {i : Nat} {r : Rc} (h1 : l[i]? = some r) (h2 : isOpt r = true) (h3 : ∀ (j : Nat) q, j < i → l[j]? = some q → isOpt q = false) : codeV rc l = rc + r.ttl / 16777216 * 16 := by
  unfold codeV
  have : l.find? isOpt = some r := by
    rw [List.find?_eq_some_iff_getElem]
    have hi := (List.getElem?_eq_some_iff.1 h1)
    obtain ⟨hl, he⟩ := hi
    refine ⟨h2, i, hl, he, fun j hj => ?_⟩
    have := h3 j l[j] hj (List.getElem?_eq_getElem (by omega))
    simp [this]
  rw [this]
set_option maxHeartbeats 2000000 in
theorem code_ (w : World) (m : Mg) (A : Option Addr) (n c : Nat) (l : List Rc) (hr : Rd w 12 A n c (rcs l)) (hn : n ≤ 1048576) (hok : ∀ r ∈ l, r.ok) (c0 : 0 ≤ m.rc) (c1 : m.rc < 256) :
    Calls Try.prog 16 #[m.val A n c] w (Tells w (.int .u16 (codeV m.rc l))) := by
  have hl := Rd.recs hr
  have hb0 := below_new w (.cells (m.cells A n c).toArray 46)
  have hE0 := Blk.new w 46 (m.cells A n c).toArray
  have hi := indexFunc_ (w.alloc (.cells (m.cells A n c).toArray 46)) A n c l (hr.below hb0) hn
  unfold Mg.val
  go_enter Try.func16, Try.ntmps16
  rcases idx_cases l with ⟨h1, h2⟩ | ⟨i, r, h1, h2, h3, h4⟩
  · rw [h1] at hi
    rw [codeV_none h2]
    go_wp2_with (go_at_call 22; refine hi.mono ?_; rintro e w1 ⟨rfl, hb1⟩)
    go_ret
    exact ⟨rfl, below_trans hb0 hb1⟩
  · rw [h1] at hi
    rw [codeV_some h2 h3 h4]
    have hin : i < n := by have := (List.getElem?_eq_some_iff.1 h2).1; omega
    have hro := hok r (List.mem_of_getElem? h2)
    have l0 := hro.l0
    have l1 := hro.l1
    cases A with
    | none => have := (hr.nil_ rfl).1; omega
    | some ad =>
    go_wp2_with (go_at_call 22; refine hi.mono ?_; rintro e w1 ⟨rfl, hb1⟩; have hE1 := hE0.below hb1; have d8 := hE1.cell 8 _ rfl; have d12 := hE1.cell 12 _ rfl; have hcs := Rd.rec ((hr.below hb0).below hb1) i r h2; have d3 : w1.cell? ⟨(ad.add (i * 12)).block, (ad.add (i * 12)).off + 3, none⟩ = some (.int .u32 r.ttl) := cells_at hcs 2 _ rfl)
    go_ret
    exact ⟨rfl, below_trans hb0 hb1⟩
set_option maxHeartbeats 2000000 in
theorem refCode_ (w : World) (m : Mg) (A : Option Addr) (n c : Nat) (l : List Rc) (hr : Rd w 12 A n c (rcs l)) (hn : n ≤ 1048576) (hok : ∀ r ∈ l, r.ok) (c0 : 0 ≤ m.rc) (c1 : m.rc < 256) :
    Calls Try.prog 17 #[m.val A n c] w (Tells w (.int .u16 (codeV m.rc l))) := by
  have hl := Rd.recs hr
  have hb0 := below_new w (.cells (m.cells A n c).toArray 46)
  have hE0 := Blk.new w 46 (m.cells A n c).toArray
  have hr0 := hr.below hb0
  have hw1 : IntKind.u16.wrap m.rc = m.rc := by rw [IntKind.wrap_u16]; omega
  unfold Mg.val
  go_enter Try.func17, Try.ntmps17
  go_wp2
  obtain ⟨w0, hw0⟩ : ∃ w0, w.alloc (.cells #[.int .u16 m.id, .bool m.reply, .int .u8 m.op, .bool m.aa, .bool m.tc, .bool m.rd, .bool m.ra, .int .u8 m.z, .int .u8 m.rc, .slice m.qa m.qn m.qc, .slice m.aA m.an m.ac, .slice m.uA m.un m.uc, .slice A n c] 46) = w0 := ⟨_, rfl⟩
  have hE : Blk w0 w.heap.size 46 (m.cells A n c) := by rw [← hw0]; exact hE0
  have hb : Below w.heap.size w w0 := by rw [← hw0]; exact hb0
  have hr1 : Rd w0 12 A n c (rcs l) := by rw [← hw0]; exact hr0
  rw [hw0]
  clear hw0 hE0 hb0 hr0
  go_loopw [3] (fun i wr => ∃ k : Nat, k ≤ n ∧ i = .int .i64 k ∧ (∀ j r, j < k → l[j]? = some r → isOpt r = false) ∧ Below w0.heap.size w0 wr) (fun i _ => n - (intOf i).toNat)
  case atStart => exact ⟨0, Nat.zero_le _, rfl, fun j r h => absurd h (by omega), Below.refl _ _⟩
  case round =>
    obtain ⟨k, hk, rfl, hno, hbr⟩ := hrel
    have d12 := (hE.below hbr).cell 12 _ rfl
    have d8 := (hE.below hbr).cell 8 _ rfl
    by_cases hlt : k < n
    · obtain ⟨r, hrk⟩ : ∃ r, l[k]? = some r := ⟨l[k], List.getElem?_eq_getElem (by omega)⟩
      cases A with
      | none => have := (hr.nil_ rfl).1; omega
      | some ad =>
      have hcs := Rd.rec (hr1.below hbr) k r hrk
      have d1 : wr.cell? ⟨(ad.add (k * 12)).block, (ad.add (k * 12)).off + 1, none⟩ = some (.int .u16 r.ty) := cells_at hcs 0 _ rfl
      have d3 : wr.cell? ⟨(ad.add (k * 12)).block, (ad.add (k * 12)).off + 3, none⟩ = some (.int .u32 r.ttl) := cells_at hcs 2 _ rfl
      have hro := hok r (List.mem_of_getElem? hrk)
      have l0 := hro.l0
      have l1 := hro.l1
      by_cases hty : r.ty = 41
      · have hio : isOpt r = true := by unfold isOpt; simpa using hty
        have hcv := codeV_some (rc := m.rc) hrk hio hno
        have hw2 : IntKind.u16.wrap (r.ttl / 16777216) = r.ttl / 16777216 := by rw [IntKind.wrap_u16]; omega
        have hw3 : IntKind.u16.wrap (16 * (r.ttl / 16777216)) = 16 * (r.ttl / 16777216) := by rw [IntKind.wrap_u16]; omega
        have hw4 : IntKind.u16.wrap (m.rc + 16 * (r.ttl / 16777216)) = m.rc + 16 * (r.ttl / 16777216) := by rw [IntKind.wrap_u16]; omega
        have HC := Lib.hid hcv
        clear hcv hno hcs
        go_wp2_with (fail)
        go_quiet (fail)
        go_wp2
        go_ret
        refine ⟨?_, below_trans hb (below_drewN hbr _)⟩
        rw [HC.out]
        show Ending.returned (.int .u16 (m.rc + 16 * (r.ttl / 16777216))) = _
        congr 2
        omega
      · have hio : isOpt r = false := by unfold isOpt; simpa using hty
        clear hcs
        go_wp2
        go_roundw
        case rel =>
          refine ⟨k + 1, by omega, by go_num, fun j q hj hq => ?_, hbr⟩
          by_cases hjk : j < k
          · exact hno j q hjk hq
          · obtain rfl : j = k := by omega
            rw [hrk] at hq
            cases hq
            exact hio
        case measure => simp [intOf]; omega
    · obtain rfl : k = n := by omega
      have hcv : codeV m.rc l = m.rc := codeV_none (fun j r hj => hno j r (by have := (List.getElem?_eq_some_iff.1 hj).1; omega) hj)
      go_wp2
      go_ret
      exact ⟨by rw [hcv]; rfl, below_trans hb hbr⟩
end Go.Proofs.Ytdgdgioenfglnaa
