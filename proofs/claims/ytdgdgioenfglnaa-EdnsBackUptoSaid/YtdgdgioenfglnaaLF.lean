/- edns: records in rows; the first OPT among them. -/
import Derived.Test.YtdgdgioenfglnaaLB
namespace Go.Proofs.Ytdgdgioenfglnaa
open Go.RowKit Go.HL
set_option linter.unusedVariables false
set_option linter.unusedSimpArgs false

/-- A record. -/
structure Rc where
  nm : ByteArray
  ty : Int
  cl : Int
  ttl : Int
  raw : ByteArray
  host : ByteArray
  mail : ByteArray
  n0 : Int
  n1 : Int
  n2 : Int
  n3 : Int
  n4 : Int
def Rc.cells (r : Rc) : List Value := recCells r.nm r.ty r.cl r.ttl r.raw r.host r.mail r.n0 r.n1 r.n2 r.n3 r.n4
def Rc.val (r : Rc) : Value := .agg #[.string r.nm, .int .u16 r.ty, .int .u16 r.cl, .int .u32 r.ttl, .string r.raw, .string r.host, .string r.mail, .int .u32 r.n0, .int .u32 r.n1, .int .u32 r.n2, .int .u32 r.n3, .int .u32 r.n4]
structure Rc.ok (r : Rc) : Prop where
  t0 : 0 ≤ r.ty
  t1 : r.ty < 65536
  c0 : 0 ≤ r.cl
  c1 : r.cl < 65536
  l0 : 0 ≤ r.ttl
  l1 : r.ttl < 4294967296
  raw : r.raw.size ≤ 1048576
def rcs (l : List Rc) : List Value := l.flatMap Rc.cells
theorem rcs_elem : ∀ (l : List Rc) (i : Nat) (r : Rc), l[i]? = some r → ((rcs l).drop (i * 12)).take 12 = r.cells
  | [], i, r, h => by simp at h
  | x :: l, 0, r, h => by
    simp only [List.getElem?_cons_zero, Option.some.injEq] at h
    subst h
    simp only [rcs, List.flatMap_cons, Nat.zero_mul, List.drop_zero]
    exact List.take_left' rfl
  | x :: l, i + 1, r, h => by
    simp only [List.getElem?_cons_succ] at h
    have ih := rcs_elem l i r h
    simp only [rcs, List.flatMap_cons]
    rw [show (i + 1) * 12 = x.cells.length + i * 12 by simp [Rc.cells, recCells]; omega, ← List.drop_drop, List.drop_left]
    exact ih
theorem Rd.rec {w : World} {ad : Addr} {n c : Nat} {l : List Rc} (h : Rd w 12 (some ad) n c (rcs l)) (i : Nat) (r : Rc) (hr : l[i]? = some r) : Cells w (ad.add (i * 12)) r.cells := by
  have := ((h.cells ad rfl).drop (i * 12)).take 12
  rwa [rcs_elem l i r hr] at this
theorem rcs_len (l : List Rc) : (rcs l).length = l.length * 12 := by
  induction l with
  | nil => rfl
  | cons x l ih => simp only [rcs, List.flatMap_cons, List.length_append, List.length_cons] at *; rw [ih]; simp [Rc.cells, recCells]; omega
theorem Rd.recs {w : World} {A : Option Addr} {n c : Nat} {l : List Rc} (h : Rd w 12 A n c (rcs l)) : l.length = n := by
  have := h.len
  rw [rcs_len] at this
  omega
def isOpt (r : Rc) : Bool := r.ty == 41
/-- Where the first OPT stands. -/
def idx (l : List Rc) : Int := match l.findIdx? isOpt with | some i => i | none => -1
theorem opt_ (w : World) (r : Rc) : Calls Try.prog 23 #[r.val] w (Tells w (.bool (isOpt r))) := by
  unfold Rc.val
  go_enter Try.func23, Try.ntmps23
  go_wp2
  go_ret
  exact ⟨rfl, below_new _ _⟩
set_option maxHeartbeats 2000000 in
theorem indexFunc_ (w : World) (A : Option Addr) (n c : Nat) (l : List Rc) (hr : Rd w 12 A n c (rcs l)) (hn : n ≤ 1048576) :
    Calls Try.prog 22 #[.slice A n c, .func (.func 23) #[] #[]] w (Tells w (.int .i64 (idx l))) := by
  have hl := Rd.recs hr
  go_enter Try.func22, Try.ntmps22
  go_wp2
  go_loopw [5, 8] (fun _ i wr => ∃ k : Nat, k ≤ n ∧ i = .int .i64 k ∧ (∀ j r, j < k → l[j]? = some r → isOpt r = false) ∧ Below w.heap.size w wr) (fun _ i _ => n - (intOf i).toNat)
  case atStart => exact ⟨0, Nat.zero_le _, rfl, fun j r h => absurd h (by omega), Below.refl _ _⟩
  case round =>
    obtain ⟨k, hk, rfl, hno, hb⟩ := hrel
    by_cases hlt : k < n
    · obtain ⟨r, hrk⟩ : ∃ r, l[k]? = some r := ⟨l[k], List.getElem?_eq_getElem (by omega)⟩
      cases A with
      | none => have := (hr.nil_ rfl).1; omega
      | some ad =>
      have hcs := Rd.rec (hr.below hb) k r hrk
      have hop := fun W => opt_ W r
      cases hio : isOpt r with
      | false =>
        rw [hio] at hop
        go_wp2_with (first | (refine wpList_getAt rfl 31 (.tmp 14) rfl (ad.add (k * 12)) rfl r.cells _ hcs Try.underlying31 rfl sizeRec ?_) | (go_at_call 23; refine (hop _).mono ?_; rintro e w1 ⟨rfl, hb1⟩))
        go_roundw
        case rel =>
          refine ⟨k + 1, by omega, by go_num, fun j q hj hq => ?_, below_trans hb hb1⟩
          by_cases hjk : j < k
          · exact hno j q hjk hq
          · obtain rfl : j = k := by omega
            rw [hrk] at hq
            cases hq
            exact hio
        case measure => simp [intOf]; omega
      | true =>
        rw [hio] at hop
        have hi : idx l = (k : Int) := by
          have : l.findIdx? isOpt = some k := by
            rw [List.findIdx?_eq_some_iff_getElem]
            have hkl : k < l.length := by omega
            refine ⟨hkl, ?_, fun j hj => ?_⟩
            · rw [List.getElem?_eq_getElem hkl] at hrk
              cases hrk
              exact hio
            · have := hno j l[j] hj (List.getElem?_eq_getElem (by omega))
              simp [this]
          unfold idx
          rw [this]
        rw [hi]
        go_wp2_with (first | (refine wpList_getAt rfl 31 (.tmp 14) rfl (ad.add (k * 12)) rfl r.cells _ hcs Try.underlying31 rfl sizeRec ?_) | (go_at_call 23; refine (hop _).mono ?_; rintro e w1 ⟨rfl, hb1⟩))
        go_ret
        exact ⟨rfl, below_trans hb hb1⟩
    · obtain rfl : k = n := by omega
      have hi : idx l = -1 := by
        have : l.findIdx? isOpt = none := by
          rw [List.findIdx?_eq_none_iff]
          intro q hq
          obtain ⟨j, hj⟩ := List.getElem?_of_mem hq
          have hjl := (List.getElem?_eq_some_iff.1 hj).1
          simpa using hno j q (by omega) hj
        unfold idx
        rw [this]
      go_wp2
      go_ret
      exact ⟨by rw [hi]; rfl, hb⟩
theorem containsFunc_ (w : World) (A : Option Addr) (n c : Nat) (l : List Rc) (hr : Rd w 12 A n c (rcs l)) (hn : n ≤ 1048576) :
    Calls Try.prog 24 #[.slice A n c, .func (.func 23) #[] #[]] w (Tells w (.bool (l.any isOpt))) := by
  have hi := indexFunc_ w A n c l hr hn
  go_enter Try.func24, Try.ntmps24
  go_wp2_with (go_at_call 22; refine hi.mono ?_; rintro e w1 ⟨rfl, hb1⟩)
  go_ret
  refine ⟨?_, hb1⟩
  congr 2
  unfold idx
  cases h : l.findIdx? isOpt with
  | none =>
    rw [List.findIdx?_eq_none_iff] at h
    have : l.any isOpt = false := by rw [List.any_eq_false]; intro q hq; simpa using h q hq
    simp [this]
  | some i =>
    have : l.any isOpt = true := by
      rw [List.findIdx?_eq_some_iff_getElem] at h
      obtain ⟨h1, h2, _⟩ := h
      exact List.any_eq_true.2 ⟨_, List.getElem_mem h1, h2⟩
    rw [this]
    simp
end Go.Proofs.Ytdgdgioenfglnaa
