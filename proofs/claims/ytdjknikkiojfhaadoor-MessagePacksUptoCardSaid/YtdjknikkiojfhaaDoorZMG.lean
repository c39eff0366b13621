import Derived.Test.YtdjknikkiojfhaaDoorZMF
/- hearsayref06.Bytes: what holds meanwhile. -/
namespace Go.Proofs.YtdjknikkiojfhaaDoor
open Go.RowKit Go.HL Go.Maps
set_option linter.unusedVariables false
set_option linter.unusedSimpArgs false
/-- Rows of other things than bytes and the table's are kept. -/
def Kq (w w' : World) : Prop := ∀ (b : Nat) (t : TypeId) (cs : List Value), t ≠ 5 → t ≠ 40 → t ≠ 3 → t ≠ 95 → Blk w b t cs → Blk w' b t cs
theorem Kq.of_below {w w' : World} (h : Below w.heap.size w w') : Kq w w' := fun b t cs _ _ _ _ hk => hk.below h
theorem Kq.trans {a b c : World} (h : Kq a b) (k : Kq b c) : Kq a c := fun i t cs h1 h2 h3 h4 hk => k i t cs h1 h2 h3 h4 (h i t cs h1 h2 h3 h4 hk)
theorem Kq.of_chg {rt : Nat} {w w' : World} (h : Chg rt w w') : Kq w w' := fun b t cs _ h2 h3 h4 hk => h.2 _ _ _ _ h2 h3 h4 hk
/-- What holds while the document writes a message. -/
structure Rb (W : World) (rt : Nat) (l : List UInt8) (tab : Tb) (A : Option Addr) (n c q r : Nat) (wr : World) : Prop where
  T : ∃ vn vp, RefT wr rt vn vp tab
  own : wr.ownsRow W.heap.size 5 1 (.slice A n c) n (bs l)
  B : Below W.heap.size W wr
  g1 : W.heap.size ≤ rt
  tb : ∀ p ∈ tab, p.2 ≤ 16383
  bd : n ≤ q
  tl : tab.length ≤ r
section
variable {W : World} {rt : Nat} {l l' : List UInt8} {tab tab' : Tb} {A : Option Addr} {n c q r q' r' : Nat} {wr w' : World} {v : Value}
theorem Rb.rd (h : Rb W rt l tab A n c q r wr) : Rd wr 1 A n c (bs l) := rd_own h.own
theorem Rb.len (h : Rb W rt l tab A n c q r wr) : l.length = n := h.rd.blen
theorem Rb.weak (h : Rb W rt l tab A n c q r wr) (hq : q ≤ q') (hr : r ≤ r') : Rb W rt l tab A n c q' r' wr := ⟨h.T, h.own, h.B, h.g1, h.tb, Nat.le_trans h.bd hq, Nat.le_trans h.tl hr⟩
theorem Rb.below (h : Rb W rt l tab A n c q r wr) (hb : Below wr.heap.size wr w') : Rb W rt l tab A n c q r w' := by
  obtain ⟨vn, vp, hT⟩ := h.T
  exact ⟨⟨vn, vp, hT.below hb⟩, own_below h.own hb, below_trans h.B hb, h.g1, h.tb, h.bd, h.tl⟩
theorem Rb.drew (h : Rb W rt l tab A n c q r wr) : Rb W rt l tab A n c q r wr.drew := h.below (Below.refl _ _).drew
/-- A new row in the place of the old one. -/
theorem Rb.row {k : Nat} (h : Rb W rt l tab A n c q r wr) (hc : Chg rt wr w') (hT : ∃ vn vp, RefT w' rt vn vp tab') (htb : ∀ p ∈ tab', p.2 ≤ 16383) (ho : w'.ownsRow wr.heap.size 5 1 v k (bs l')) (hq : k ≤ q') (hr : tab'.length ≤ r') : ∃ A' c', v = .slice A' k c' ∧ Rb W rt l' tab' A' k c' q' r' w' ∧ Kq wr w' := by
  obtain ⟨A', c', rfl, -⟩ := own_rd ho
  exact ⟨A', c', rfl, ⟨hT, own_lower ho h.B.size, h.B.trans (hc.1.mono h.g1), h.g1, htb, hq, hr⟩, Kq.of_chg hc⟩
theorem Rb.num (h : Rb W rt l tab A n c q r wr) (hq : q ≤ 100000000000) (k : Nat) (hk : k ≤ 4) (x : Int) (hx : 0 ≤ x ∧ x < 4294967296) : Calls Tryd.prog 47 #[.slice A n c, .int .u32 x, .int .i64 k] wr fun e w' => ∃ A' n' c', e = .returned (.slice A' n' c') ∧ Rb W rt (l ++ be k x) tab A' n' c' (q + k) r w' ∧ Kq wr w' := by
  have hbd := h.bd
  refine (rput A n c x k hk hx.1 hx.2 (by omega) wr (bs l) h.rd (bs_one _)).mono ?_
  rintro e w5 ⟨sv, rfl, ho, hb⟩
  rw [← bs_append] at ho
  obtain ⟨vn, vp, hT⟩ := h.T
  obtain ⟨A', c', rfl, hB⟩ := h.row (chg_below hb (Nat.le_of_lt hT.lt)) ⟨vn, vp, hT.below hb⟩ h.tb ho (Nat.add_le_add_right hbd k) h.tl
  exact ⟨A', _, c', rfl, hB⟩
theorem Rb.num2 (h : Rb W rt l tab A n c q r wr) (hq : q ≤ 100000000000) (x : Int) (hx : 0 ≤ x ∧ x < 4294967296) : Calls Tryd.prog 47 #[.slice A n c, .int .u32 x, .int .i64 2] wr fun e w' => ∃ A' n' c', e = .returned (.slice A' n' c') ∧ Rb W rt (l ++ be 2 x) tab A' n' c' (q + 2) r w' ∧ Kq wr w' := h.num hq 2 (by omega) x hx
theorem Rb.num4 (h : Rb W rt l tab A n c q r wr) (hq : q ≤ 100000000000) (x : Int) (hx : 0 ≤ x ∧ x < 4294967296) : Calls Tryd.prog 47 #[.slice A n c, .int .u32 x, .int .i64 4] wr fun e w' => ∃ A' n' c', e = .returned (.slice A' n' c') ∧ Rb W rt (l ++ be 4 x) tab A' n' c' (q + 4) r w' ∧ Kq wr w' := h.num hq 4 (by omega) x hx
theorem Rb.name (h : Rb W rt l tab A n c q r wr) (hq : q ≤ 39000000000) (hr : r ≤ 90000000) (s : ByteArray) (hs : isNm s = true) : Calls Tryd.prog 48 #[.pointer (some ⟨rt, 0, none⟩), .slice A n c, .string s] wr (Two fun a er w' => ∃ A' n' c', a = .slice A' n' c' ∧ er = .int .i64 0 ∧ Rb W rt (l ++ (en false tab (lsOf s) l.length).1) (en false tab (lsOf s) l.length).2 A' n' c' (q + 255) (r + 255) w' ∧ Kq wr w') := by
  have hbd := h.bd
  have htl := h.tl
  obtain ⟨hnm, hok, h255⟩ := lsOf_ok hs
  obtain ⟨vn, vp, hT⟩ := h.T
  have hc := rput_two _ _ _ _ _ (rput_ok wr rt vn vp tab hT (by omega) h.tb A n c l h.rd (by omega) (lsOf s) hok h255 false)
  rw [← hnm] at hc
  refine hc.mono ?_
  rintro e w5 ⟨a, er, rfl, rfl, ho, vn', vp', hT', hC⟩
  have hes := (en_size false (lsOf s) tab l.length).2.1
  have het := en_len false (lsOf s) tab l.length
  have hgc := gl_count (lsOf s)
  have hll := h.len
  obtain ⟨A', c', rfl, hB⟩ := h.row (q' := q + 255) (r' := r + 255) hC ⟨vn', vp', hT'⟩ (en_bd _ _ _ _ h.tb) ho (by omega) (by omega)
  exact ⟨_, _, rfl, A', _, c', rfl, rfl, hB⟩
theorem encs_bd (d : Dt) (f : List UInt8) (s : List UInt8 × Tb × Nat) (h : ∀ p ∈ s.2.1, p.2 ≤ 16383) : ∀ p ∈ (f.foldl (encL d) s).2.1, p.2 ≤ 16383 := by
  induction f generalizing s with
  | nil => exact h
  | cons c f ih =>
    rw [List.foldl_cons]
    refine ih _ ?_
    unfold encL
    repeat' split
    all_goals first
      | exact en_bd _ _ _ _ h
      | exact h
theorem Rb.data (h : Rb W rt l tab A n c q r wr) (hq : q ≤ 38000000000) (hr : r ≤ 80000000) (x : Rc) (hx : okD x) (hraw : x.raw.size ≤ 100000000) : Calls Tryd.prog 49 #[.slice A n c, .pointer (some ⟨rt, 0, none⟩), .int .u16 x.ty, x.dt.val] wr (Two fun a er w' => ∃ A' n' c', a = .slice A' n' c' ∧ er = .int .i64 0 ∧ Rb W rt (encs x.dt (formV x.ty) l tab).1 (encs x.dt (formV x.ty) l tab).2.1 A' n' c' (q + 458745) (r + 1785) w' ∧ Kq wr w') := by
  have hbd := h.bd
  have htl := h.tl
  have hneed := okF_need hx.dt
  have hlen7 : (formV x.ty).length ≤ 7 := by
    have h := forms x.ty
    generalize formV x.ty = f at h
    simp only [List.mem_cons, List.not_mem_nil, or_false] at h
    rcases h with rfl | rfl | rfl | rfl | rfl | rfl | rfl | rfl <;> decide
  obtain ⟨vn, vp, hT⟩ := h.T
  refine (rputD_ wr x.dt hx.z1 hx.z2 hraw x.ty (by rw [← dt_same x hx.ok]; exact hx.dt) hx.dt (Rc.dt_ok hx.ok) rt vn vp tab hT h.tb A n c l h.rd (by omega) (by omega)).mono ?_
  rintro e w5 ⟨a, er, rfl, rfl, ho, vn', vp', hT', hC⟩
  have hsz := encs_len x.dt (formV x.ty) (l, tab, 0) (fun c hc => hneed c hc)
  rw [show (formV x.ty).foldl (encL x.dt) (l, tab, 0) = encs x.dt (formV x.ty) l tab from rfl] at hsz
  simp only at hsz
  have hll := h.len
  obtain ⟨A', c', rfl, hB⟩ := h.row (q' := q + 458745) (r' := r + 1785) hC ⟨vn', vp', hT'⟩ (encs_bd _ _ _ h.tb) ho (by omega) (by omega)
  exact ⟨_, _, rfl, A', _, c', rfl, rfl, hB⟩
theorem RefT.grown {w w' : World} {vn vp : Value} {base m : Nat} {v : Value} {cs : List Value} (h : RefT w rt vn vp tab) (ho : w.ownsRow base 5 1 v m cs) (hg : w.grownBy w' v.ownBlock) : RefT w' rt vn vp tab :=
  ⟨(hg.block rt h.lt (fun e => own_ne_blk ho (show Blk w rt 95 [vn, vp] from h.box) (by decide) e.symm)).trans h.box, own_kept_other h.rn ho (by decide) hg, own_kept_other h.rp ho (by decide) hg⟩
/-- The two bytes ahead of data. -/
theorem Rb.two (h : Rb W rt l tab A n c q r wr) (hg : wr.grownBy w' (Value.slice A n c).ownBlock) (ho : w'.ownsRow W.heap.size 5 1 v (n + 2) (bs (l ++ [0, 0]))) : ∃ A' c', v = .slice A' (n + 2) c' ∧ Rb W rt (l ++ [0, 0]) tab A' (n + 2) c' (q + 2) r w' ∧ Kq wr w' := by
  obtain ⟨A', c', rfl, hrd⟩ := own_rd ho
  have hz := h.B.size
  obtain ⟨vn, vp, hT⟩ := h.T
  exact ⟨A', c', rfl, ⟨⟨vn, vp, hT.grown h.own hg⟩, ho, Below.grown h.B hg hz (fun k hk => own_base h.own k hk), h.g1, h.tb, by have := h.bd; omega, h.tl⟩, fun b t cs ht _ _ _ hk => hk.grown hg (fun e => own_ne_blk h.own hk (fun e2 => ht e2.symm) e.symm)⟩
/-- A byte is stored into the row. -/
theorem Rb.put {g : Nat} (h : Rb W rt l tab (some ⟨g, 0, none⟩) n c q r wr) (j : Nat) (u : UInt8) (hj : j < n) : Rb W rt (l.set j u) tab (some ⟨g, 0, none⟩) n c q r (wr.setCell ⟨g, j, none⟩ (.int .u8 (u.toNat : Int))) ∧ Kq wr (wr.setCell ⟨g, j, none⟩ (.int .u8 (u.toNat : Int))) := by
  have hz := h.B.size
  have hg : wr.grownBy (wr.setCell ⟨g, j, none⟩ (.int .u8 (u.toNat : Int))) (Value.slice (some ⟨g, 0, none⟩) n c).ownBlock := grown_set wr ⟨g, j, none⟩ _
  have h1 := own_put h.own j (.int .u8 (u.toNat : Int)) hj
  have e1 : (bs l).set j (.int .u8 (u.toNat : Int)) = bs (l.set j u) := by unfold bs; rw [List.map_set]
  rw [e1] at h1
  obtain ⟨vn, vp, hT⟩ := h.T
  exact ⟨⟨⟨vn, vp, hT.grown h.own hg⟩, h1, Below.grown h.B hg hz (fun k hk => own_base h.own k hk), h.g1, h.tb, h.bd, h.tl⟩, fun b t cs ht _ _ _ hk => hk.grown hg (fun e => own_ne_blk h.own hk (fun e2 => ht e2.symm) e.symm)⟩
end
end Go.Proofs.YtdjknikkiojfhaaDoor
