import Derived.Test.YtdjknikkiojfhaaDoorZRDK
import Derived.Test.YtdjknikkiojfhaaDoorZMB
import Derived.Test.YtdjknikkiojfhaaDoorZRDL
import Derived.Test.YtdjknikkiojfhaaDoorZPS
/- PressBack: the walk. -/
namespace Go.Proofs.YtdjknikkiojfhaaDoor
open Go.RowKit Go.HL
set_option linter.unusedVariables false
set_option linter.unusedSimpArgs false
theorem info_nm : (Tryd.prog.info? 40).map (fun i => (i.zero, i.size, i.bytes)) = some (some (.string ByteArray.empty), 1, 16) := by kernel_rfl
theorem rd_own {w : World} {base n m size c : Nat} {e : TypeId} {A : Option Addr} {cs : List Value} (h : w.ownsRow base e size (.slice A n c) m cs) : Rd w size A n c cs := by
  obtain ⟨A1, c1, e1, h1⟩ := own_rd h
  cases e1
  exact h1
end Go.Proofs.YtdjknikkiojfhaaDoor

/- message.bytes: what it writes, plainly; what holds meanwhile. -/
namespace Go.Proofs.YtdjknikkiojfhaaDoor
open Go.RowKit Go.HL Go.Maps
set_option linter.unusedVariables false
set_option linter.unusedSimpArgs false
/-- A question written; a record written. -/
def encQ (s : List UInt8 × Tb) (x : Qn) : List UInt8 × Tb := (s.1 ++ (en false s.2 (lsOf x.nm) s.1.length).1 ++ be 2 x.ty ++ be 2 x.cl, (en false s.2 (lsOf x.nm) s.1.length).2)
def recB (s : List UInt8 × Tb) (x : Rc) : List UInt8 := s.1 ++ (en false s.2 (lsOf x.nm) s.1.length).1 ++ be 2 x.ty ++ be 2 x.cl ++ be 4 x.ttl
def recD (s : List UInt8 × Tb) (x : Rc) : List UInt8 × Tb × Nat := encs x.dt (formV x.ty) (recB s x ++ [0, 0]) (en false s.2 (lsOf x.nm) s.1.length).2
def recN (s : List UInt8 × Tb) (x : Rc) : Int := ((recD s x).1.length : Int) - ((recB s x).length : Int) - 2
def encR (s : List UInt8 × Tb) (x : Rc) : List UInt8 × Tb := (((recD s x).1.set (recB s x).length (byteAt (recN s x) 1)).set ((recB s x).length + 1) (byteAt (recN s x) 0), (recD s x).2.1)
def headB (m : Mg) : List UInt8 := be 2 m.id ++ be 2 (flagsV m) ++ be 2 (m.q.n : Int) ++ be 2 (m.an.n : Int) ++ be 2 (m.au.n : Int) ++ be 2 (m.ex.n : Int)
/-- A message's bytes. -/
def msgB (m : Mg) : List UInt8 := (m.ex.l.foldl encR (m.au.l.foldl encR (m.an.l.foldl encR (m.q.l.foldl encQ (headB m, []))))).1
/-- What holds while a message is written. -/
structure Bs (W : World) (gt bm : Nat) (l : List UInt8) (tab : Tb) (A : Option Addr) (n c cc q r : Nat) (wr : World) : Prop where
  M : Made wr gt bm tab
  own : wr.ownsRow W.heap.size 5 1 (.slice A n c) n (bs l)
  le1 : n ≤ cc
  le2 : cc ≤ c
  G : Blk wr gt 119 [.map (some bm)]
  B : Below W.heap.size W wr
  g1 : W.heap.size ≤ gt
  g2 : W.heap.size ≤ bm
  bd : n ≤ q
  tl : tab.length ≤ r
theorem own_full {w : World} {base n c cc size : Nat} {e : TypeId} {A : Option Addr} {cs : List Value} (h : w.ownsRow base e size (.slice A n c) n cs) (h1 : n ≤ cc) (h2 : cc ≤ c) : Rd w size A n cc cs := by
  have hr := rd_own h
  refine ⟨hr.len, fun ha => ?_, h1, hr.cells⟩
  have := hr.nil_ ha
  omega
theorem own_nomap {w : World} {base n size bm : Nat} {e : TypeId} {v : Value} {cs : List Value} {tab : Tb} (h : w.ownsRow base e size v n cs) (hT : Tbl w bm tab) : v.ownBlock ≠ some bm := fun hk => by
  obtain ⟨cur, fr, h2⟩ := own_blk h hk
  have := hT.nocells _ h2
  cases this
theorem Tbl.noblk {W : World} {b bm : Nat} {tab : Tb} {t : TypeId} {cs : List Value} (h : Tbl W bm tab) (hb : Blk W b t cs) : some b ≠ some bm := fun e => by
  cases e
  have := h.nocells _ hb
  cases this
/-- Rows of other things than bytes are kept. -/
def Kp (w w' : World) : Prop := ∀ (b : Nat) (t : TypeId) (cs : List Value), t ≠ 5 → Blk w b t cs → Blk w' b t cs
section
variable {W : World} {gt bm : Nat} {l : List UInt8} {tab : Tb} {A : Option Addr} {n c cc q r : Nat} {wr w' : World}
theorem Bs.rd (h : Bs W gt bm l tab A n c cc q r wr) : Rd wr 1 A n cc (bs l) := own_full h.own h.le1 h.le2
theorem Bs.len (h : Bs W gt bm l tab A n c cc q r wr) : l.length = n := h.rd.blen
theorem Bs.weak (h : Bs W gt bm l tab A n c cc q r wr) {q' r' : Nat} (hq : q ≤ q') (hr : r ≤ r') : Bs W gt bm l tab A n c cc q' r' wr :=
  ⟨h.M, h.own, h.le1, h.le2, h.G, h.B, h.g1, h.g2, Nat.le_trans h.bd hq, Nat.le_trans h.tl hr⟩
theorem Bs.below (h : Bs W gt bm l tab A n c cc q r wr) (hb : Below wr.heap.size wr w') : Bs W gt bm l tab A n c cc q r w' :=
  ⟨h.M.at (hb.block _ (World.block_lt_of_cell? wr _ h.M.cell)) (hb.block _ h.M.tbl.lt), own_below h.own hb, h.le1, h.le2, h.G.below hb, below_trans h.B (hb.mono (Nat.le_refl _)), h.g1, h.g2, h.bd, h.tl⟩
theorem Bs.drew (h : Bs W gt bm l tab A n c cc q r wr) : Bs W gt bm l tab A n c cc q r wr.drew := h.below (Below.refl _ _).drew
/-- A new row in the place of the old one; nothing else has changed but the map. -/
theorem Bs.row {l' : List UInt8} {tab' : Tb} {v : Value} {k q' r' : Nat} (h : Bs W gt bm l tab A n c cc q r wr) (hg : wr.grownBy w' (some bm)) (ht : Tbl w' bm tab') (ho : w'.ownsRow wr.heap.size 5 1 v k (bs l')) (hq : k ≤ q') (hr : tab'.length ≤ r') : ∃ A' c', v = .slice A' k c' ∧ Bs W gt bm l' tab' A' k c' c' q' r' w' := by
  obtain ⟨A', c', rfl, hrd⟩ := own_rd ho
  have hz := h.B.size
  refine ⟨A', c', rfl, h.M.next hg ht, own_lower ho hz, hrd.le, Nat.le_refl _, h.G.grown hg (by have := h.M.ne; simpa using this), Below.grown h.B hg hz (fun k hk => by cases hk; exact h.g2), h.g1, h.g2, hq, hr⟩
theorem Bs.num16 (h : Bs W gt bm l tab A n c cc q r wr) (hq : q ≤ 100000000000) (v : Int) (hv : 0 ≤ v ∧ v < 65536) : Calls Tryd.prog 38 #[.slice A n cc, .int .u16 v] wr fun e w' => ∃ A' n' c', e = .returned (.slice A' n' c') ∧ Bs W gt bm (l ++ be 2 v) tab A' n' c' c' (q + 2) r w' ∧ Kp wr w' := by
  have hbd := h.bd
  refine (put16 A n cc v hv.1 hv.2 (by omega) wr (bs l) h.rd).mono ?_
  rintro e w5 ⟨sv, rfl, ho, hb⟩
  rw [← bs_append] at ho
  obtain ⟨A', c', rfl, hB⟩ := h.row (grown_of_below hb _) (h.M.tbl.at (hb.block _ h.M.tbl.lt)) ho (Nat.add_le_add_right hbd 2) h.tl
  exact ⟨A', _, c', rfl, hB, fun b t cs _ hk => hk.below hb⟩
theorem Bs.num32 (h : Bs W gt bm l tab A n c cc q r wr) (hq : q ≤ 100000000000) (v : Int) (hv : 0 ≤ v ∧ v < 4294967296) : Calls Tryd.prog 42 #[.slice A n cc, .int .u32 v] wr fun e w' => ∃ A' n' c', e = .returned (.slice A' n' c') ∧ Bs W gt bm (l ++ be 4 v) tab A' n' c' c' (q + 4) r w' ∧ Kp wr w' := by
  have hbd := h.bd
  refine (put32 A n cc v hv.1 hv.2 (by omega) wr (bs l) h.rd).mono ?_
  rintro e w5 ⟨sv, rfl, ho, hb⟩
  rw [← bs_append] at ho
  obtain ⟨A', c', rfl, hB⟩ := h.row (grown_of_below hb _) (h.M.tbl.at (hb.block _ h.M.tbl.lt)) ho (Nat.add_le_add_right hbd 4) h.tl
  exact ⟨A', _, c', rfl, hB, fun b t cs _ hk => hk.below hb⟩
theorem Bs.name (h : Bs W gt bm l tab A n c cc q r wr) (hq : q ≤ 100000000000) (hr : r ≤ 90000000) (s : ByteArray) (hs : isNm s = true) : Calls Tryd.prog 41 #[.pointer (some ⟨gt, 0, none⟩), .slice A n cc, .string s] wr (Two fun a er w' => ∃ A' n' c', a = .slice A' n' c' ∧ er = .int .i64 0 ∧ Bs W gt bm (l ++ (en false tab (lsOf s) l.length).1) (en false tab (lsOf s) l.length).2 A' n' c' c' (q + 255) (r + 255) w' ∧ Kp wr w') := by
  have hbd := h.bd
  have htl := h.tl
  obtain ⟨hnm, hok, h255⟩ := lsOf_ok hs
  have hc := put_ok wr gt bm h.M.cell h.M.ne tab h.M.tbl A n cc l h.rd (by omega) (lsOf s) hok h255 (by omega)
  rw [← hnm] at hc
  refine hc.mono ?_
  rintro e w5 ⟨a, er, rfl, rfl, ho, ht, hg⟩
  have hes := (en_size false (lsOf s) tab l.length).2.1
  have het := en_len false (lsOf s) tab l.length
  have hgc := gl_count (lsOf s)
  have hll := h.len
  obtain ⟨A', c', rfl, hB⟩ := h.row (q' := q + 255) (r' := r + 255) hg ht ho (by omega) (by omega)
  exact ⟨_, _, rfl, A', _, c', rfl, rfl, hB, fun b t cs _ hk => hk.grown hg (h.M.tbl.noblk hk)⟩
/-- What data may be, for a record. -/
structure okD (x : Rc) : Prop where
  ok : x.ok
  nm : isNm x.nm = true
  dt : okF (formV x.ty) x.dt = true
  z1 : x.host.size ≤ 140737488355328
  z2 : x.mail.size ≤ 140737488355328
  z3 : x.raw.size ≤ 140737488355328
theorem Bs.data (h : Bs W gt bm l tab A n c cc q r wr) (hq : q ≤ 39000000000) (hr : r ≤ 80000000) (x : Rc) (hx : okD x) (hK : Kd wr) : Calls Tryd.prog 43 #[.slice A n cc, .pointer (some ⟨gt, 0, none⟩), .int .u16 x.ty, x.dt.val] wr (Two fun a er w' => ∃ A' n' c' cc', a = .slice A' n' cc' ∧ er = .int .i64 0 ∧ Bs W gt bm (encs x.dt (formV x.ty) l tab).1 (encs x.dt (formV x.ty) l tab).2.1 A' n' c' cc' (q + 458745) (r + 1785) w' ∧ Kp wr w') := by
  have hbd := h.bd
  have htl := h.tl
  have hneed := okF_need hx.dt
  have hlen7 : (formV x.ty).length ≤ 7 := by
    have h := forms x.ty
    generalize formV x.ty = f at h
    simp only [List.mem_cons, List.not_mem_nil, or_false] at h
    rcases h with rfl | rfl | rfl | rfl | rfl | rfl | rfl | rfl <;> decide
  refine (putD_ wr x.dt hx.z1 hx.z2 hx.z3 x.ty hK hx.dt (Rc.dt_ok hx.ok) gt bm tab h.M A n cc l h.rd (by omega) (by omega)).mono ?_
  rintro e w5 ⟨a, er, rfl, rfl, hv, ht, hg⟩
  have hsz := encs_len x.dt (formV x.ty) (l, tab, 0) (fun c hc => hneed c hc)
  rw [show (formV x.ty).foldl (encL x.dt) (l, tab, 0) = encs x.dt (formV x.ty) l tab from rfl] at hsz
  simp only at hsz
  have hll := h.len
  rcases hv with ⟨rfl, hl⟩ | ho
  · have hz := h.B.size
    refine ⟨_, _, rfl, A, n, c, n, rfl, rfl, ⟨h.M.next hg ht, ?_, Nat.le_refl _, Nat.le_trans h.le1 h.le2, h.G.grown hg (by have := h.M.ne; simpa using this), Below.grown h.B hg hz (fun k hk => by cases hk; exact h.g2), h.g1, h.g2, by omega, by omega⟩, fun b t cs _ hk => hk.grown hg (h.M.tbl.noblk hk)⟩
    rw [hl]
    exact h.own.kept hg (.inr (own_nomap h.own h.M.tbl))
  · obtain ⟨A', c', rfl, hB⟩ := h.row (q' := q + 458745) (r' := r + 1785) hg ht ho (by omega) (by omega)
    exact ⟨_, _, rfl, A', _, c', c', rfl, rfl, hB, fun b t cs _ hk => hk.grown hg (h.M.tbl.noblk hk)⟩
/-- The two bytes ahead of data. -/
theorem Bs.two {v : Value} (h : Bs W gt bm l tab A n c c q r wr) (hg : wr.grownBy w' (Value.slice A n c).ownBlock) (ho : w'.ownsRow W.heap.size 5 1 v (n + 2) (bs (l ++ [0, 0]))) : ∃ A' c', v = .slice A' (n + 2) c' ∧ Bs W gt bm (l ++ [0, 0]) tab A' (n + 2) c' c' (q + 2) r w' ∧ Kp wr w' := by
  obtain ⟨A', c', rfl, hrd⟩ := own_rd ho
  have hz := h.B.size
  have hgl : gt < wr.heap.size := World.block_lt_of_cell? wr _ h.M.cell
  have hne : some bm ≠ (Value.slice A n c).ownBlock := fun e => own_nomap h.own h.M.tbl e.symm
  have hng : some gt ≠ (Value.slice A n c).ownBlock := fun e => own_ne_blk h.own h.G (by decide) e.symm
  exact ⟨A', c', rfl, ⟨h.M.at (hg.block _ hgl hng) (hg.block _ h.M.tbl.lt hne), ho, hrd.le, Nat.le_refl _, h.G.grown hg hng, Below.grown h.B hg hz (fun k hk => own_base h.own k hk), h.g1, h.g2, by have := h.bd; omega, h.tl⟩, fun b t cs ht hk => hk.grown hg (fun e => own_ne_blk h.own hk (fun e2 => ht e2.symm) e.symm)⟩
/-- A byte is stored into the row. -/
theorem Bs.put {g : Nat} (h : Bs W gt bm l tab (some ⟨g, 0, none⟩) n c cc q r wr) (j : Nat) (u : UInt8) (hj : j < n) : Bs W gt bm (l.set j u) tab (some ⟨g, 0, none⟩) n c cc q r (wr.setCell ⟨g, j, none⟩ (.int .u8 (u.toNat : Int))) := by
  have hz := h.B.size
  have hg : wr.grownBy (wr.setCell ⟨g, j, none⟩ (.int .u8 (u.toNat : Int))) (some g) := grown_set wr ⟨g, j, none⟩ _
  have hgl : gt < wr.heap.size := World.block_lt_of_cell? wr _ h.M.cell
  have hob : (Value.slice (some ⟨g, 0, none⟩) n c).ownBlock = some g := rfl
  have hng : some gt ≠ some g := fun e => own_ne_blk h.own h.G (by decide) (hob.trans e.symm)
  have h1 := own_put h.own j (.int .u8 (u.toNat : Int)) hj
  have e1 : (bs l).set j (.int .u8 (u.toNat : Int)) = bs (l.set j u) := by unfold bs; rw [List.map_set]
  rw [e1] at h1
  exact ⟨h.M.at (hg.block _ hgl hng) (hg.block _ h.M.tbl.lt (fun e => own_nomap h.own h.M.tbl (hob.trans e.symm))), h1, h.le1, h.le2, h.G.grown hg hng, Below.grown h.B hg hz (fun k hk => by cases hk; exact own_base h.own g hob), h.g1, h.g2, h.bd, h.tl⟩
end
end Go.Proofs.YtdjknikkiojfhaaDoor

/- hearsayref01.Glue: contract, by a walk. -/
namespace Go.Proofs.YtdjknikkiojfhaaDoor
open Go.RowKit Go.HL
set_option linter.unusedVariables false
set_option linter.unusedSimpArgs false
theorem str_app (a b : List UInt8) : str a ++ str b = str (a ++ b) := by
  apply ByteArray.ext
  apply Array.ext'
  simp [str]
attribute [local go_sem] str_app
theorem one_rd (W : World) (k : Nat) (h : k < 256) : Rd (W.alloc (.cells #[.int .u8 (k : Int)] 5)) 1 (some ⟨W.heap.size, 0, none⟩) 1 1 (bs [UInt8.ofNat k]) := by
  refine ⟨rfl, fun h => (by cases h), Nat.le_refl _, fun ad had => ?_⟩
  cases had
  have e : bs [UInt8.ofNat k] = [.int .u8 (k : Int)] := by
    simp only [bs, List.map_cons, List.map_nil, B]
    rw [ofNat_len (by omega)]
  rw [e]
  exact World.news_of_block (cs := #[.int .u8 (k : Int)]) (t := 5) (fr := (0, 0)) (heap_alloc_new W _)
theorem flat_take (ls : List (List UInt8)) (i : Nat) (x : List UInt8) (h : ls[i]? = some x) : flat (ls.take (i + 1)) = flat (ls.take i) ++ UInt8.ofNat x.length :: x := by
  obtain ⟨hi, h2⟩ := List.getElem?_eq_some_iff.1 h
  rw [List.take_succ_eq_append_getElem hi, h2, flat_snoc]
theorem flat_take_len (ls : List (List UInt8)) (i : Nat) : (flat (ls.take i)).length ≤ (flat ls).length := by
  conv => rhs; rw [← List.take_append_drop i ls]
  simp only [flat, List.flatMap_append, List.length_append]
  omega
set_option maxHeartbeats 1000000 in
theorem glue_ (w : World) (A : Option Addr) (n c : Nat) (ls : List (List UInt8)) (hr : Rd w 1 A n c (strs ls)) (hok : okL ls) (h255 : (gl ls).length ≤ 255) : Calls Tryd.prog 84 #[.slice A n c] w fun e w' => e = .returned (.string (str (gl ls))) ∧ Below w.heap.size w w' := by
  have hl : ls.length = n := by have := hr.len; simpa [strs] using this
  have hnc := hr.le
  have hn : n ≤ 255 := by have := gl_count ls; omega
  have hfl := fun (i : Nat) => flat_take_len ls i
  rw [gl_flat, List.length_append] at h255
  simp only [List.length_cons, List.length_nil] at h255
  have HFL := Lib.hid hfl
  clear hfl
  have HR := Lib.hid hr
  have HL := Lib.hid hl
  clear hr hl
  go_enter Tryd.func84, Tryd.ntmps84
  go_wp2
  go_loopw [3, 4] (fun s v wr => ∃ i : Nat, i ≤ n ∧ v = .int .i64 i ∧ s = .string (str (flat (ls.take i))) ∧ Below w.heap.size w wr) (fun _ v _ => n - (intOf v).toNat)
  case atStart => exact ⟨0, Nat.zero_le _, rfl, rfl, Below.refl _ _⟩
  case round =>
    obtain ⟨i, hi, rfl, rfl, hb⟩ := hrel
    by_cases hlt : i < n
    · have hi1 : (i : Int) < (n : Int) := by omega
      obtain ⟨x, hx⟩ : ∃ x, ls[i]? = some x := ⟨_, List.getElem?_eq_getElem (by rw [HL.out]; exact hlt)⟩
      have hxl := hok x (List.mem_of_getElem? hx)
      have hft := flat_take ls i x hx
      obtain ⟨pre, hpre⟩ : ∃ p, flat (ls.take i) = p := ⟨_, rfl⟩
      rw [hpre] at hft
      rw [hpre]
      have HFT := Lib.hid hft
      have hpl : (str pre).size ≤ 255 := by have := HFL.out i; rw [hpre] at this; rw [str_size]; omega
      clear hft hpre
      obtain ⟨k, hk⟩ : ∃ k, x.length = k := ⟨_, rfl⟩
      rw [hk] at hxl
      cases A with
      | none => have := (HR.out.nil_ rfl).1; omega
      | some ad =>
        have HCX := Lib.hid (fun W (hbw : Below wr.heap.size wr W) => (((HR.out.below hb).below hbw).cells ad rfl i (.string (str x)) (by simp [strs, hx]) : W.cell? (ad.add i) = some (.string (str x))))
        have HKX := Lib.hid hk
        have hsx : (str x).size = k := by rw [str_size]; exact hk
        clear hx hk
        have hk8 : IntKind.u8.wrap (k : Int) = (k : Int) := wraps_u8 _ (by omega) (by omega)
        have hc1 : wr.cell? (ad.add i) = some (.string (str x)) := HCX.out _ (Below.refl _ _)
        have hc2 : (wr.alloc (.cells #[.int .u8 (k : Int)] 5)).cell? (ad.add i) = some (.string (str x)) := HCX.out _ ((Below.refl _ _).alloc (Nat.le_refl _) _)
        have hcv := run_conv_str (P := Tryd.prog) (dst := 9) (wr.alloc (.cells #[.int .u8 (k : Int)] 5)).drew Tryd.underlying27 Tryd.underlying5 Tryd.underlying9 (one_rd wr k (by omega)).drew
        have hs1 : (str pre).size ≤ 255 := by omega
        have hs2 : (str [UInt8.ofNat k]).size = 1 := rfl
        have hlim1 : ¬ 9223372036854775807 < (str pre).size + (str [UInt8.ofNat k]).size := by omega
        have hs3 : (str (pre ++ [UInt8.ofNat k])).size = (str pre).size + 1 := by rw [str_size, str_size]; simp
        have hlim2 : ¬ 9223372036854775807 < (str (pre ++ [UInt8.ofNat k])).size + k := by omega
        clear hs1 hs2 hs3
        go_wp2_with (fail)
        go_region
        have hbx : Below w.heap.size w (wr.alloc (.cells #[.int .u8 (k : Int)] 5)).drew := (hb.alloc hb.size _).drew
        go_wp2
        go_roundw
        case rel => exact ⟨i + 1, by omega, by go_num, by rw [HFT.out, HKX.out], hbx⟩
        case measure => simp [intOf]; omega
    · have hge : decide ((i : Int) < (n : Int)) = false := by simp; omega
      have hin : i = n := by omega
      have e1 : flat (ls.take i) = flat ls := by rw [List.take_of_length_le (by rw [HL.out]; omega)]
      rw [e1]
      have e2 : flat ls ++ [0] = gl ls := rfl
      have e3 : (⟨#[0]⟩ : ByteArray) = str [0] := rfl
      have hcat : str (flat ls) ++ (⟨#[0]⟩ : ByteArray) = str (gl ls) := by rw [e3, str_app, e2]
      clear e1 e2 e3
      have hlim : ¬ 9223372036854775807 < (str (flat ls)).size + 1 := by rw [str_size]; omega
      obtain ⟨s1, hs1⟩ : ∃ s, str (flat ls) = s := ⟨_, rfl⟩
      rw [hs1] at hcat hlim ⊢
      go_wp2
      go_ret
      exact ⟨rfl, hb⟩
end Go.Proofs.YtdjknikkiojfhaaDoor

/- hearsayref03's table: find, keep; bare. -/
namespace Go.Proofs.YtdjknikkiojfhaaDoor
open Go.RowKit Go.HL
set_option linter.unusedVariables false
set_option linter.unusedSimpArgs false
def tnm (tab : Tb) : List Value := tab.map fun p => .string (str p.1)
def tpl (tab : Tb) : List Value := tab.map fun p => .int .i64 (p.2 : Int)
/-- The document's table. -/
structure RefT (W : World) (rt : Nat) (vn vp : Value) (tab : Tb) : Prop where
  box : W.heap[rt]? = some (.cells #[vn, vp] 95 (0, 0))
  rn : W.ownsRow (rt + 1) 40 1 vn tab.length (tnm tab)
  rp : W.ownsRow (rt + 1) 3 1 vp tab.length (tpl tab)
theorem RefT.lt {W : World} {rt : Nat} {vn vp : Value} {tab : Tb} (h : RefT W rt vn vp tab) : rt < W.heap.size := (Array.getElem?_eq_some_iff.1 h.box).1
theorem RefT.c0 {W : World} {rt : Nat} {vn vp : Value} {tab : Tb} (h : RefT W rt vn vp tab) : W.cell? ⟨rt, 0, none⟩ = some vn := cell_of_row W rt 0 _ _ (0, 0) h.box
theorem RefT.c1 {W : World} {rt : Nat} {vn vp : Value} {tab : Tb} (h : RefT W rt vn vp tab) : W.cell? ⟨rt, 1, none⟩ = some vp := cell_of_row W rt 1 _ _ (0, 0) h.box
theorem RefT.free {W : World} {rt : Nat} {vn vp : Value} {tab : Tb} (h : RefT W rt vn vp tab) (j : Nat) : W.frozen? ⟨rt, j, none⟩ = false := by simp [World.frozen?, h.box]
theorem RefT.below {W W' : World} {rt : Nat} {vn vp : Value} {tab : Tb} (h : RefT W rt vn vp tab) (hb : Below W.heap.size W W') : RefT W' rt vn vp tab :=
  ⟨(hb.block rt h.lt).trans h.box, own_below h.rn hb, own_below h.rp hb⟩
/-- Where a name is remembered; -1: nowhere. -/
def lookI (tab : Tb) (m : List UInt8) : Int := match HL.look tab m with | some p => (p : Int) | none => -1
set_option maxHeartbeats 1000000 in
theorem find_ (W : World) (rt : Nat) (vn vp : Value) (tab : Tb) (m : List UInt8) (h : RefT W rt vn vp tab) (hl : tab.length ≤ 100000000) :
    Calls Tryd.prog 85 #[.pointer (some ⟨rt, 0, none⟩), .string (str m)] W fun e w' => e = .returned (.int .i64 (lookI tab m)) ∧ W = w' := by
  have c0 := h.c0
  have c1 := h.c1
  obtain ⟨An, cn, rfl, hrn⟩ := own_rd h.rn
  obtain ⟨Ap, cp, rfl, hrp⟩ := own_rd h.rp
  obtain ⟨s, hs⟩ : ∃ s, str m = s := ⟨_, rfl⟩
  rw [hs]
  have HS := Lib.hid hs
  clear hs h
  have HRN := Lib.hid hrn
  have HRP := Lib.hid hrp
  clear hrn hrp
  obtain ⟨n, hn⟩ : ∃ n, tab.length = n := ⟨_, rfl⟩
  rw [hn] at c0 c1 hl HRN HRP
  have HN := Lib.hid hn
  clear hn
  go_enter Tryd.func85, Tryd.ntmps85
  go_wp2
  go_loopw [5] (fun v wr => ∃ i : Nat, v = .int .i64 i ∧ i ≤ n ∧ W = wr ∧ Hid (HL.look (tab.take i) m = none)) (fun v _ => n - (intOf v).toNat)
  case atStart => exact ⟨0, rfl, Nat.zero_le _, rfl, Lib.hid rfl⟩
  case round =>
    obtain ⟨i, rfl, hi, rfl, HLK⟩ := hrel
    by_cases hlt : i < n
    · have hi1 : (i : Int) < (n : Int) := by omega
      have hi0 : (0 : Int) ≤ (i : Int) := by omega
      obtain ⟨⟨mi, pi⟩, hti⟩ : ∃ x, tab[i]? = some x := ⟨_, List.getElem?_eq_getElem (by rw [HN.out]; exact hlt)⟩
      cases An with
      | none => have := (HRN.out.nil_ rfl).1; omega
      | some an =>
      cases Ap with
      | none => have := (HRP.out.nil_ rfl).1; omega
      | some ap =>
      have d1 := HRN.out.cells an rfl i (.string (str mi)) (by simp [tnm, hti])
      have d2 := HRP.out.cells ap rfl i (.int .i64 (pi : Int)) (by simp [tpl, hti])
      have htk : tab.take (i + 1) = tab.take i ++ [(mi, pi)] := by
        obtain ⟨h1, h2⟩ := List.getElem?_eq_some_iff.1 hti
        rw [List.take_succ_eq_append_getElem h1, h2]
      have hlk := look_snoc (p := pi) (m := mi) (tab := tab.take i)
      obtain ⟨x, hx⟩ : ∃ x, str mi = x := ⟨_, rfl⟩
      rw [hx] at d1
      have HX := Lib.hid hx
      have HTK := Lib.hid htk
      clear hx htk hti hlk
      by_cases he : x = s
      · subst he
        go_wp2
        go_ret
        refine ⟨?_, rfl⟩
        have hm : mi = m := str_inj (HX.out.trans HS.out.symm)
        subst hm
        have hl1 : HL.look (tab.take (i + 1)) mi = some pi := by
          rw [HTK.out]
          unfold HL.look at *
          rw [List.find?_append, Option.map_eq_none_iff.1 HLK.out]
          simp
        have hl2 : HL.look tab mi = some pi := by
          have := look_app (t' := tab.drop (i + 1)) hl1
          rwa [List.take_append_drop] at this
        unfold lookI
        rw [hl2]
        rfl
      · have he3 : (x.toList == s.toList) = false := by
          rw [beq_eq_false_iff_ne]
          intro e
          exact he (by rw [← HX.out, ← HS.out] at e ⊢; rw [str_toL, str_toL] at e; rw [e])
        go_wp2
        go_roundw
        case rel =>
          refine ⟨i + 1, by go_num, by omega, trivial, Lib.hid ?_⟩
          rw [HTK.out]
          unfold HL.look at *
          have hne : mi ≠ m := fun e => he (by rw [← HX.out, e, HS.out])
          rw [List.find?_append, Option.map_eq_none_iff.1 HLK.out]
          simp [hne]
        case measure => simp [intOf]; omega
    · have hge : decide ((i : Int) < (n : Int)) = false := by simp; omega
      have hl := HLK.out
      rw [List.take_of_length_le (by rw [HN.out]; omega)] at hl
      have HL2 := Lib.hid (show lookI tab m = -1 by unfold lookI; rw [hl])
      clear hl
      go_wp2
      go_ret
      exact ⟨by rw [HL2.out]; rfl, rfl⟩
end Go.Proofs.YtdjknikkiojfhaaDoor

/- hearsayref03's keep. -/
namespace Go.Proofs.YtdjknikkiojfhaaDoor
open Go.RowKit Go.HL
set_option linter.unusedVariables false
set_option linter.unusedSimpArgs false
/-- What is older than the table is kept, and rows of other things than the table's are. -/
def Chg (rt : Nat) (W W' : World) : Prop := Below rt W W' ∧ ∀ (k : Nat) cur (e : TypeId) fr, e ≠ 40 → e ≠ 3 → e ≠ 95 → W.heap[k]? = some (.cells cur e fr) → W'.heap[k]? = some (.cells cur e fr)
theorem Chg.trans {rt : Nat} {A B C : World} (h : Chg rt A B) (k : Chg rt B C) : Chg rt A C := ⟨h.1.trans k.1, fun i c e f n1 n2 n3 hi => k.2 i c e f n1 n2 n3 (h.2 i c e f n1 n2 n3 hi)⟩
theorem Chg.own {rt : Nat} {W W' : World} (h : Chg rt W W') {base n size : Nat} {v : Value} {cs : List Value} (ho : W.ownsRow base 5 size v n cs) : W'.ownsRow base 5 size v n cs := by
  refine ⟨ho.1, ?_⟩
  rcases ho.2 with hn | ⟨g, cap, cur, rfl, hb, hgg, rest⟩
  · exact .inl hn
  · exact .inr ⟨g, cap, cur, rfl, hb, h.2 _ _ _ _ (by decide) (by decide) (by decide) hgg, rest⟩
theorem chg_below {rt : Nat} {W W' : World} (h : Below W.heap.size W W') (hr : rt ≤ W.heap.size) : Chg rt W W' :=
  ⟨h.mono hr, fun k c e f _ _ _ hk => (h.block k (Array.getElem?_eq_some_iff.1 hk).1).trans hk⟩
theorem chg_row {rt : Nat} {W W' : World} {base n size : Nat} {e : TypeId} {v : Value} {cs : List Value} (ho : W.ownsRow base e size v n cs) (hb : rt ≤ base) (he : e = 40 ∨ e = 3) (hr : rt ≤ W.heap.size) (hg : W.grownBy W' v.ownBlock) : Chg rt W W' := by
  refine ⟨(Below.refl rt W).grown hg hr (fun k hk => Nat.le_trans hb (own_base ho k hk)), fun k c e' f n1 n2 n3 hk => ?_⟩
  rw [hg.block k (Array.getElem?_eq_some_iff.1 hk).1 ?_]
  · exact hk
  · intro hv
    rcases ho.2 with ⟨rfl, _⟩ | ⟨g, cap, cur, rfl, _, hh, _⟩
    · cases hv
    · simp [Value.ownBlock] at hv
      subst hv
      rw [hh] at hk
      simp only [Option.some.injEq, Obj.cells.injEq] at hk
      rcases he with he | he
      · exact n1 (hk.2.1.symm.trans he)
      · exact n2 (hk.2.1.symm.trans he)
theorem chg_set {rt : Nat} {W : World} {cur : Array Value} (hb : W.heap[rt]? = some (.cells cur 95 (0, 0))) (j : Nat) (u : Value) : Chg rt W (W.setCell ⟨rt, j, none⟩ u) := by
  have hg : W.grownBy (W.setCell ⟨rt, j, none⟩ u) (some rt) := grown_set W ⟨rt, j, none⟩ u
  refine ⟨(Below.refl rt W).grown hg (Nat.le_of_lt (Array.getElem?_eq_some_iff.1 hb).1) (fun k hk => by cases hk; exact Nat.le_refl _), fun k c e' f n1 n2 n3 hk => ?_⟩
  rw [hg.block k (Array.getElem?_eq_some_iff.1 hk).1 ?_]
  · exact hk
  · intro hv
    cases hv
    rw [hb] at hk
    simp only [Option.some.injEq, Obj.cells.injEq] at hk
    exact n3 hk.2.1.symm
theorem box_set {W : World} {rt : Nat} {a b : Value} (hb : W.heap[rt]? = some (.cells #[a, b] 95 (0, 0))) (u : Value) :
    (W.setCell ⟨rt, 0, none⟩ u).heap[rt]? = some (.cells #[u, b] 95 (0, 0)) ∧ (W.setCell ⟨rt, 1, none⟩ u).heap[rt]? = some (.cells #[a, u] 95 (0, 0)) := by
  constructor <;> simp [World.setCell, Array.getElem?_modify, hb]
theorem tnm_one (tab : Tb) : ∀ v ∈ tnm tab, v.oneCell' = true := by
  intro v hv
  obtain ⟨x, _, rfl⟩ := List.mem_map.1 hv
  rfl
theorem tpl_one (tab : Tb) : ∀ v ∈ tpl tab, v.oneCell' = true := by
  intro v hv
  obtain ⟨x, _, rfl⟩ := List.mem_map.1 hv
  rfl
set_option maxHeartbeats 1000000 in
theorem keep_ (W : World) (rt : Nat) (vn vp : Value) (tab new : Tb) (h : RefT W rt vn vp tab) (hl : tab.length ≤ 100000000) (hw : new.length ≤ 1000) (A1 A2 : Option Addr) (c1 c2 : Nat)
    (h1 : W.ownsRow (rt + 1) 40 1 (.slice A1 new.length c1) new.length (tnm new)) (h2 : W.ownsRow (rt + 1) 3 1 (.slice A2 new.length c2) new.length (tpl new)) :
    Calls Tryd.prog 86 #[.pointer (some ⟨rt, 0, none⟩), .slice A1 new.length c1, .slice A2 new.length c2] W fun e w' => e = .returned (.tuple #[]) ∧ ∃ vn' vp', RefT w' rt vn' vp' (tab ++ new) ∧ Chg rt W w' := by
  have k0 := h.c0
  have k1 := h.c1
  have f0 := h.free 0
  have hlt := h.lt
  have H := Lib.hid h
  have H1 := Lib.hid h1
  have H2 := Lib.hid h2
  obtain ⟨An, cn, rfl, hrn⟩ := own_rd h.rn
  obtain ⟨Ap, cp, rfl, hrp⟩ := own_rd h.rp
  clear h h1 h2 hrn hrp
  go_enter Tryd.func86, Tryd.ntmps86
  go_wp2_with (first | (at_builtin; refine wpList_app (w0 := W) W (rt + 1) rfl _ _ 92 92 40 (.string ByteArray.empty) 1 16 rfl Tryd.underlying92 info_nm rfl (by omega) (by omega) (.slice An tab.length cn) tab.length (tnm tab) rfl (.own H.out.rn) (.slice A1 new.length c1) new.length (tnm new) rfl (.slice (rd_own H1.out) (tnm_one new)) (Below.refl _ _) hlt (by omega) ?_; intro v1 w1 _ ho1' hb1 hg1; have ho1 := ho1' (.inr H.out.rn); obtain ⟨A3, c3, rfl, hr3⟩ := own_rd ho1; have hbx1 := (hb1.block rt (Nat.lt_succ_self _)).trans H.out.box; have x0 : w1.cell? ⟨rt, 0, none⟩ = some (.slice An tab.length cn) := cell_of_row w1 rt 0 _ _ (0, 0) hbx1; have y0 : w1.frozen? ⟨rt, 0, none⟩ = false := (by simp [World.frozen?, hbx1]); have hbx2 := (box_set hbx1 (.slice A3 (tab.length + new.length) c3)).1; have x1 : (w1.setCell ⟨rt, 0, none⟩ (.slice A3 (tab.length + new.length) c3)).cell? ⟨rt, 1, none⟩ = some (.slice Ap tab.length cp) := cell_of_row (w1.setCell ⟨rt, 0, none⟩ (.slice A3 (tab.length + new.length) c3)) rt 1 _ _ (0, 0) hbx2; have HBX2 := Lib.hid hbx2; have HG1 := Lib.hid hg1; have HO1 := Lib.hid ho1; have HBX1 := Lib.hid hbx1; have HZ1 := Lib.hid hg1.size; clear ho1' ho1 hb1 hg1 hbx1 hbx2 hr3) | (at_builtin; refine wpList_app (w0 := w1.setCell ⟨rt, 0, none⟩ (.slice A3 (tab.length + new.length) c3)) (w1.setCell ⟨rt, 0, none⟩ (.slice A3 (tab.length + new.length) c3)) (rt + 1) rfl _ _ 93 93 3 (.int .i64 0) 1 8 rfl Tryd.underlying93 info_int rfl (by omega) (by omega) (.slice Ap tab.length cp) tab.length (tpl tab) rfl (.own (own_kept_low (own_kept_other H.out.rp H.out.rn (by decide) HG1.out) (Nat.lt_succ_self rt) (grown_set w1 ⟨rt, 0, none⟩ (.slice A3 (tab.length + new.length) c3)))) (.slice A2 new.length c2) new.length (tpl new) rfl (.slice (rd_own (own_kept_low (own_kept_other H2.out H.out.rn (by decide) HG1.out) (Nat.lt_succ_self rt) (grown_set w1 ⟨rt, 0, none⟩ (.slice A3 (tab.length + new.length) c3)))) (tpl_one new)) (Below.refl _ _) (by have := (Array.getElem?_eq_some_iff.1 HBX2.out).1; exact this) (by omega) ?_; intro v3 w3 _ ho3' hb3 hg3; have ho3 := ho3' (.inr (own_kept_low (own_kept_other H.out.rp H.out.rn (by decide) HG1.out) (Nat.lt_succ_self rt) (grown_set w1 ⟨rt, 0, none⟩ (.slice A3 (tab.length + new.length) c3)))); obtain ⟨A4, c4, rfl, hr4⟩ := own_rd ho3; have hbx3 := (hb3.block rt (Nat.lt_succ_self _)).trans HBX2.out; have x3 : w3.cell? ⟨rt, 1, none⟩ = some (.slice Ap tab.length cp) := cell_of_row w3 rt 1 _ _ (0, 0) hbx3; have y3 : w3.frozen? ⟨rt, 1, none⟩ = false := (by simp [World.frozen?, hbx3]); have HBX3 := Lib.hid hbx3; have HG3 := Lib.hid hg3; have HO3 := Lib.hid ho3; clear ho3' ho3 hb3 hg3 hbx3 hr4))
  have r1 : (w1.setCell ⟨rt, 0, none⟩ (.slice A3 (tab.length + new.length) c3)).ownsRow (rt + 1) 40 1 (.slice A3 (tab.length + new.length) c3) (tab.length + new.length) (tnm tab ++ tnm new) := own_kept_low HO1.out (Nat.lt_succ_self rt) (grown_set w1 ⟨rt, 0, none⟩ _)
  have r2 := own_kept_low (own_kept_other H.out.rp H.out.rn (by decide) HG1.out) (Nat.lt_succ_self rt) (grown_set w1 ⟨rt, 0, none⟩ (.slice A3 (tab.length + new.length) c3))
  have r3 := own_kept_other r1 r2 (by decide) HG3.out
  have r4 := own_kept_low r3 (Nat.lt_succ_self rt) (grown_set w3 ⟨rt, 1, none⟩ (.slice A4 (tab.length + new.length) c4))
  have r5 := own_kept_low HO3.out (Nat.lt_succ_self rt) (grown_set w3 ⟨rt, 1, none⟩ (.slice A4 (tab.length + new.length) c4))
  have g1 : Chg rt W w1 := chg_row H.out.rn (Nat.le_succ rt) (by decide) (Nat.le_of_lt hlt) HG1.out
  have g2 := g1.trans (chg_set HBX1.out 0 (.slice A3 (tab.length + new.length) c3))
  have g3 := g2.trans (chg_row r2 (Nat.le_succ rt) (by decide) (Nat.le_of_lt (Array.getElem?_eq_some_iff.1 HBX2.out).1) HG3.out)
  have g4 := g3.trans (chg_set HBX3.out 1 (.slice A4 (tab.length + new.length) c4))
  refine bodyPost_end (results_none rfl _ _ _) rfl ⟨rfl, _, _, ⟨(box_set HBX3.out _).2, ?_, ?_⟩, g4⟩
  · rw [List.length_append, tnm, List.map_append]; exact r4
  · rw [List.length_append, tpl, List.map_append]; exact r5
end Go.Proofs.YtdjknikkiojfhaaDoor

/- hearsayref03's put: contract, by a walk: the same as the code's row. -/
namespace Go.Proofs.YtdjknikkiojfhaaDoor
open Go.RowKit Go.HL
set_option linter.unusedVariables false
set_option linter.unusedSimpArgs false
theorem own_n {w : World} {base n m c size : Nat} {e : TypeId} {A : Option Addr} {cs : List Value} (h : w.ownsRow base e size (.slice A n c) m cs) : n = m := by
  obtain ⟨A1, c1, e1, _⟩ := own_rd h
  cases e1
  rfl
theorem chg_fresh {rt : Nat} {W X X' : World} {row : Option Nat} (h : Chg rt W X) (hs : rt ≤ W.heap.size) (hg : X.grownBy X' row) (hr : ∀ k, row = some k → W.heap.size ≤ k) : Chg rt W X' := by
  refine ⟨h.1.grown hg (Nat.le_trans hs h.1.size) (fun k hk => Nat.le_trans hs (hr k hk)), fun k c e f n1 n2 n3 hk => ?_⟩
  have hlt := (Array.getElem?_eq_some_iff.1 hk).1
  rw [hg.block k (Nat.lt_of_lt_of_le hlt h.1.size) (fun e => by have := hr k e.symm; omega)]
  exact h.2 k c e f n1 n2 n3 hk
theorem RefT.grow {X X' : World} {rt : Nat} {vn vp : Value} {tab : Tb} (h : RefT X rt vn vp tab) {base n size : Nat} {v : Value} {cs : List Value} (ho : X.ownsRow base 5 size v n cs) (hb : rt < base) (hg : X.grownBy X' v.ownBlock) : RefT X' rt vn vp tab :=
  ⟨(hg.block rt h.lt (fun e => by have := own_base ho rt e.symm; omega)).trans h.box, own_kept_other h.rn ho (by decide) hg, own_kept_other h.rp ho (by decide) hg⟩
theorem look_skip {t t' : Tb} {m : List UInt8} (h : ∀ p ∈ t', m.length < p.1.length) : HL.look (t ++ t') m = HL.look t m := by
  unfold HL.look
  rw [List.find?_append]
  have : t'.find? (fun p => p.1 == m) = none := by
    rw [List.find?_eq_none]
    intro p hp e
    have h1 := h p hp
    have h2 : p.1 = m := by simpa using e
    rw [h2] at h1
    omega
  rw [this, Option.or_none]
/-- What the document's put tells. -/
def RefR (W : World) (rt : Nat) (plain : Bool) (l : List UInt8) (ls : List (List UInt8)) (tab : Tb) (a b : Value) (w' : World) : Prop :=
  b = .int .i64 0 ∧ w'.ownsRow W.heap.size 5 1 a (l.length + (en plain tab ls l.length).1.length) (bs (l ++ (en plain tab ls l.length).1)) ∧ ∃ vn' vp', RefT w' rt vn' vp' (en plain tab ls l.length).2 ∧ Chg rt W w'
theorem rput_two (w : World) (p b s : Value) (R : Value → Value → World → Prop) (h : Calls Tryd.prog 71 #[p, b, s, .bool false] w (Two R)) : Calls Tryd.prog 48 #[p, b, s] w (Two R) := by
  go_enter Tryd.func48, Tryd.ntmps48
  go_wp2_with (go_at_call 71; refine h.mono ?_; clear h; rintro e w1 ⟨x, y, rfl, hR⟩)
  go_ret2
  exact ⟨x, y, rfl, hR⟩
theorem rplain_two (w : World) (p b s : Value) (R : Value → Value → World → Prop) (h : Calls Tryd.prog 71 #[p, b, s, .bool true] w (Two R)) : Calls Tryd.prog 72 #[p, b, s] w (Two R) := by
  go_enter Tryd.func72, Tryd.ntmps72
  go_wp2_with (go_at_call 71; refine h.mono ?_; clear h; rintro e w1 ⟨x, y, rfl, hR⟩)
  go_ret2
  exact ⟨x, y, rfl, hR⟩
def PutI (W : World) (plain : Bool) (l : List UInt8) (ls : List (List UInt8)) (tab : Tb) (v vn vp i : Value) (wr : World) : Prop :=
  ∃ (j : Nat) (nw : Tb) (out : List UInt8) (pre : List ByteArray), i = .int .i64 j ∧ j ≤ ls.length ∧ wr.ownsRow W.heap.size 5 1 v (l.length + out.length) (bs (l ++ out)) ∧ wr.ownsRow W.heap.size 40 1 vn nw.length (tnm nw) ∧ wr.ownsRow W.heap.size 3 1 vp nw.length (tpl nw) ∧
    RowP plain l ls tab pre out (ls.drop j) (tab ++ nw) ∧ (∀ p ∈ nw, (gl (ls.drop j)).length < p.1.length) ∧ nw.length ≤ j ∧ Below W.heap.size W wr
theorem strs_drop (ls : List (List UInt8)) (i : Nat) : (strs ls).drop i = strs (ls.drop i) := by simp [strs]
theorem rput_bad (W : World) (rt : Addr) (A : Option Addr) (n c : Nat) (s : ByteArray) (plain : Bool) (hs : s.size ≤ 140737488355328) (hno : isNm s = false) :
    Calls Tryd.prog 71 #[.pointer (some rt), .slice A n c, .string s, .bool plain] W (Two (NoneB W 11)) := by
  have hsp := split_ W s hs
  unfold SplitP at hsp
  rw [hno] at hsp
  go_enter Tryd.func71, Tryd.ntmps71
  go_wp2_with (go_at_call 67; refine hsp.mono ?_; clear hsp; rintro e w1 ⟨A1, n1, c1, rfl, hh, hb⟩; clear hh)
  go_ret2
  exact ⟨_, _, rfl, rfl, rfl, hb⟩
theorem two_rd (W : World) (a b : Int) : Rd (W.alloc (.cells #[.int .u8 a, .int .u8 b] 5)) 1 (some ⟨W.heap.size, 0, none⟩) 2 2 [.int .u8 a, .int .u8 b] :=
  ⟨rfl, fun h => (by cases h), Nat.le_refl _, fun ad had => by cases had; exact World.news_of_block (cs := #[.int .u8 a, .int .u8 b]) (t := 5) (fr := (0, 0)) (heap_alloc_new W _)⟩
theorem be_two (p y1 y2 : Nat) (h1 : p / 256 = y1) (h2 : p % 256 = y2) (hp : p ≤ 16383) : bs (be 2 (49152 + (p : Int))) = [.int .u8 (192 + (y1 : Int)), .int .u8 (y2 : Int)] := by
  have e0 := byteAt_toNat (49152 + (p : Int)) 0
  have e1 := byteAt_toNat (49152 + (p : Int)) 1
  show [B (byteAt (49152 + (p : Int)) 1), B (byteAt (49152 + (p : Int)) 0)] = _
  rw [B, B]
  congr 1
  · congr 1; omega
  · congr 1; congr 1; omega
set_option maxRecDepth 8000 in
set_option maxHeartbeats 4000000 in
theorem rput_ok (W : World) (rt : Nat) (vn vp : Value) (tab : Tb) (h : RefT W rt vn vp tab) (hl : tab.length ≤ 100000000) (hbd : ∀ p ∈ tab, p.2 ≤ 16383) (A : Option Addr) (n c : Nat) (l : List UInt8) (hr : Rd W 1 A n c (bs l)) (hn : n ≤ 40000000000) (ls : List (List UInt8)) (hok : okL ls) (h255 : (gl ls).length ≤ 255) (plain : Bool) :
    Calls Tryd.prog 71 #[.pointer (some ⟨rt, 0, none⟩), .slice A n c, .string (str (gl ls)), .bool plain] W (Two (RefR W rt plain l ls tab)) := by
  have hbl := hr.blen
  have hsp := split_ W (str (gl ls)) (by rw [str_size]; omega)
  unfold SplitP at hsp
  rw [isNm_gl hok, decide_eq_true h255, str_toList, labsT_gl ls hok] at hsp
  have hrl := h.lt
  have HT := Lib.hid h
  have HR := Lib.hid hr
  obtain ⟨s, hs⟩ : ∃ s, str (gl ls) = s := ⟨_, rfl⟩
  rw [hs] at hsp ⊢
  have hcnt := gl_count ls
  clear h hr hs
  go_enter Tryd.func71, Tryd.ntmps71
  go_wp2_with (first | (go_at_call 67; refine hsp.mono ?_; clear hsp; rintro e w1 ⟨A1, n1, c1, rfl, hh, hb1⟩; obtain ⟨ls', e1, ho1⟩ := hh rfl; cases e1; obtain rfl := own_n ho1; clear hh; have HO1 := Lib.hid ho1; clear ho1) | (at_builtin; refine wpList_app_nil W w1 W.heap.size rfl _ _ 27 27 5 (.int .u8 0) 1 1 rfl Tryd.underlying27 info_u8 rfl (by omega) (by omega) rfl (.slice A n c) n (bs l) rfl (.slice (HR.out.below hb1) (bs_one _)) hb1 hb1.size (by omega) ?_; intro v2 w2 ho2 hb2 hg2; have HO2 := Lib.hid ho2; have HO12 := Lib.hid (own_below HO1.out (Below.mk hg2.os hg2.tape hg2.output hg2.size (fun i hi => hg2.block i hi (by simp)))); clear ho2 hg2))
  go_loopw [12, 13, 14, 15] (fun v vn vp i wr => PutI W plain l ls tab v vn vp i wr ∧ wr.ownsRow W.heap.size 9 1 (.slice A1 ls.length c1) ls.length (strs ls)) (fun _ _ _ i _ => ls.length - (intOf i).toNat)
  case atStart => exact ⟨⟨0, [], [], [], rfl, Nat.zero_le _, (by rw [List.length_nil, Nat.add_zero, List.append_nil, hbl]; exact HO2.out), World.ownsRow_nil _ _ _ _, World.ownsRow_nil _ _ _ _, ⟨by simp, hok, by simp, by simp, by simp⟩, (fun p hp => by cases hp), Nat.le_refl _, hb2⟩, HO12.out⟩
  case round =>
    obtain ⟨⟨j, nw, out, pre, rfl, hj, hov, hon, hop, hP, hnw, hnl, hb⟩, hol⟩ := hrel
    obtain ⟨Av, cv, rfl, hrv⟩ := own_rd hov
    obtain ⟨An, cn, rfl, hrn⟩ := own_rd hon
    obtain ⟨Ap, cp, rfl, hrp⟩ := own_rd hop
    have HOV := Lib.hid hov
    have HON := Lib.hid hon
    have HOP := Lib.hid hop
    have HOL := Lib.hid hol
    have HP := Lib.hid hP
    have HNW := Lib.hid hnw
    have HTW := Lib.hid (HT.out.below hb)
    have hz := hb.size
    have hlen := hP.len
    have hgp := gl_pos (ls.drop j)
    clear hov hon hop hol hP hnw hrv hrn hrp
    obtain ⟨m0, hm0⟩ : ∃ m0, l.length + out.length = m0 := ⟨_, rfl⟩
    have hm0b : m0 ≤ 40000000255 := by omega
    by_cases hlt : j < ls.length
    · have hi1 : (j : Int) < (ls.length : Int) := by omega
      have hi0 : (0 : Int) ≤ (j : Int) := by omega
      obtain ⟨x, r, hxr⟩ : ∃ x r, ls.drop j = x :: r := ⟨_, _, List.drop_eq_getElem_cons hlt⟩
      have hxj : ls[j]? = some x := by
        have := congrArg (fun q => q[0]?) hxr
        simpa using this
      have hr1 : ls.drop (j + 1) = r := by
        have := congrArg List.tail hxr
        simpa using this
      have hokx := hok x (List.mem_of_getElem? hxj)
      have hcut := (rd_own HOL.out).cutS j (ls.length - j) c1 (by omega) (by have := (rd_own HOL.out).le; omega) (Nat.le_refl _)
      rw [Nat.mul_one, Nat.mul_one, strs_drop, hxr, List.take_of_length_le (by have := congrArg List.length hxr; rw [List.length_drop] at this; simp [strs]; simp at this; omega)] at hcut
      have HCUT := Lib.hid hcut
      have hokr : okL (x :: r) := by have := HP.out.ok; rwa [hxr] at this
      have hg255 : (gl (x :: r)).length ≤ 255 := by rw [hxr] at hlen; omega
      have hgl := gl_len x r
      have hlk : HL.look (tab ++ nw) (gl (x :: r)) = HL.look tab (gl (x :: r)) := look_skip (fun p hp => by have := HNW.out p hp; rwa [hxr] at this)
      have HXR := Lib.hid hxr
      have HR1 := Lib.hid hr1
      have HLK := Lib.hid hlk
      rw [hxr] at hlen
      have HFI := fun W' (hW' : Below wr.heap.size wr W') => find_ W' rt vn vp tab (gl (x :: r)) (HTW.out.below hW') (by omega)
      have HGL := fun W' (hr' : Rd W' 1 (cutS A1 j c1 1) (ls.length - j) (c1 - j) (strs (x :: r))) => glue_ W' _ _ _ (x :: r) hr' hokr hg255
      obtain ⟨nm, hnm⟩ : ∃ nm, str (gl (x :: r)) = nm := ⟨_, rfl⟩
      rw [hnm] at HFI HGL
      have HGL := Lib.hid HGL
      have HNM := Lib.hid hnm
      obtain ⟨a1, rfl⟩ : ∃ a1, A1 = some a1 := by
        cases A1 with
        | none => have := ((rd_own HOL.out).nil_ rfl).1; omega
        | some a1 => exact ⟨a1, rfl⟩
      have HCX := Lib.hid (fun W' (hW' : Below wr.heap.size wr W') => (((rd_own HOL.out).below hW').cells a1 rfl j (.string (str x)) (by simp [strs, hxj]) : W'.cell? (a1.add j) = some (.string (str x))))
      have c0 := HCX.out wr (Below.refl _ _)
      obtain ⟨xs, hxs⟩ : ∃ xs, str x = xs := ⟨_, rfl⟩
      have hxsz : xs.size = x.length := by rw [← hxs, str_size]
      rw [hxs] at HCX c0
      have HXS := Lib.hid hxs
      have HSX := Lib.hid (show (strs ls)[j]? = some (.string (str x)) by simp [strs, hxj])
      clear hxr hr1 hlk hnm hcut hxs hxj
      cases hlook : HL.look tab (gl (x :: r)) with
      | some p =>
        have hp16 := look_lt hbd hlook
        have hli : lookI tab (gl (x :: r)) = (p : Int) := by unfold lookI; rw [hlook]
        rw [hli] at HFI
        have HFI := Lib.hid HFI
        have HLO := Lib.hid hlook
        clear hli hlook
        have hp0 : (0 : Int) ≤ (p : Int) := by omega
        have hp1 : ¬ (p : Int) < 0 := by omega
        cases plain with
        | false =>
          have htd : Int.tdiv (p : Int) 256 = ((p / 256 : Nat) : Int) := by rw [Int.tdiv_eq_ediv_of_nonneg hp0]; rfl
          have htm : Int.tmod (p : Int) 256 = ((p % 256 : Nat) : Int) := by rw [Int.tmod_eq_emod_of_nonneg hp0]; rfl
          have q1 : p / 256 ≤ 63 := by omega
          have q2 : p % 256 < 256 := by omega
          obtain ⟨y1, hy1⟩ : ∃ y1, p / 256 = y1 := ⟨_, rfl⟩
          obtain ⟨y2, hy2⟩ : ∃ y2, p % 256 = y2 := ⟨_, rfl⟩
          rw [hy1] at htd q1
          rw [hy2] at htm q2
          have hw1 : IntKind.u8.wrap (192 + (y1 : Int)) = 192 + (y1 : Int) := wraps_u8 _ (by omega) (by omega)
          have hw2 : IntKind.u8.wrap (y2 : Int) = (y2 : Int) := wraps_u8 _ (by omega) (by omega)
          have HY := Lib.hid (And.intro hy1 hy2)
          clear hy1 hy2
          rw [hm0] at HOV ⊢
          go_wp2_with (first | (refine wpList_cutL rfl 112 9 (.tmp 33) (.tmp 34) rfl Tryd.underlying112 (size := 1) (by kernel_rfl) (some a1) ls.length c1 rfl rfl j rfl (by omega) ?_) | (go_at_call 84; refine (HGL.out _ HCUT.out).mono ?_; clear HGL; rintro e w3 ⟨rfl, hb3⟩; have c3 := HCX.out w3 hb3; have hz3 := hb3.size) | (go_at_call 85; refine (HFI.out _ hb3).mono ?_; clear HFI; rintro e w4 ⟨rfl, rfl⟩) | (go_at_call 86; refine (keep_ w3 rt vn vp tab nw (HTW.out.below hb3) (by omega) (by omega) An Ap cn cp (own_lower (own_below HON.out hb3) (by omega)) (own_lower (own_below HOP.out hb3) (by omega))).mono ?_; rintro e w5 ⟨rfl, vn5, vp5, hT5, hC5⟩; have HT5 := Lib.hid hT5; have HC5 := Lib.hid hC5; have hov5 := hC5.own (own_below HOV.out hb3); have HOV5 := Lib.hid hov5; have hz5 := hC5.1.size; clear hT5 hC5 hov5) | (at_builtin; refine wpList_app (w0 := w5.alloc (.cells #[.int .u8 (192 + (y1 : Int)), .int .u8 (y2 : Int)] 5)) (w5.alloc (.cells #[.int .u8 (192 + (y1 : Int)), .int .u8 (y2 : Int)] 5)) W.heap.size rfl _ _ 27 27 5 (.int .u8 0) 1 1 rfl Tryd.underlying27 info_u8 rfl (by omega) (by omega) (.slice Av m0 cv) m0 (bs (l ++ out)) rfl (.own (HOV5.out.alloc _)) (.slice (some ⟨w5.heap.size, 0, none⟩) 2 2) 2 [.int .u8 (192 + (y1 : Int)), .int .u8 (y2 : Int)] rfl (.slice (two_rd w5 _ _) (by intro u hu; simp at hu; rcases hu with rfl | rfl <;> rfl)) (Below.refl _ _) (by rw [World.size_alloc]; omega) (by omega) ?_; intro v6 w6 _ ho6' hb6 hg6; have ho6 := ho6' (.inl (by omega)); have HO6 := Lib.hid ho6; have HG6 := Lib.hid hg6; clear ho6' ho6 hb6 hg6))
          go_ret2
          have hen : en false tab ls l.length = (out ++ be 2 (49152 + (p : Int)), tab ++ nw) := by
            rw [HP.out.en, HXR.out, HL.en, HLK.out, HLO.out]
            rfl
          refine ⟨_, _, rfl, ?_⟩
          unfold RefR
          rw [hen]
          refine ⟨rfl, ?_, vn5, vp5, ?_, ?_⟩
          · have e2 : bs (be 2 (49152 + (p : Int))) = [.int .u8 (192 + (y1 : Int)), .int .u8 (y2 : Int)] := be_two p y1 y2 HY.out.1 HY.out.2 (by omega)
            rw [← List.append_assoc, bs_app, e2, List.length_append, ← Nat.add_assoc, hm0]
            exact own_lower HO6.out (by omega)
          · exact (HT5.out.below (below_new w5 _)).grow (HOV5.out.alloc _) (by omega) HG6.out
          · exact chg_fresh (((chg_below hb (by omega)).trans (chg_below hb3 (by omega))).trans (HC5.out.trans (chg_below (below_new w5 _) (by omega)))) (by omega) HG6.out (fun k hk => own_base (HOV5.out.alloc (.cells #[] 5)) k hk)
        | true =>
          have HGX := Lib.hid (show (strs ls)[j]? = some (.string (str x)) from HSX.out)
          have hwx : IntKind.u8.wrap (x.length : Int) = (x.length : Int) := wraps_u8 _ (by omega) (by omega)
          rw [hm0] at HOV ⊢
          go_wp2_with (first | (refine wpList_cutL rfl 112 9 (.tmp 33) (.tmp 34) rfl Tryd.underlying112 (size := 1) (by kernel_rfl) (some a1) ls.length c1 rfl rfl j rfl (by omega) ?_) | (go_at_call 84; refine (HGL.out _ HCUT.out).mono ?_; clear HGL; rintro e w3 ⟨rfl, hb3⟩; have c3 := HCX.out w3 hb3; have hz3 := hb3.size) | (go_at_call 85; refine (HFI.out _ hb3).mono ?_; clear HFI; rintro e w4 ⟨rfl, rfl⟩; have HV3 := Lib.hid (own_below HOV.out hb3); have HN3 := Lib.hid (own_below HON.out hb3); have HP3 := Lib.hid (own_below HOP.out hb3); have HL3 := Lib.hid (own_below HOL.out hb3); have HB3 := Lib.hid (hb.trans (hb3.mono hz))) | (at_builtin; refine wpList_app1 (w0 := w3) W.heap.size rfl _ _ 27 5 (.int .u8 0) 1 rfl Tryd.underlying27 info_u8 rfl (by omega) (.slice Av m0 cv) m0 (bs (l ++ out)) (.int .u8 (x.length : Int)) rfl (.own HV3.out) rfl rfl (Below.refl _ _) (by omega) (by omega) ?_; intro v8 w8 ho8 hb8 hg8; have HV8 := Lib.hid ho8; have HN8 := Lib.hid (own_kept_other HN3.out HV3.out (by decide) hg8); have HP8 := Lib.hid (own_kept_other HP3.out HV3.out (by decide) hg8); have HL8 := Lib.hid (own_kept_other HL3.out HV3.out (by decide) hg8); have HB8 := Lib.hid (HB3.out.grown hg8 (by omega) (fun k hk => own_base HV3.out k hk)); have z8 := hg8.size; have c8 := (rd_own HL8.out).cells a1 rfl j (.string xs) (by rw [← HXS.out]; exact HGX.out); clear ho8 hb8 hg8) | (at_builtin; refine wpList_app (w0 := w8) w8 W.heap.size rfl _ _ 27 9 5 (.int .u8 0) 1 1 rfl Tryd.underlying27 info_u8 rfl (by omega) (by omega) v8 (m0 + 1) (bs (l ++ out) ++ [.int .u8 (x.length : Int)]) rfl (.own HV8.out) (.string xs) xs.size (bs xs.data.toList) rfl (.str Tryd.underlying9 Tryd.underlying27 info_u8 rfl xs) (Below.refl _ _) (by omega) (by omega) ?_; intro v9 w9 _ ho9' hb9 hg9; have ho9 := ho9' (.inr HV8.out); have HV9 := Lib.hid ho9; have HN9 := Lib.hid (own_kept_other HN8.out HV8.out (by decide) hg9); have HP9 := Lib.hid (own_kept_other HP8.out HV8.out (by decide) hg9); have HL9 := Lib.hid (own_kept_other HL8.out HV8.out (by decide) hg9); have HB9 := Lib.hid (HB8.out.grown hg9 (by omega) (fun k hk => own_base HV8.out k hk)); clear ho9' ho9 hb9 hg9))
          go_roundw
          case rel =>
            have hPx : RowP true l ls tab pre out (x :: r) (tab ++ nw) := by have := HP.out; rwa [HXR.out] at this
            have hPn := hPx.next (by rw [HLK.out, HLO.out]; rfl) (tab ++ nw) (by rw [HLK.out, HLO.out]; rfl)
            have hNL : ∀ p ∈ nw, (gl r).length < p.1.length := fun p hp => by
              have hold : p ∈ nw → (gl r).length < p.1.length := fun hp => by have := HNW.out p hp; rw [HXR.out] at this; omega
              exact hold hp
            refine ⟨⟨j + 1, nw, out ++ (UInt8.ofNat x.length :: x), _, by go_num, by omega, ?_, HN9.out, HP9.out, by rw [HR1.out]; exact hPn, by rw [HR1.out]; exact hNL, by omega, HB9.out⟩, HL9.out⟩
            have ho := HV9.out
            have ex : bs (l ++ (out ++ (UInt8.ofNat x.length :: x))) = bs (l ++ out) ++ [.int .u8 (x.length : Int)] ++ bs xs.data.toList := by
              rw [← List.append_assoc, bs_app, ← HXS.out, str_toList, List.append_assoc]
              simp only [bs, List.map_cons, List.singleton_append]
              rw [show B (UInt8.ofNat x.length) = .int .u8 (x.length : Int) by rw [B, ofNat_len (by omega)]]
            rw [ex, List.length_append, List.length_cons, show l.length + (out.length + (x.length + 1)) = m0 + 1 + xs.size by omega]
            exact ho
          case measure => simp [intOf]; omega
      | none =>
        have hli : lookI tab (gl (x :: r)) = -1 := by unfold lookI; rw [hlook]
        rw [hli] at HFI
        have HFI := Lib.hid HFI
        have HLO := Lib.hid hlook
        clear hli hlook
        by_cases hfar : m0 ≤ 16383
        · have hfar' : (m0 : Int) ≤ 16383 := by omega
          have HGX := Lib.hid (show (strs ls)[j]? = some (.string (str x)) from HSX.out)
          have hwx : IntKind.u8.wrap (x.length : Int) = (x.length : Int) := wraps_u8 _ (by omega) (by omega)
          rw [hm0] at HOV ⊢
          go_wp2_with (first | (refine wpList_cutL rfl 112 9 (.tmp 33) (.tmp 34) rfl Tryd.underlying112 (size := 1) (by kernel_rfl) (some a1) ls.length c1 rfl rfl j rfl (by omega) ?_) | (go_at_call 84; refine (HGL.out _ HCUT.out).mono ?_; clear HGL; rintro e w3 ⟨rfl, hb3⟩; have c3 := HCX.out w3 hb3; have hz3 := hb3.size) | (go_at_call 85; refine (HFI.out _ hb3).mono ?_; clear HFI; rintro e w4 ⟨rfl, rfl⟩; have HV3 := Lib.hid (own_below HOV.out hb3); have HN3 := Lib.hid (own_below HON.out hb3); have HP3 := Lib.hid (own_below HOP.out hb3); have HL3 := Lib.hid (own_below HOL.out hb3); have HB3 := Lib.hid (hb.trans (hb3.mono hz))) | (at_builtin; refine wpList_app1 (w0 := w3) W.heap.size rfl _ _ 92 40 (.string ByteArray.empty) 16 rfl Tryd.underlying92 info_nm rfl (by omega) (.slice An nw.length cn) nw.length (tnm nw) (.string nm) rfl (.own HN3.out) rfl rfl (Below.refl _ _) (by omega) (by omega) ?_; intro v6 w6 ho6 hb6 hg6; have ho6' : w6.ownsRow W.heap.size 40 1 v6 (nw ++ [(gl (x :: r), m0)]).length (tnm (nw ++ [(gl (x :: r), m0)])) := (by rw [List.length_append, tnm, List.map_append]; rw [← HNM.out] at ho6; exact ho6); have HN6 := Lib.hid ho6'; have HV6 := Lib.hid (own_kept_other HV3.out HN3.out (by decide) hg6); have HP6 := Lib.hid (own_kept_other HP3.out HN3.out (by decide) hg6); have HL6 := Lib.hid (own_kept_other HL3.out HN3.out (by decide) hg6); have HB6 := Lib.hid ((hb.trans (hb3.mono hz)).grown hg6 (by omega) (fun k hk => own_base HN3.out k hk)); have z6 := hg6.size; clear ho6 ho6' hb6 hg6) | (at_builtin; refine wpList_app1 (w0 := w6) W.heap.size rfl _ _ 93 3 (.int .i64 0) 8 rfl Tryd.underlying93 info_int rfl (by omega) (.slice Ap nw.length cp) nw.length (tpl nw) (.int .i64 (m0 : Int)) rfl (.own HP6.out) rfl rfl (Below.refl _ _) (by omega) (by omega) ?_; intro v7 w7 ho7 hb7 hg7; have ho7' : w7.ownsRow W.heap.size 3 1 v7 (nw ++ [(gl (x :: r), m0)]).length (tpl (nw ++ [(gl (x :: r), m0)])) := (by rw [List.length_append, tpl, List.map_append]; exact ho7); have HP7 := Lib.hid ho7'; have HV7 := Lib.hid (own_kept_other HV6.out HP6.out (by decide) hg7); have HN7 := Lib.hid (own_kept_other HN6.out HP6.out (by decide) hg7); have HL7 := Lib.hid (own_kept_other HL6.out HP6.out (by decide) hg7); have HB7 := Lib.hid (HB6.out.grown hg7 (by omega) (fun k hk => own_base HP6.out k hk)); have z7 := hg7.size; have c7 := (rd_own HL7.out).cells a1 rfl j (.string xs) (by rw [← HXS.out]; exact HGX.out); clear ho7 ho7' hb7 hg7) | (at_builtin; refine wpList_app1 (w0 := w7) W.heap.size rfl _ _ 27 5 (.int .u8 0) 1 rfl Tryd.underlying27 info_u8 rfl (by omega) (.slice Av m0 cv) m0 (bs (l ++ out)) (.int .u8 (x.length : Int)) rfl (.own HV7.out) rfl rfl (Below.refl _ _) (by omega) (by omega) ?_; intro v8 w8 ho8 hb8 hg8; have HV8 := Lib.hid ho8; have HN8 := Lib.hid (own_kept_other HN7.out HV7.out (by decide) hg8); have HP8 := Lib.hid (own_kept_other HP7.out HV7.out (by decide) hg8); have HL8 := Lib.hid (own_kept_other HL7.out HV7.out (by decide) hg8); have HB8 := Lib.hid (HB7.out.grown hg8 (by omega) (fun k hk => own_base HV7.out k hk)); have z8 := hg8.size; have c8 := (rd_own HL8.out).cells a1 rfl j (.string xs) (by rw [← HXS.out]; exact HGX.out); clear ho8 hb8 hg8) | (at_builtin; refine wpList_app (w0 := w8) w8 W.heap.size rfl _ _ 27 9 5 (.int .u8 0) 1 1 rfl Tryd.underlying27 info_u8 rfl (by omega) (by omega) v8 (m0 + 1) (bs (l ++ out) ++ [.int .u8 (x.length : Int)]) rfl (.own HV8.out) (.string xs) xs.size (bs xs.data.toList) rfl (.str Tryd.underlying9 Tryd.underlying27 info_u8 rfl xs) (Below.refl _ _) (by omega) (by omega) ?_; intro v9 w9 _ ho9' hb9 hg9; have ho9 := ho9' (.inr HV8.out); have HV9 := Lib.hid ho9; have HN9 := Lib.hid (own_kept_other HN8.out HV8.out (by decide) hg9); have HP9 := Lib.hid (own_kept_other HP8.out HV8.out (by decide) hg9); have HL9 := Lib.hid (own_kept_other HL8.out HV8.out (by decide) hg9); have HB9 := Lib.hid (HB8.out.grown hg9 (by omega) (fun k hk => own_base HV8.out k hk)); clear ho9' ho9 hb9 hg9))
          go_roundw
          case rel =>
            have hPx : RowP plain l ls tab pre out (x :: r) (tab ++ nw) := by have := HP.out; rwa [HXR.out] at this
            have hPn := hPx.next (by rw [HLK.out, HLO.out]; rfl) (tab ++ (nw ++ [(gl (x :: r), m0)])) (by rw [HLK.out, HLO.out, hm0, if_neg (by simp; omega), List.append_assoc])
            have hNL : ∀ p ∈ (nw ++ [(gl (x :: r), m0)]), (gl r).length < p.1.length := fun p hp => by
              have hold : p ∈ nw → (gl r).length < p.1.length := fun hp => by have := HNW.out p hp; rw [HXR.out] at this; omega
              rcases List.mem_append.1 hp with hp | hp
              · exact hold hp
              · rw [List.mem_singleton.1 hp]; show (gl r).length < (gl (x :: r)).length; omega
            refine ⟨⟨j + 1, (nw ++ [(gl (x :: r), m0)]), out ++ (UInt8.ofNat x.length :: x), _, by go_num, by omega, ?_, HN9.out, HP9.out, by rw [HR1.out]; exact hPn, by rw [HR1.out]; exact hNL, by (rw [List.length_append]; simp; omega), HB9.out⟩, HL9.out⟩
            have ho := HV9.out
            have ex : bs (l ++ (out ++ (UInt8.ofNat x.length :: x))) = bs (l ++ out) ++ [.int .u8 (x.length : Int)] ++ bs xs.data.toList := by
              rw [← List.append_assoc, bs_app, ← HXS.out, str_toList, List.append_assoc]
              simp only [bs, List.map_cons, List.singleton_append]
              rw [show B (UInt8.ofNat x.length) = .int .u8 (x.length : Int) by rw [B, ofNat_len (by omega)]]
            rw [ex, List.length_append, List.length_cons, show l.length + (out.length + (x.length + 1)) = m0 + 1 + xs.size by omega]
            exact ho
          case measure => simp [intOf]; omega
        · have hfar' : ¬ (m0 : Int) ≤ 16383 := by omega
          have HGX := Lib.hid (show (strs ls)[j]? = some (.string (str x)) from HSX.out)
          have hwx : IntKind.u8.wrap (x.length : Int) = (x.length : Int) := wraps_u8 _ (by omega) (by omega)
          rw [hm0] at HOV ⊢
          go_wp2_with (first | (refine wpList_cutL rfl 112 9 (.tmp 33) (.tmp 34) rfl Tryd.underlying112 (size := 1) (by kernel_rfl) (some a1) ls.length c1 rfl rfl j rfl (by omega) ?_) | (go_at_call 84; refine (HGL.out _ HCUT.out).mono ?_; clear HGL; rintro e w3 ⟨rfl, hb3⟩; have c3 := HCX.out w3 hb3; have hz3 := hb3.size) | (go_at_call 85; refine (HFI.out _ hb3).mono ?_; clear HFI; rintro e w4 ⟨rfl, rfl⟩; have HV3 := Lib.hid (own_below HOV.out hb3); have HN3 := Lib.hid (own_below HON.out hb3); have HP3 := Lib.hid (own_below HOP.out hb3); have HL3 := Lib.hid (own_below HOL.out hb3); have HB3 := Lib.hid (hb.trans (hb3.mono hz))) | (at_builtin; refine wpList_app1 (w0 := w3) W.heap.size rfl _ _ 27 5 (.int .u8 0) 1 rfl Tryd.underlying27 info_u8 rfl (by omega) (.slice Av m0 cv) m0 (bs (l ++ out)) (.int .u8 (x.length : Int)) rfl (.own HV3.out) rfl rfl (Below.refl _ _) (by omega) (by omega) ?_; intro v8 w8 ho8 hb8 hg8; have HV8 := Lib.hid ho8; have HN8 := Lib.hid (own_kept_other HN3.out HV3.out (by decide) hg8); have HP8 := Lib.hid (own_kept_other HP3.out HV3.out (by decide) hg8); have HL8 := Lib.hid (own_kept_other HL3.out HV3.out (by decide) hg8); have HB8 := Lib.hid (HB3.out.grown hg8 (by omega) (fun k hk => own_base HV3.out k hk)); have z8 := hg8.size; have c8 := (rd_own HL8.out).cells a1 rfl j (.string xs) (by rw [← HXS.out]; exact HGX.out); clear ho8 hb8 hg8) | (at_builtin; refine wpList_app (w0 := w8) w8 W.heap.size rfl _ _ 27 9 5 (.int .u8 0) 1 1 rfl Tryd.underlying27 info_u8 rfl (by omega) (by omega) v8 (m0 + 1) (bs (l ++ out) ++ [.int .u8 (x.length : Int)]) rfl (.own HV8.out) (.string xs) xs.size (bs xs.data.toList) rfl (.str Tryd.underlying9 Tryd.underlying27 info_u8 rfl xs) (Below.refl _ _) (by omega) (by omega) ?_; intro v9 w9 _ ho9' hb9 hg9; have ho9 := ho9' (.inr HV8.out); have HV9 := Lib.hid ho9; have HN9 := Lib.hid (own_kept_other HN8.out HV8.out (by decide) hg9); have HP9 := Lib.hid (own_kept_other HP8.out HV8.out (by decide) hg9); have HL9 := Lib.hid (own_kept_other HL8.out HV8.out (by decide) hg9); have HB9 := Lib.hid (HB8.out.grown hg9 (by omega) (fun k hk => own_base HV8.out k hk)); clear ho9' ho9 hb9 hg9))
          go_roundw
          case rel =>
            have hPx : RowP plain l ls tab pre out (x :: r) (tab ++ nw) := by have := HP.out; rwa [HXR.out] at this
            have hPn := hPx.next (by rw [HLK.out, HLO.out]; rfl) (tab ++ nw) (by rw [HLK.out, HLO.out, hm0, if_pos (by simp; omega)])
            have hNL : ∀ p ∈ nw, (gl r).length < p.1.length := fun p hp => by
              have hold : p ∈ nw → (gl r).length < p.1.length := fun hp => by have := HNW.out p hp; rw [HXR.out] at this; omega
              exact hold hp
            refine ⟨⟨j + 1, nw, out ++ (UInt8.ofNat x.length :: x), _, by go_num, by omega, ?_, HN9.out, HP9.out, by rw [HR1.out]; exact hPn, by rw [HR1.out]; exact hNL, by omega, HB9.out⟩, HL9.out⟩
            have ho := HV9.out
            have ex : bs (l ++ (out ++ (UInt8.ofNat x.length :: x))) = bs (l ++ out) ++ [.int .u8 (x.length : Int)] ++ bs xs.data.toList := by
              rw [← List.append_assoc, bs_app, ← HXS.out, str_toList, List.append_assoc]
              simp only [bs, List.map_cons, List.singleton_append]
              rw [show B (UInt8.ofNat x.length) = .int .u8 (x.length : Int) by rw [B, ofNat_len (by omega)]]
            rw [ex, List.length_append, List.length_cons, show l.length + (out.length + (x.length + 1)) = m0 + 1 + xs.size by omega]
            exact ho
          case measure => simp [intOf]; omega
    · have hge : decide ((j : Int) < (ls.length : Int)) = false := by simp; omega
      have hjl : j = ls.length := by omega
      have hen : en plain tab ls l.length = (out ++ [0], tab ++ nw) := by
        rw [HP.out.en, hjl, List.drop_length]
        rfl
      have HEN := Lib.hid hen
      clear hen
      rw [hm0] at HOV ⊢
      go_wp2_with (first | (go_at_call 86; refine (keep_ wr rt vn vp tab nw HTW.out (by omega) (by omega) An Ap cn cp (own_lower HON.out (by omega)) (own_lower HOP.out (by omega))).mono ?_; rintro e w5 ⟨rfl, vn5, vp5, hT5, hC5⟩; have HT5 := Lib.hid hT5; have HC5 := Lib.hid hC5; have hov5 := hC5.own HOV.out; have HOV5 := Lib.hid hov5; have hz5 := hC5.1.size; clear hT5 hC5 hov5) | (at_builtin; refine wpList_app1 (w0 := w5) W.heap.size rfl _ _ 27 5 (.int .u8 0) 1 rfl Tryd.underlying27 info_u8 rfl (by omega) (.slice Av m0 cv) m0 (bs (l ++ out)) (.int .u8 0) rfl (.own HOV5.out) rfl rfl (Below.refl _ _) (by omega) (by omega) ?_; intro v6 w6 ho6 hb6 hg6; have HO6 := Lib.hid ho6; have HG6 := Lib.hid hg6; clear ho6 hb6 hg6))
      go_ret2
      refine ⟨_, _, rfl, ?_⟩
      unfold RefR
      rw [HEN.out]
      refine ⟨rfl, ?_, vn5, vp5, ?_, ?_⟩
      · rw [← List.append_assoc, bs_app, List.length_append, ← Nat.add_assoc, hm0]
        exact own_lower HO6.out (by omega)
      · exact HT5.out.grow HOV5.out (by omega) HG6.out
      · exact chg_fresh ((chg_below hb (by omega)).trans HC5.out) (by omega) HG6.out (fun k hk => own_base HOV5.out k hk)
end Go.Proofs.YtdjknikkiojfhaaDoor
