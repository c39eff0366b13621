/- edns: Find. -/
import Derived.Test.YtdgdgioenfglnaaLG
import Derived.Deep.DeepCutAuto
namespace Go.Proofs.Ytdgdgioenfglnaa
open Go.RowKit Go.HL
set_option linter.unusedVariables false
set_option linter.unusedSimpArgs false

/-- Nothing but Raw. -/
def dataEq (r : Rc) : Bool := r.raw.toList == r.raw.toList && r.host.toList == (⟨#[]⟩ : ByteArray).toList && r.mail.toList == (⟨#[]⟩ : ByteArray).toList && (r.n0 == 0 && r.n1 == 0 && r.n2 == 0 && r.n3 == 0 && r.n4 == 0)
theorem eqD (r : Rc) (W : World) : (Op.equalIn 10000 29 (.agg #[.string r.raw, .string r.host, .string r.mail, .int .u32 r.n0, .int .u32 r.n1, .int .u32 r.n2, .int .u32 r.n3, .int .u32 r.n4]) (.agg #[.string r.raw, .string ⟨#[]⟩, .string ⟨#[]⟩, .int .u32 0, .int .u32 0, .int .u32 0, .int .u32 0, .int .u32 0])).run Try.prog W = .ok (dataEq r) W :=
  eqData 9997 r.raw r.host r.mail r.raw ⟨#[]⟩ ⟨#[]⟩ r.n0 r.n1 r.n2 r.n3 r.n4 0 0 0 0 0 W
/-- What an OPT says: its cells. -/
def saysOf (r : Rc) : List Value := [.int .u16 r.cl, .int .u8 (r.ttl / 16777216), .int .u8 (r.ttl / 65536 % 256), .int .u16 (r.ttl % 65536), .string r.raw]
def noneSays : List Value := [.int .u16 0, .int .u8 0, .int .u8 0, .int .u16 0, .string ⟨#[]⟩]
def goodAt (l : List Rc) (i : Nat) (r : Rc) : Bool := okOf r.raw && decide (r.nm.toList = [0]) && !(l.drop (i + 1)).any isOpt && dataEq r
def FindP (w : World) (cs : List Value) (is : Bool) (er : Int) (e : Ending) (w' : World) : Prop := e = .returned (.tuple #[.agg cs.toArray, .bool is, .int .i64 er]) ∧ Below w.heap.size w w'
theorem Rd.tail {w : World} {ad : Addr} {n c : Nat} {l : List Rc} (h : Rd w 12 (some ad) n c (rcs l)) (i : Nat) (hi : i < n) : Rd w 12 (some (ad.add ((i + 1) * 12))) (n - (i + 1)) (c - (i + 1)) (rcs (l.drop (i + 1))) := by
  have := h.cut (i + 1) n (by omega) (Nat.le_refl _)
  have hl := Rd.recs h
  have e1 : ((rcs l).drop ((i + 1) * 12)).take ((n - (i + 1)) * 12) = rcs (l.drop (i + 1)) := by
    have h2 : ∀ (k : Nat) (l : List Rc), (rcs l).drop (k * 12) = rcs (l.drop k) := by
      intro k
      induction k with
      | zero => intro l; simp
      | succ k ih =>
        intro l
        cases l with
        | nil => simp [rcs]
        | cons x l =>
          simp only [rcs, List.flatMap_cons, List.drop_succ_cons]
          rw [show (k + 1) * 12 = x.cells.length + k * 12 by simp [Rc.cells, recCells]; omega, ← List.drop_drop, List.drop_left]
          exact ih l
    rw [h2, List.take_of_length_le (by rw [rcs_len, List.length_drop]; omega)]
  rw [e1] at this
  exact this
set_option maxRecDepth 100000 in
set_option maxHeartbeats 4000000 in
theorem find_none (w : World) (m : Mg) (A : Option Addr) (n c : Nat) (l : List Rc) (hr : Rd w 12 A n c (rcs l)) (hn : n ≤ 1048576) (h1 : idx l = -1) :
    Calls Try.prog 14 #[m.val A n c] w (FindP w noneSays false 0) := by
  have hb0 := below_alloc (below_new w (.cells (m.cells A n c).toArray 46)) (.cells noneSays.toArray 24)
  have hR0 := Blk.new (w.alloc (.cells (m.cells A n c).toArray 46)) 24 noneSays.toArray
  rw [World.size_alloc] at hR0
  have hi := indexFunc_ ((w.alloc (.cells (m.cells A n c).toArray 46)).alloc (.cells noneSays.toArray 24)) A n c l (hr.below hb0) hn
  rw [h1] at hi
  unfold Mg.val
  go_enter Try.func14, Try.ntmps14
  go_wp2_with (first | (go_at_call 22; refine hi.mono ?_; rintro e w1 ⟨rfl, hb1⟩; have hR1 := hR0.below hb1) | (refine wpList_put rfl 24 (.tmp 2) _ rfl (w.heap.size + 1) noneSays.toArray rfl rfl 24 noneSays hR1 sizeEdns rfl rfl ?_; have k4 := hR1.row noneSays.toArray; have k5 := (below_trans hb0 hb1).grown (grown_row w1 (w.heap.size + 1) noneSays.toArray) (below_trans hb0 hb1).size (fun j hj => by cases hj; omega)))
  refine bodyPost_ret (results_rec3 rfl _ _ _ _ _ rfl k4 Try.underlying24 rfl sizeEdns) rfl ?_
  exact ⟨rfl, k5⟩
set_option maxRecDepth 100000 in
set_option maxHeartbeats 4000000 in
theorem find_some (w : World) (m : Mg) (ad : Addr) (n c : Nat) (l : List Rc) (hr : Rd w 12 (some ad) n c (rcs l)) (hn : n ≤ 1048576) (i : Nat) (r : Rc) (h1 : idx l = i) (h2 : l[i]? = some r) (hro : r.ok) (hci : c ≠ i + 1) :
    Calls Try.prog 14 #[m.val (some ad) n c] w (FindP w (if goodAt l i r then saysOf r else noneSays) (goodAt l i r) (if goodAt l i r then 0 else 70)) := by
  have hl := Rd.recs hr
  have hin : i < n := by have := (List.getElem?_eq_some_iff.1 h2).1; omega
  have hle := hr.le
  have hb0 := below_alloc (below_new w (.cells (m.cells (some ad) n c).toArray 46)) (.cells noneSays.toArray 24)
  have hR0 := Blk.new (w.alloc (.cells (m.cells (some ad) n c).toArray 46)) 24 noneSays.toArray
  rw [World.size_alloc] at hR0
  have hE0 := (Blk.new w 46 (m.cells (some ad) n c).toArray).alloc (.cells noneSays.toArray 24)
  have hi := indexFunc_ ((w.alloc (.cells (m.cells (some ad) n c).toArray 46)).alloc (.cells noneSays.toArray 24)) (some ad) n c l (hr.below hb0) hn
  rw [h1] at hi
  have hopt := fun W => options_ W r.raw hro.raw
  have l0 := hro.l0
  have l1 := hro.l1
  have heq := eqD r
  have hg : goodAt l i r = (okOf r.raw && decide (r.nm.toList = [0]) && !(l.drop (i + 1)).any isOpt && dataEq r) := rfl
  have HG := Lib.hid hg
  clear hg
  unfold Mg.val
  go_enter Try.func14, Try.ntmps14
  go_upto_region 4 with (go_at_call 22; refine hi.mono ?_; clear hi; rintro e w1 ⟨rfl, hb1⟩; have hR1 := hR0.below hb1; have hE1 := hE0.below hb1; have d12 := hE1.cell 12 _ rfl; have hcs := Rd.rec ((hr.below hb0).below hb1) i r h2; have hb01 := below_trans hb0 hb1; clear hR0 hE0 hb1)
  go_upto_region 5 with (refine wpList_getAt rfl 31 (.tmp 19) rfl (ad.add (i * 12)) rfl [.string r.nm, .int .u16 r.ty, .int .u16 r.cl, .int .u32 r.ttl, .string r.raw, .string r.host, .string r.mail, .int .u32 r.n0, .int .u32 r.n1, .int .u32 r.n2, .int .u32 r.n3, .int .u32 r.n4] _ hcs Try.underlying31 rfl sizeRec ?_)
  go_upto_region 6 with (go_at_call 12; refine (hopt _).mono ?_; clear hopt; rintro e w2 ⟨vn, vl, rfl, _, _, hb2⟩; have hX2 := (Blk.new w1 31 r.cells.toArray).below hb2; have hR2 := (hR1.alloc _).below hb2; have hE2 := (hE1.alloc _).below hb2; have hb02 := below_trans (below_alloc hb01 _) hb2; clear hR1 hE1 hb2; have y0 := hX2.cell 0 _ rfl; have y2 := hX2.cell 2 _ rfl; have y3 := hX2.cell 3 _ rfl; have y4 := hX2.cell 4 _ rfl; have y5 := hX2.cell 5 _ rfl; have y6 := hX2.cell 6 _ rfl; have y7 := hX2.cell 7 _ rfl; have y8 := hX2.cell 8 _ rfl; have y9 := hX2.cell 9 _ rfl; have y10 := hX2.cell 10 _ rfl; have y11 := hX2.cell 11 _ rfl; have e12 := hE2.cell 12 _ rfl)
  have hct := containsFunc_ w2 _ _ _ _ (Rd.tail (hr.below hb02) i hin) (by omega)
  cases q1 : okOf r.raw with
  | false =>
    have hgd : goodAt l i r = false := by rw [HG.out, q1]; rfl
    rw [hgd]
    clear heq hct
    go_upto_region 7 with (fail)
    go_wp2_with (refine wpList_put rfl 24 (.tmp 2) _ rfl (w.heap.size + 1) noneSays.toArray rfl rfl 24 noneSays hR2 sizeEdns rfl rfl ?_; have k4 := hR2.row noneSays.toArray; have k5 := hb02.grown (grown_row w2 (w.heap.size + 1) noneSays.toArray) hb02.size (fun j hj => by cases hj; omega))
    refine bodyPost_ret (results_rec3 rfl _ _ _ _ _ rfl k4 Try.underlying24 rfl sizeEdns) rfl ?_
    exact ⟨rfl, k5⟩
  | true =>
    by_cases hnm : r.nm.toList = [0]
    · cases q3 : (l.drop (i + 1)).any isOpt with
      | true =>
        have hgd : goodAt l i r = false := by rw [HG.out, q1, q3]; simp
        rw [hgd]
        rw [q3] at hct
        clear heq
        go_upto_region 7 with (go_at_call 24; refine hct.mono ?_; clear hct; rintro e w3 ⟨rfl, hb3⟩; have hX3 := hX2.below hb3; have hR3 := hR2.below hb3; have hb03 := below_trans hb02 hb3; clear hR2 hX2 hE2 hb3; have z0 := hX3.cell 0 _ rfl; have z2 := hX3.cell 2 _ rfl; have z3 := hX3.cell 3 _ rfl; have z4 := hX3.cell 4 _ rfl; have z5 := hX3.cell 5 _ rfl; have z6 := hX3.cell 6 _ rfl; have z7 := hX3.cell 7 _ rfl; have z8 := hX3.cell 8 _ rfl; have z9 := hX3.cell 9 _ rfl; have z10 := hX3.cell 10 _ rfl; have z11 := hX3.cell 11 _ rfl)
        go_wp2_with (refine wpList_put rfl 24 (.tmp 2) _ rfl (w.heap.size + 1) noneSays.toArray rfl rfl 24 noneSays hR3 sizeEdns rfl rfl ?_; have k4 := hR3.row noneSays.toArray; have k5 := hb03.grown (grown_row w3 (w.heap.size + 1) noneSays.toArray) hb03.size (fun j hj => by cases hj; omega))
        refine bodyPost_ret (results_rec3 rfl _ _ _ _ _ rfl k4 Try.underlying24 rfl sizeEdns) rfl ?_
        exact ⟨rfl, k5⟩
      | false =>
        rw [q3] at hct
        cases q4 : dataEq r with
        | false =>
          have hgd : goodAt l i r = false := by rw [HG.out, q1, q3, q4]; simp
          rw [hgd]
          rw [q4] at heq
          go_upto_region 7 with (go_at_call 24; refine hct.mono ?_; clear hct; rintro e w3 ⟨rfl, hb3⟩; have hX3 := hX2.below hb3; have hR3 := hR2.below hb3; have hb03 := below_trans hb02 hb3; clear hR2 hX2 hE2 hb3; have z0 := hX3.cell 0 _ rfl; have z2 := hX3.cell 2 _ rfl; have z3 := hX3.cell 3 _ rfl; have z4 := hX3.cell 4 _ rfl; have z5 := hX3.cell 5 _ rfl; have z6 := hX3.cell 6 _ rfl; have z7 := hX3.cell 7 _ rfl; have z8 := hX3.cell 8 _ rfl; have z9 := hX3.cell 9 _ rfl; have z10 := hX3.cell 10 _ rfl; have z11 := hX3.cell 11 _ rfl)
          go_wp2_with (refine wpList_put rfl 24 (.tmp 2) _ rfl (w.heap.size + 1) noneSays.toArray rfl rfl 24 noneSays hR3 sizeEdns rfl rfl ?_; have k4 := hR3.row noneSays.toArray; have k5 := hb03.grown (grown_row w3 (w.heap.size + 1) noneSays.toArray) hb03.size (fun j hj => by cases hj; omega))
          refine bodyPost_ret (results_rec3 rfl _ _ _ _ _ rfl k4 Try.underlying24 rfl sizeEdns) rfl ?_
          exact ⟨rfl, k5⟩
        | true =>
          have hgd : goodAt l i r = true := by rw [HG.out, q1, q3, q4]; simp [hnm]
          rw [hgd]
          rw [q4] at heq
          go_upto_region 8 with (go_at_call 24; refine hct.mono ?_; clear hct; rintro e w3 ⟨rfl, hb3⟩; have hX3 := hX2.below hb3; have hR3 := hR2.below hb3; have hb03 := below_trans hb02 hb3; clear hR2 hX2 hE2 hb3; have z0 := hX3.cell 0 _ rfl; have z2 := hX3.cell 2 _ rfl; have z3 := hX3.cell 3 _ rfl; have z4 := hX3.cell 4 _ rfl; have z5 := hX3.cell 5 _ rfl; have z6 := hX3.cell 6 _ rfl; have z7 := hX3.cell 7 _ rfl; have z8 := hX3.cell 8 _ rfl; have z9 := hX3.cell 9 _ rfl; have z10 := hX3.cell 10 _ rfl; have z11 := hX3.cell 11 _ rfl)
          go_wp2_with (refine wpList_put rfl 24 (.tmp 2) _ rfl (w.heap.size + 1) (saysOf r).toArray rfl rfl 24 noneSays hR3 sizeEdns rfl rfl ?_; have k4 := hR3.row (saysOf r).toArray; have k5 := hb03.grown (grown_row w3 (w.heap.size + 1) (saysOf r).toArray) hb03.size (fun j hj => by cases hj; omega))
          refine bodyPost_ret (results_rec3 rfl _ _ _ _ _ rfl k4 Try.underlying24 rfl sizeEdns) rfl ?_
          exact ⟨rfl, k5⟩
    · have hgd : goodAt l i r = false := by rw [HG.out]; simp [hnm]
      rw [hgd]
      clear heq hct
      go_upto_region 7 with (fail)
      go_wp2_with (refine wpList_put rfl 24 (.tmp 2) _ rfl (w.heap.size + 1) noneSays.toArray rfl rfl 24 noneSays hR2 sizeEdns rfl rfl ?_; have k4 := hR2.row noneSays.toArray; have k5 := hb02.grown (grown_row w2 (w.heap.size + 1) noneSays.toArray) hb02.size (fun j hj => by cases hj; omega))
      refine bodyPost_ret (results_rec3 rfl _ _ _ _ _ rfl k4 Try.underlying24 rfl sizeEdns) rfl ?_
      exact ⟨rfl, k5⟩
set_option maxRecDepth 100000 in
set_option maxHeartbeats 4000000 in
theorem find_last (w : World) (m : Mg) (ad : Addr) (n c : Nat) (l : List Rc) (hr : Rd w 12 (some ad) n c (rcs l)) (hn : n ≤ 1048576) (i : Nat) (r : Rc) (h1 : idx l = i) (h2 : l[i]? = some r) (hro : r.ok) (hci : c = i + 1) :
    Calls Try.prog 14 #[m.val (some ad) n c] w (FindP w (if goodAt l i r then saysOf r else noneSays) (goodAt l i r) (if goodAt l i r then 0 else 70)) := by
  have hl := Rd.recs hr
  have hin : i < n := by have := (List.getElem?_eq_some_iff.1 h2).1; omega
  have hle := hr.le
  obtain rfl : n = i + 1 := by omega
  subst hci
  have hdr : l.drop (i + 1) = [] := List.drop_eq_nil_of_le (by omega)
  have hb0 := below_alloc (below_new w (.cells (m.cells (some ad) (i + 1) (i + 1)).toArray 46)) (.cells noneSays.toArray 24)
  have hR0 := Blk.new (w.alloc (.cells (m.cells (some ad) (i + 1) (i + 1)).toArray 46)) 24 noneSays.toArray
  rw [World.size_alloc] at hR0
  have hE0 := (Blk.new w 46 (m.cells (some ad) (i + 1) (i + 1)).toArray).alloc (.cells noneSays.toArray 24)
  have hi := indexFunc_ ((w.alloc (.cells (m.cells (some ad) (i + 1) (i + 1)).toArray 46)).alloc (.cells noneSays.toArray 24)) (some ad) (i + 1) (i + 1) l (hr.below hb0) hn
  rw [h1] at hi
  have hopt := fun W => options_ W r.raw hro.raw
  have l0 := hro.l0
  have l1 := hro.l1
  have heq := eqD r
  have hg : goodAt l i r = (okOf r.raw && decide (r.nm.toList = [0]) && !(l.drop (i + 1)).any isOpt && dataEq r) := rfl
  have HG := Lib.hid hg
  clear hg
  unfold Mg.val
  go_enter Try.func14, Try.ntmps14
  go_upto_region 4 with (go_at_call 22; refine hi.mono ?_; clear hi; rintro e w1 ⟨rfl, hb1⟩; have hR1 := hR0.below hb1; have hE1 := hE0.below hb1; have d12 := hE1.cell 12 _ rfl; have hcs := Rd.rec ((hr.below hb0).below hb1) i r h2; have hb01 := below_trans hb0 hb1; clear hR0 hE0 hb1)
  go_upto_region 5 with (refine wpList_getAt rfl 31 (.tmp 19) rfl (ad.add (i * 12)) rfl [.string r.nm, .int .u16 r.ty, .int .u16 r.cl, .int .u32 r.ttl, .string r.raw, .string r.host, .string r.mail, .int .u32 r.n0, .int .u32 r.n1, .int .u32 r.n2, .int .u32 r.n3, .int .u32 r.n4] _ hcs Try.underlying31 rfl sizeRec ?_)
  go_upto_region 6 with (go_at_call 12; refine (hopt _).mono ?_; clear hopt; rintro e w2 ⟨vn, vl, rfl, _, _, hb2⟩; have hX2 := (Blk.new w1 31 r.cells.toArray).below hb2; have hR2 := (hR1.alloc _).below hb2; have hE2 := (hE1.alloc _).below hb2; have hb02 := below_trans (below_alloc hb01 _) hb2; clear hR1 hE1 hb2; have y0 := hX2.cell 0 _ rfl; have y2 := hX2.cell 2 _ rfl; have y3 := hX2.cell 3 _ rfl; have y4 := hX2.cell 4 _ rfl; have y5 := hX2.cell 5 _ rfl; have y6 := hX2.cell 6 _ rfl; have y7 := hX2.cell 7 _ rfl; have y8 := hX2.cell 8 _ rfl; have y9 := hX2.cell 9 _ rfl; have y10 := hX2.cell 10 _ rfl; have y11 := hX2.cell 11 _ rfl; have e12 := hE2.cell 12 _ rfl)
  have hct := containsFunc_ w2 (some ad) 0 0 (l.drop (i + 1)) (by rw [hdr]; exact Rd.empty w2 12 ad 0) (by omega)
  clear hdr
  cases q1 : okOf r.raw with
  | false =>
    have hgd : goodAt l i r = false := by rw [HG.out, q1]; rfl
    rw [hgd]
    clear heq hct
    go_upto_region 7 with (fail)
    go_wp2_with (refine wpList_put rfl 24 (.tmp 2) _ rfl (w.heap.size + 1) noneSays.toArray rfl rfl 24 noneSays hR2 sizeEdns rfl rfl ?_; have k4 := hR2.row noneSays.toArray; have k5 := hb02.grown (grown_row w2 (w.heap.size + 1) noneSays.toArray) hb02.size (fun j hj => by cases hj; omega))
    refine bodyPost_ret (results_rec3 rfl _ _ _ _ _ rfl k4 Try.underlying24 rfl sizeEdns) rfl ?_
    exact ⟨rfl, k5⟩
  | true =>
    by_cases hnm : r.nm.toList = [0]
    · cases q3 : (l.drop (i + 1)).any isOpt with
      | true =>
        have hgd : goodAt l i r = false := by rw [HG.out, q1, q3]; simp
        rw [hgd]
        rw [q3] at hct
        clear heq
        go_upto_region 7 with (go_at_call 24; refine hct.mono ?_; clear hct; rintro e w3 ⟨rfl, hb3⟩; have hX3 := hX2.below hb3; have hR3 := hR2.below hb3; have hb03 := below_trans hb02 hb3; clear hR2 hX2 hE2 hb3; have z0 := hX3.cell 0 _ rfl; have z2 := hX3.cell 2 _ rfl; have z3 := hX3.cell 3 _ rfl; have z4 := hX3.cell 4 _ rfl; have z5 := hX3.cell 5 _ rfl; have z6 := hX3.cell 6 _ rfl; have z7 := hX3.cell 7 _ rfl; have z8 := hX3.cell 8 _ rfl; have z9 := hX3.cell 9 _ rfl; have z10 := hX3.cell 10 _ rfl; have z11 := hX3.cell 11 _ rfl)
        go_wp2_with (refine wpList_put rfl 24 (.tmp 2) _ rfl (w.heap.size + 1) noneSays.toArray rfl rfl 24 noneSays hR3 sizeEdns rfl rfl ?_; have k4 := hR3.row noneSays.toArray; have k5 := hb03.grown (grown_row w3 (w.heap.size + 1) noneSays.toArray) hb03.size (fun j hj => by cases hj; omega))
        refine bodyPost_ret (results_rec3 rfl _ _ _ _ _ rfl k4 Try.underlying24 rfl sizeEdns) rfl ?_
        exact ⟨rfl, k5⟩
      | false =>
        rw [q3] at hct
        cases q4 : dataEq r with
        | false =>
          have hgd : goodAt l i r = false := by rw [HG.out, q1, q3, q4]; simp
          rw [hgd]
          rw [q4] at heq
          go_upto_region 7 with (go_at_call 24; refine hct.mono ?_; clear hct; rintro e w3 ⟨rfl, hb3⟩; have hX3 := hX2.below hb3; have hR3 := hR2.below hb3; have hb03 := below_trans hb02 hb3; clear hR2 hX2 hE2 hb3; have z0 := hX3.cell 0 _ rfl; have z2 := hX3.cell 2 _ rfl; have z3 := hX3.cell 3 _ rfl; have z4 := hX3.cell 4 _ rfl; have z5 := hX3.cell 5 _ rfl; have z6 := hX3.cell 6 _ rfl; have z7 := hX3.cell 7 _ rfl; have z8 := hX3.cell 8 _ rfl; have z9 := hX3.cell 9 _ rfl; have z10 := hX3.cell 10 _ rfl; have z11 := hX3.cell 11 _ rfl)
          go_wp2_with (refine wpList_put rfl 24 (.tmp 2) _ rfl (w.heap.size + 1) noneSays.toArray rfl rfl 24 noneSays hR3 sizeEdns rfl rfl ?_; have k4 := hR3.row noneSays.toArray; have k5 := hb03.grown (grown_row w3 (w.heap.size + 1) noneSays.toArray) hb03.size (fun j hj => by cases hj; omega))
          refine bodyPost_ret (results_rec3 rfl _ _ _ _ _ rfl k4 Try.underlying24 rfl sizeEdns) rfl ?_
          exact ⟨rfl, k5⟩
        | true =>
          have hgd : goodAt l i r = true := by rw [HG.out, q1, q3, q4]; simp [hnm]
          rw [hgd]
          rw [q4] at heq
          go_upto_region 8 with (go_at_call 24; refine hct.mono ?_; clear hct; rintro e w3 ⟨rfl, hb3⟩; have hX3 := hX2.below hb3; have hR3 := hR2.below hb3; have hb03 := below_trans hb02 hb3; clear hR2 hX2 hE2 hb3; have z0 := hX3.cell 0 _ rfl; have z2 := hX3.cell 2 _ rfl; have z3 := hX3.cell 3 _ rfl; have z4 := hX3.cell 4 _ rfl; have z5 := hX3.cell 5 _ rfl; have z6 := hX3.cell 6 _ rfl; have z7 := hX3.cell 7 _ rfl; have z8 := hX3.cell 8 _ rfl; have z9 := hX3.cell 9 _ rfl; have z10 := hX3.cell 10 _ rfl; have z11 := hX3.cell 11 _ rfl)
          go_wp2_with (refine wpList_put rfl 24 (.tmp 2) _ rfl (w.heap.size + 1) (saysOf r).toArray rfl rfl 24 noneSays hR3 sizeEdns rfl rfl ?_; have k4 := hR3.row (saysOf r).toArray; have k5 := hb03.grown (grown_row w3 (w.heap.size + 1) (saysOf r).toArray) hb03.size (fun j hj => by cases hj; omega))
          refine bodyPost_ret (results_rec3 rfl _ _ _ _ _ rfl k4 Try.underlying24 rfl sizeEdns) rfl ?_
          exact ⟨rfl, k5⟩
    · have hgd : goodAt l i r = false := by rw [HG.out]; simp [hnm]
      rw [hgd]
      clear heq hct
      go_upto_region 7 with (fail)
      go_wp2_with (refine wpList_put rfl 24 (.tmp 2) _ rfl (w.heap.size + 1) noneSays.toArray rfl rfl 24 noneSays hR2 sizeEdns rfl rfl ?_; have k4 := hR2.row noneSays.toArray; have k5 := hb02.grown (grown_row w2 (w.heap.size + 1) noneSays.toArray) hb02.size (fun j hj => by cases hj; omega))
      refine bodyPost_ret (results_rec3 rfl _ _ _ _ _ rfl k4 Try.underlying24 rfl sizeEdns) rfl ?_
      exact ⟨rfl, k5⟩
end Go.Proofs.Ytdgdgioenfglnaa
