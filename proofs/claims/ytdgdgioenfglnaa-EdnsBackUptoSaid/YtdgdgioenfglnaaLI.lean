/- edns: Find, the document's answer. -/
import Derived.Test.YtdgdgioenfglnaaLH
namespace Go.Proofs.Ytdgdgioenfglnaa
open Go.RowKit Go.HL
set_option linter.unusedVariables false
set_option linter.unusedSimpArgs false

theorem Rc.cells_len (r : Rc) : r.cells.length = 12 := rfl
/-- How far the search has come, the first OPT being r at i. -/
def Far (l : List Rc) (i : Nat) (r : Rc) (k cnt : Nat) (xc : List Value) : Prop :=
  (k ≤ i ∧ cnt = 0) ∨ (i < k ∧ cnt = 1 ∧ xc = r.cells ∧ ∀ (j : Nat) q, i < j → j < k → l[j]? = some q → isOpt q = false) ∨ (i < k ∧ 2 ≤ cnt ∧ (l.drop (i + 1)).any isOpt = true)
theorem any_drop {l : List Rc} {i k : Nat} {q : Rc} (hik : i < k) (hq : l[k]? = some q) (ho : isOpt q = true) : (l.drop (i + 1)).any isOpt = true := by
  refine List.any_eq_true.2 ⟨q, ?_, ho⟩
  refine List.mem_of_getElem? (i := k - (i + 1)) ?_
  rw [List.getElem?_drop, show i + 1 + (k - (i + 1)) = k by omega]
  exact hq
theorem any_none {l : List Rc} {i : Nat} (h : ∀ (j : Nat) q, i < j → j < l.length → l[j]? = some q → isOpt q = false) : (l.drop (i + 1)).any isOpt = false := by
  rw [List.any_eq_false]
  intro q hq
  obtain ⟨j, hj⟩ := List.getElem?_of_mem hq
  rw [List.getElem?_drop] at hj
  simpa using h (i + 1 + j) q (by omega) ((List.getElem?_eq_some_iff.1 hj).1) hj
/-- What the first OPT, r at i, tells. -/
def FoundP (w : World) (l : List Rc) (i : Nat) (r : Rc) (e : Ending) (w' : World) : Prop := FindP w (if goodAt l i r then saysOf r else noneSays) (goodAt l i r) (if goodAt l i r then 0 else 70) e w'
set_option maxRecDepth 100000 in
set_option maxHeartbeats 4000000 in
theorem refFind_some (w : World) (m : Mg) (ad : Addr) (n c : Nat) (l : List Rc) (hr : Rd w 12 (some ad) n c (rcs l)) (hn : n ≤ 1048576) (i : Nat) (r : Rc) (h2 : l[i]? = some r) (h3 : isOpt r = true) (h4 : ∀ (j : Nat) q, j < i → l[j]? = some q → isOpt q = false) (hro : r.ok) :
    Calls Try.prog 15 #[m.val (some ad) n c] w (FoundP w l i r) := by
  have hl := Rd.recs hr
  have hin : i < n := by have := (List.getElem?_eq_some_iff.1 h2).1; omega
  have hmay := fun W => may_ W r.raw hro.raw
  have l0 := hro.l0
  have l1 := hro.l1
  have heq := eqD r
  have hg : goodAt l i r = (okOf r.raw && decide (r.nm.toList = [0]) && !(l.drop (i + 1)).any isOpt && dataEq r) := rfl
  have HG := Lib.hid hg
  clear hg
  have hb0 := below_alloc (below_alloc (below_new w (.cells (m.cells (some ad) n c).toArray 46)) (.cells noneSays.toArray 24)) (.cells zeroCells.toArray 31)
  have hR0 := Blk.new (w.alloc (.cells (m.cells (some ad) n c).toArray 46)) 24 noneSays.toArray
  have hX0 := Blk.new ((w.alloc (.cells (m.cells (some ad) n c).toArray 46)).alloc (.cells noneSays.toArray 24)) 31 zeroCells.toArray
  rw [World.size_alloc] at hR0
  rw [World.size_alloc, World.size_alloc] at hX0
  have hR1 := hR0.alloc (.cells zeroCells.toArray 31)
  have hE1 := ((Blk.new w 46 (m.cells (some ad) n c).toArray).alloc (.cells noneSays.toArray 24)).alloc (.cells zeroCells.toArray 31)
  unfold Mg.val
  go_enter Try.func15, Try.ntmps15
  go_wp2
  go_loopw [5, 7] (fun u5 u7 wr => ∃ (k cnt : Nat) (xc : List Value), k ≤ n ∧ u7 = .int .i64 k ∧ u5 = .int .i64 cnt ∧ cnt ≤ k ∧ xc.length = 12 ∧ Blk wr (w.heap.size + 1 + 1) 31 xc ∧ Blk wr (w.heap.size + 1) 24 noneSays ∧ Blk wr w.heap.size 46 (m.cells (some ad) n c) ∧ Below w.heap.size w wr ∧ Far l i r k cnt xc) (fun _ u7 _ => n - (intOf u7).toNat)
  case atStart => exact ⟨0, 0, zeroCells, Nat.zero_le _, rfl, rfl, Nat.le_refl _, rfl, hX0, hR1, hE1, hb0, .inl ⟨Nat.zero_le _, rfl⟩⟩
  case round =>
    clear hX0 hR1 hE1 hb0 hR0
    obtain ⟨k, cnt, xc, hk, rfl, rfl, hck, hxl, hX, hR, hE, hb, hF⟩ := hrel
    have d12 := hE.cell 12 _ rfl
    by_cases hlt : k < n
    · obtain ⟨q, hqk⟩ : ∃ q, l[k]? = some q := ⟨l[k], List.getElem?_eq_getElem (by omega)⟩
      have hcs := Rd.rec (hr.below hb) k q hqk
      have d1 : wr.cell? ⟨(ad.add (k * 12)).block, (ad.add (k * 12)).off + 1, none⟩ = some (.int .u16 q.ty) := cells_at hcs 0 _ rfl
      clear heq hmay
      by_cases hty : q.ty = 41
      · have hio : isOpt q = true := by unfold isOpt; simpa using hty
        have hki : i ≤ k := by
          rcases Nat.lt_or_ge k i with h | h
          · rw [h4 k q h hqk] at hio; cases hio
          · exact h
        go_upto_region 7 with (fail)
        go_upto_region 8 with (first | (refine wpList_getAt rfl 31 (.tmp 25) rfl (ad.add (k * 12)) rfl [.string q.nm, .int .u16 q.ty, .int .u16 q.cl, .int .u32 q.ttl, .string q.raw, .string q.host, .string q.mail, .int .u32 q.n0, .int .u32 q.n1, .int .u32 q.n2, .int .u32 q.n3, .int .u32 q.n4] _ hcs Try.underlying31 rfl sizeRec ?_) | (refine wpList_put rfl 31 (.tmp 6) _ rfl (w.heap.size + 1 + 1) q.cells.toArray rfl rfl 31 xc hX sizeRec (by rw [hxl]; rfl) rfl ?_))
        have hg2 := grown_row wr (w.heap.size + 1 + 1) q.cells.toArray
        go_wp2
        go_roundw
        case rel =>
          refine ⟨k + 1, cnt + 1, q.cells, by omega, by go_num, by go_num, by omega, rfl, hX.row _, hR.grown hg2 (by simp), hE.grown hg2 (by simp; omega), hb.grown hg2 hb.size (fun j hj => by cases hj; omega), ?_⟩
          rcases hF with ⟨f1, f2⟩ | ⟨f1, f2, f3, f4⟩ | ⟨f1, f2, f3⟩
          · obtain rfl : k = i := by omega
            rw [h2] at hqk
            cases hqk
            exact .inr (.inl ⟨by omega, by omega, rfl, fun j q hj1 hj2 => absurd hj1 (by omega)⟩)
          · exact .inr (.inr ⟨by omega, by omega, any_drop f1 hqk hio⟩)
          · exact .inr (.inr ⟨by omega, by omega, f3⟩)
        case measure => simp [intOf]; omega
      · have hio : isOpt q = false := by unfold isOpt; simpa using hty
        go_wp2
        go_roundw
        case rel =>
          refine ⟨k + 1, cnt, xc, by omega, by go_num, rfl, by omega, hxl, hX, hR, hE, hb, ?_⟩
          rcases hF with ⟨f1, f2⟩ | ⟨f1, f2, f3, f4⟩ | ⟨f1, f2, f3⟩
          · rcases Nat.lt_or_ge k i with h | h
            · exact .inl ⟨by omega, f2⟩
            · obtain rfl : k = i := by omega
              rw [h2] at hqk
              cases hqk
              rw [h3] at hio
              cases hio
          · refine .inr (.inl ⟨by omega, f2, f3, fun j p hj1 hj2 hp => ?_⟩)
            by_cases hjk : j < k
            · exact f4 j p hj1 hjk hp
            · obtain rfl : j = k := by omega
              rw [hqk] at hp
              cases hp
              exact hio
          · exact .inr (.inr ⟨by omega, f2, f3⟩)
        case measure => simp [intOf]; omega
    · obtain rfl : k = n := by omega
      rcases hF with ⟨f1, f2⟩ | ⟨f1, rfl, rfl, f4⟩ | ⟨f1, f2, f3⟩
      · omega
      · have q3 : (l.drop (i + 1)).any isOpt = false := any_none (fun j q hj1 hj2 hq => f4 j q hj1 (by omega) hq)
        have y0 := hX.cell 0 _ rfl
        have y4 := hX.cell 4 _ rfl
        by_cases hnm : r.nm.toList = [0]
        · cases q1 : okOf r.raw with
          | false =>
            have hgd : goodAt l i r = false := by rw [HG.out, q1]; rfl
            clear heq
            go_upto_region 12 with (go_at_call 19; refine (hmay _).mono ?_; clear hmay; rintro e w3 ⟨rfl, hb3⟩; have hX3 := hX.below hb3; have hR3 := hR.below hb3; have hb03 := below_trans hb hb3; clear hX hR hE hb3; have z0 := hX3.cell 0 _ rfl; have z1 := hX3.cell 1 _ rfl; have z2 := hX3.cell 2 _ rfl; have z3 := hX3.cell 3 _ rfl; have z4 := hX3.cell 4 _ rfl; have z5 := hX3.cell 5 _ rfl; have z6 := hX3.cell 6 _ rfl; have z7 := hX3.cell 7 _ rfl; have z8 := hX3.cell 8 _ rfl; have z9 := hX3.cell 9 _ rfl; have z10 := hX3.cell 10 _ rfl; have z11 := hX3.cell 11 _ rfl; rw [q1])
            go_wp2_with (refine wpList_put rfl 24 (.tmp 2) _ rfl (w.heap.size + 1) noneSays.toArray rfl rfl 24 noneSays hR3 sizeEdns rfl rfl ?_; have k4 := hR3.row noneSays.toArray; have k5 := hb03.grown (grown_row w3 (w.heap.size + 1) noneSays.toArray) hb03.size (fun j hj => by cases hj; omega))
            refine bodyPost_ret (results_rec3 rfl _ _ _ _ _ rfl k4 Try.underlying24 rfl sizeEdns) rfl ?_
            unfold FoundP
            rw [hgd]
            exact ⟨rfl, k5⟩
          | true =>
            cases q4 : dataEq r with
            | false =>
              have hgd : goodAt l i r = false := by rw [HG.out, q4]; simp
              rw [q4] at heq
              go_upto_region 12 with (go_at_call 19; refine (hmay _).mono ?_; clear hmay; rintro e w3 ⟨rfl, hb3⟩; have hX3 := hX.below hb3; have hR3 := hR.below hb3; have hb03 := below_trans hb hb3; clear hX hR hE hb3; have z0 := hX3.cell 0 _ rfl; have z1 := hX3.cell 1 _ rfl; have z2 := hX3.cell 2 _ rfl; have z3 := hX3.cell 3 _ rfl; have z4 := hX3.cell 4 _ rfl; have z5 := hX3.cell 5 _ rfl; have z6 := hX3.cell 6 _ rfl; have z7 := hX3.cell 7 _ rfl; have z8 := hX3.cell 8 _ rfl; have z9 := hX3.cell 9 _ rfl; have z10 := hX3.cell 10 _ rfl; have z11 := hX3.cell 11 _ rfl; rw [q1])
              go_wp2_with (refine wpList_put rfl 24 (.tmp 2) _ rfl (w.heap.size + 1) noneSays.toArray rfl rfl 24 noneSays hR3 sizeEdns rfl rfl ?_; have k4 := hR3.row noneSays.toArray; have k5 := hb03.grown (grown_row w3 (w.heap.size + 1) noneSays.toArray) hb03.size (fun j hj => by cases hj; omega))
              refine bodyPost_ret (results_rec3 rfl _ _ _ _ _ rfl k4 Try.underlying24 rfl sizeEdns) rfl ?_
              unfold FoundP
              rw [hgd]
              exact ⟨rfl, k5⟩
            | true =>
              have hgd : goodAt l i r = true := by rw [HG.out, q1, q3, q4]; simp [hnm]
              rw [q4] at heq
              go_upto_region 13 with (go_at_call 19; refine (hmay _).mono ?_; clear hmay; rintro e w3 ⟨rfl, hb3⟩; have hX3 := hX.below hb3; have hR3 := hR.below hb3; have hb03 := below_trans hb hb3; clear hX hR hE hb3; have z0 := hX3.cell 0 _ rfl; have z1 := hX3.cell 1 _ rfl; have z2 := hX3.cell 2 _ rfl; have z3 := hX3.cell 3 _ rfl; have z4 := hX3.cell 4 _ rfl; have z5 := hX3.cell 5 _ rfl; have z6 := hX3.cell 6 _ rfl; have z7 := hX3.cell 7 _ rfl; have z8 := hX3.cell 8 _ rfl; have z9 := hX3.cell 9 _ rfl; have z10 := hX3.cell 10 _ rfl; have z11 := hX3.cell 11 _ rfl; rw [q1])
              go_wp2_with (refine wpList_put rfl 24 (.tmp 2) _ rfl (w.heap.size + 1) (saysOf r).toArray rfl rfl 24 noneSays hR3 sizeEdns rfl rfl ?_; have k4 := hR3.row (saysOf r).toArray; have k5 := hb03.grown (grown_row w3 (w.heap.size + 1) (saysOf r).toArray) hb03.size (fun j hj => by cases hj; omega))
              refine bodyPost_ret (results_rec3 rfl _ _ _ _ _ rfl k4 Try.underlying24 rfl sizeEdns) rfl ?_
              unfold FoundP
              rw [hgd]
              exact ⟨rfl, k5⟩
        · have hgd : goodAt l i r = false := by rw [HG.out]; simp [hnm]
          clear heq hmay
          go_upto_region 12 with (fail)
          go_wp2_with (refine wpList_put rfl 24 (.tmp 2) _ rfl (w.heap.size + 1) noneSays.toArray rfl rfl 24 noneSays hR sizeEdns rfl rfl ?_; have k4 := hR.row noneSays.toArray; have k5 := hb.grown (grown_row wr (w.heap.size + 1) noneSays.toArray) hb.size (fun j hj => by cases hj; omega))
          refine bodyPost_ret (results_rec3 rfl _ _ _ _ _ rfl k4 Try.underlying24 rfl sizeEdns) rfl ?_
          unfold FoundP
          rw [hgd]
          exact ⟨rfl, k5⟩
      · have hgd : goodAt l i r = false := by rw [HG.out, f3]; simp
        have f2' : (1 : Int) < (cnt : Int) := by omega
        have f2'' : ¬ ((cnt : Int) = 0) := by omega
        clear heq hmay
        go_upto_region 12 with (fail)
        go_wp2_with (refine wpList_put rfl 24 (.tmp 2) _ rfl (w.heap.size + 1) noneSays.toArray rfl rfl 24 noneSays hR sizeEdns rfl rfl ?_; have k4 := hR.row noneSays.toArray; have k5 := hb.grown (grown_row wr (w.heap.size + 1) noneSays.toArray) hb.size (fun j hj => by cases hj; omega))
        refine bodyPost_ret (results_rec3 rfl _ _ _ _ _ rfl k4 Try.underlying24 rfl sizeEdns) rfl ?_
        unfold FoundP
        rw [hgd]
        exact ⟨rfl, k5⟩
set_option maxRecDepth 100000 in
set_option maxHeartbeats 4000000 in
theorem refFind_none (w : World) (m : Mg) (A : Option Addr) (n c : Nat) (l : List Rc) (hr : Rd w 12 A n c (rcs l)) (hn : n ≤ 1048576) (h4 : ∀ (j : Nat) q, l[j]? = some q → isOpt q = false) :
    Calls Try.prog 15 #[m.val A n c] w (FindP w noneSays false 0) := by
  have hl := Rd.recs hr
  have hb0 := below_alloc (below_alloc (below_new w (.cells (m.cells A n c).toArray 46)) (.cells noneSays.toArray 24)) (.cells zeroCells.toArray 31)
  have hR0 := Blk.new (w.alloc (.cells (m.cells A n c).toArray 46)) 24 noneSays.toArray
  rw [World.size_alloc] at hR0
  have hR1 := hR0.alloc (.cells zeroCells.toArray 31)
  have hE1 := ((Blk.new w 46 (m.cells A n c).toArray).alloc (.cells noneSays.toArray 24)).alloc (.cells zeroCells.toArray 31)
  unfold Mg.val
  go_enter Try.func15, Try.ntmps15
  go_wp2
  go_loopw [5, 7] (fun u5 u7 wr => ∃ (k : Nat), k ≤ n ∧ u7 = .int .i64 k ∧ u5 = .int .i64 0 ∧ Blk wr (w.heap.size + 1) 24 noneSays ∧ Blk wr w.heap.size 46 (m.cells A n c) ∧ Below w.heap.size w wr) (fun _ u7 _ => n - (intOf u7).toNat)
  case atStart => exact ⟨0, Nat.zero_le _, rfl, rfl, hR1, hE1, hb0⟩
  case round =>
    clear hR1 hE1 hb0 hR0
    obtain ⟨k, hk, rfl, rfl, hR, hE, hb⟩ := hrel
    have d12 := hE.cell 12 _ rfl
    by_cases hlt : k < n
    · obtain ⟨q, hqk⟩ : ∃ q, l[k]? = some q := ⟨l[k], List.getElem?_eq_getElem (by omega)⟩
      cases A with
      | none => have := (hr.nil_ rfl).1; omega
      | some ad =>
      have hcs := Rd.rec (hr.below hb) k q hqk
      have d1 : wr.cell? ⟨(ad.add (k * 12)).block, (ad.add (k * 12)).off + 1, none⟩ = some (.int .u16 q.ty) := cells_at hcs 0 _ rfl
      have hio := h4 k q hqk
      have hty : ¬ q.ty = 41 := by unfold isOpt at hio; simpa using hio
      go_wp2
      go_roundw
      case rel => exact ⟨k + 1, by omega, by go_num, rfl, hR, hE, hb⟩
      case measure => simp [intOf]; omega
    · obtain rfl : k = n := by omega
      go_upto_region 10 with (fail)
      go_wp2_with (refine wpList_put rfl 24 (.tmp 2) _ rfl (w.heap.size + 1) noneSays.toArray rfl rfl 24 noneSays hR sizeEdns rfl rfl ?_; have k4 := hR.row noneSays.toArray; have k5 := hb.grown (grown_row wr (w.heap.size + 1) noneSays.toArray) hb.size (fun j hj => by cases hj; omega))
      refine bodyPost_ret (results_rec3 rfl _ _ _ _ _ rfl k4 Try.underlying24 rfl sizeEdns) rfl ?_
      exact ⟨rfl, k5⟩
/-- Both tell one and the same. -/
theorem finds_ (m : Mg) (A : Option Addr) (n c : Nat) (l : List Rc) (hn : n ≤ 1048576) (hok : ∀ r ∈ l, r.ok) (w0 : World) (hr : Rd w0 12 A n c (rcs l)) : ∃ (sz hi ve fl : Int) (s : ByteArray) (is : Bool) (er : Int),
    (∀ w, Rd w 12 A n c (rcs l) → Calls Try.prog 14 #[m.val A n c] w (FindP w (ednsCells sz hi ve fl s) is er)) ∧ ∀ w, Rd w 12 A n c (rcs l) → Calls Try.prog 15 #[m.val A n c] w (FindP w (ednsCells sz hi ve fl s) is er) := by
  rcases idx_cases l with ⟨h1, h2⟩ | ⟨i, r, h1, h2, h3, h4⟩
  · exact ⟨0, 0, 0, 0, ⟨#[]⟩, false, 0, fun w hw => find_none w m A n c l hw hn h1, fun w hw => refFind_none w m A n c l hw hn h2⟩
  · have hro := hok r (List.mem_of_getElem? h2)
    cases A with
    | none =>
      have := Rd.recs hr
      have := (hr.nil_ rfl).1
      have := (List.getElem?_eq_some_iff.1 h2).1
      omega
    | some ad =>
    have key : ∃ (sz hi ve fl : Int) (s : ByteArray), (if goodAt l i r then saysOf r else noneSays) = ednsCells sz hi ve fl s := by
      cases goodAt l i r
      · exact ⟨_, _, _, _, _, rfl⟩
      · exact ⟨_, _, _, _, _, rfl⟩
    obtain ⟨sz, hi, ve, fl, s, hk⟩ := key
    refine ⟨sz, hi, ve, fl, s, goodAt l i r, if goodAt l i r then 0 else 70, fun w hw => ?_, fun w hw => ?_⟩
    · rw [← hk]
      by_cases hci : c = i + 1
      · exact find_last w m ad n c l hw hn i r h1 h2 hro hci
      · exact find_some w m ad n c l hw hn i r h1 h2 hro hci
    · rw [← hk]
      exact refFind_some w m ad n c l hw hn i r h2 h3 h4 hro
end Go.Proofs.Ytdgdgioenfglnaa
