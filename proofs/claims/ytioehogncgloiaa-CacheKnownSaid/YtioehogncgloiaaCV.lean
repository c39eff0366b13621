/- The document's SameRecords and Same, of what is the same: contracts. -/
import Derived.Test.YtioehogncgloiaaCT
namespace Go.Proofs.Ytioehogncgloiaa
open Go.RowKit Go.HL Go.Maps
set_option linter.unusedVariables false
set_option linter.unusedSimpArgs false
set_option maxHeartbeats 2000000 in
theorem sameRecs_ (w : World) (l : List Rc) (A : Option Addr) (n c : Nat) (hr : Rd w 12 A n c (rcs l)) (B : Option Addr) (m d : Nat) (hs : Rd w 12 B m d (rcs l)) (hn5 : n ≤ 5000) :
    Calls Try.prog 39 #[.slice A n c, .slice B m d] w (Tells w (.bool true)) := by
  have hla := Rd.recs hr
  have hlb := Rd.recs hs
  obtain rfl : n = m := hla.symm.trans hlb
  clear hlb
  go_enter Try.func39, Try.ntmps39
  go_wp2
  go_loopw [5] (fun i wr => ∃ k : Nat, k ≤ n ∧ i = .int .i64 k ∧ Below w.heap.size w wr) (fun i _ => n - (intOf i).toNat)
  case atStart => exact ⟨0, Nat.zero_le _, rfl, Below.refl _ _⟩
  case round =>
    obtain ⟨k, hk, rfl, hb⟩ := hrel
    by_cases hlt : k < n
    · obtain ⟨x, hx⟩ : ∃ x, l[k]? = some x := ⟨l[k], List.getElem?_eq_getElem (by omega)⟩
      cases A with
      | none => have := (hr.nil_ rfl).1; omega
      | some aa =>
      cases B with
      | none => have := (hs.nil_ rfl).1; omega
      | some ab =>
      have c1 := Rd.rec (hr.below hb) k x hx
      have c2 := Rd.rec (hs.below hb) k x hx
      have hki : (k : Int) < (n : Int) := by omega
      go_wp2_with (fail)
      refine wp_region_quiet_lit (by kernel_rfl) (by kernel_rfl) ?_
      repeat go_big_quiet_step (fail)
      go_big_quiet_want
      refine quiet_getAt 46 (.tmp 19) rfl (aa.add (k * 12)) rfl x.cells _ c1 Try.underlying46 rfl sizeRec ?_
      go_simp
      go_big_quiet_on
      repeat go_big_quiet_step (fail)
      go_big_quiet_want
      refine quiet_getAt 46 (.tmp 23) rfl (ab.add (k * 12)) rfl x.cells _ c2 Try.underlying46 rfl sizeRec ?_
      go_simp
      go_big_quiet_on
      go_big_quiet_want
      refine quiet_bin .neq 46 46 (.tmp 20) (.tmp 24) rfl x.val x.val (.bool false) rfl rfl (fun W => by unfold Rc.val; exact run_eqGuard_agg W .neq 46 (.tmp 20) (.tmp 24) _ _ Try.eqGuardType46) (fun W => by rw [neqRec, Rc.eqB_self]; rfl) ?_
      go_simp
      go_big_quiet_on
      refine wpQuiet_nil ?_
      rintro _ ⟨nq, rfl⟩
      go_wp2
      go_roundw
      case rel => exact ⟨k + 1, by omega, by go_num, below_drewN hb nq⟩
      case measure => simp [intOf]; omega
    · obtain rfl : k = n := by omega
      go_wp2
      go_ret
      exact ⟨rfl, hb⟩
/-- A row of records to be read, of what is told. -/
structure RsW (W : World) (v : Value) (l : List Rc) : Prop where
  ex : ∃ A n c, v = .slice A n c ∧ Rd W 12 A n c (rcs l) ∧ n ≤ 5000
theorem RsW.below {W W' : World} {v : Value} {l : List Rc} (h : RsW W v l) (hb : Below W.heap.size W W') : RsW W' v l := by
  obtain ⟨A, n, c, h1, h2, h3⟩ := h.ex
  exact ⟨A, n, c, h1, h2.below hb, h3⟩
theorem RsW.same {W : World} {u v : Value} {l : List Rc} (h : RsW W u l) (k : RsW W v l) : Calls Try.prog 39 #[u, v] W (Tells W (.bool true)) := by
  obtain ⟨A, n, c, rfl, h2, h3⟩ := h.ex
  obtain ⟨B, m, d, rfl, k2, k3⟩ := k.ex
  exact sameRecs_ W l A n c h2 B m d k2 h3
set_option maxHeartbeats 2000000 in
theorem same_ (w : World) (rc : Int) (aa : Bool) (u1 u2 u3 v1 v2 v3 : Value) (l1 l2 l3 : List Rc) (hu1 : RsW w u1 l1) (hu2 : RsW w u2 l2) (hu3 : RsW w u3 l3) (hv1 : RsW w v1 l1) (hv2 : RsW w v2 l2) (hv3 : RsW w v3 l3) :
    Calls Try.prog 17 #[.agg #[.int .u16 rc, .bool aa, u1, u2, u3], .agg #[.int .u16 rc, .bool aa, v1, v2, v3]] w (Tells w (.bool true)) := by
  obtain ⟨A1, n1, c1, rfl, -, -⟩ := hu1.ex
  obtain ⟨A2, n2, c2, rfl, -, -⟩ := hu2.ex
  obtain ⟨A3, n3, c3, rfl, -, -⟩ := hu3.ex
  obtain ⟨B1, m1, d1, rfl, -, -⟩ := hv1.ex
  obtain ⟨B2, m2, d2, rfl, -, -⟩ := hv2.ex
  obtain ⟨B3, m3, d3, rfl, -, -⟩ := hv3.ex
  have b1 := below_new w (.cells #[.int .u16 rc, .bool aa, .slice A1 n1 c1, .slice A2 n2 c2, .slice A3 n3 c3] 28)
  have b2 := below_alloc b1 (.cells #[.int .u16 rc, .bool aa, .slice B1 m1 d1, .slice B2 m2 d2, .slice B3 m3 d3] 28)
  have hU := (Blk.new w 28 #[.int .u16 rc, .bool aa, .slice A1 n1 c1, .slice A2 n2 c2, .slice A3 n3 c3]).alloc (.cells #[.int .u16 rc, .bool aa, .slice B1 m1 d1, .slice B2 m2 d2, .slice B3 m3 d3] 28)
  have hV := Blk.new (w.alloc (.cells #[.int .u16 rc, .bool aa, .slice A1 n1 c1, .slice A2 n2 c2, .slice A3 n3 c3] 28)) 28 #[.int .u16 rc, .bool aa, .slice B1 m1 d1, .slice B2 m2 d2, .slice B3 m3 d3]
  rw [World.size_alloc] at hV
  obtain ⟨W0, hW0⟩ : ∃ x, (w.alloc (.cells #[.int .u16 rc, .bool aa, .slice A1 n1 c1, .slice A2 n2 c2, .slice A3 n3 c3] 28)).alloc (.cells #[.int .u16 rc, .bool aa, .slice B1 m1 d1, .slice B2 m2 d2, .slice B3 m3 d3] 28) = x := ⟨_, rfl⟩
  rw [hW0] at b2 hU hV
  have s1 := (hu1.below b2).same (hv1.below b2)
  have s2 := fun W (h : Below W0.heap.size W0 W) => ((hu2.below b2).below h).same ((hv2.below b2).below h)
  have s3 := fun W (h : Below W0.heap.size W0 W) => ((hu3.below b2).below h).same ((hv3.below b2).below h)
  have x0 := hU.cell 0 _ rfl
  have x1 := hU.cell 1 _ rfl
  have x2 := hU.cell 2 _ rfl
  have y0 := hV.cell 0 _ rfl
  have y1 := hV.cell 1 _ rfl
  have y2 := hV.cell 2 _ rfl
  clear hu1 hu2 hu3 hv1 hv2 hv3 b1
  go_enter Try.func17, Try.ntmps17
  go_wp2_with (first | (go_at_call 39; refine s1.mono ?_; clear s1; rintro e W1 ⟨rfl, hb1⟩; have x3 := (hU.below hb1).cell 3 _ rfl; have y3 := (hV.below hb1).cell 3 _ rfl) | (go_at_call 39; refine (s2 _ hb1).mono ?_; clear s2; rintro e W2 ⟨rfl, hb2⟩; have hb12 := below_trans hb1 hb2; have x4 := (hU.below hb12).cell 4 _ rfl; have y4 := (hV.below hb12).cell 4 _ rfl) | (go_at_call 39; refine (s3 _ hb12).mono ?_; clear s3; rintro e W3 ⟨rfl, hb3⟩))
  go_ret
  exact ⟨rfl, below_trans b2 (below_trans hb12 hb3)⟩
end Go.Proofs.Ytioehogncgloiaa
