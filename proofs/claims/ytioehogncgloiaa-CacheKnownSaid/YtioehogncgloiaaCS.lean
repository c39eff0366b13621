/- older: what was aged holds against what was put. -/
import Derived.Test.YtioehogncgloiaaCP
namespace Go.Proofs.Ytioehogncgloiaa
open Go.RowKit Go.HL Go.Maps Go.Sort
set_option linter.unusedVariables false
set_option linter.unusedSimpArgs false
theorem blk_cells {w : World} {g : Nat} {t : TypeId} {cs : List Value} (h : Blk w g t cs) : Cells w ⟨g, 0, none⟩ cs := fun j u hu => by
  rw [add_plain]
  exact h.cell j u hu
set_option maxRecDepth 8000 in
set_option maxHeartbeats 2000000 in
theorem older_ (w : World) (A : Option Addr) (n c : Nat) (la : List Rc) (hr : Rd w 12 A n c (rcs la)) (B : Option Addr) (m d : Nat) (lb : List Rc) (hs : Rd w 12 B m d (rcs lb)) (age : Int) (h0 : 0 ≤ age) (h1 : age < 4294967296)
    (he : la = lb.map (agedR age)) (hn5 : n ≤ 5000) (hok : ∀ r ∈ lb, r.ok ∧ r.nm.size ≤ 2000 ∧ age ≤ r.ttl) : Calls Try.prog 14 #[.slice A n c, .slice B m d, .int .u32 age] w (Tells w (.bool true)) := by
  have hla := Rd.recs hr
  have hlb := Rd.recs hs
  obtain rfl : n = m := by rw [← hla, ← hlb, he, List.length_map]
  have hL : lb.length = n := hlb
  clear hla hlb
  go_enter Try.func14, Try.ntmps14
  go_wp2
  go_loopw [7] (fun i wr => ∃ k : Nat, k ≤ n ∧ i = .int .i64 k ∧ Below w.heap.size w wr) (fun i _ => n - (intOf i).toNat)
  case atStart => exact ⟨0, Nat.zero_le _, rfl, Below.refl _ _⟩
  case round =>
    obtain ⟨k, hk, rfl, hb⟩ := hrel
    by_cases hlt : k < n
    · obtain ⟨x, hx⟩ : ∃ x, lb[k]? = some x := ⟨lb[k], List.getElem?_eq_getElem (by omega)⟩
      have hax : la[k]? = some (agedR age x) := by rw [he, List.getElem?_map, hx]; rfl
      obtain ⟨hxo, hxs, hxt⟩ := hok x (List.mem_of_getElem? hx)
      cases A with
      | none => have := (hr.nil_ rfl).1; omega
      | some aa =>
      cases B with
      | none => have := (hs.nil_ rfl).1; omega
      | some ab =>
      have hcb : Cells wr (ab.add (k * 12)) [.string x.nm, .int .u16 x.ty, .int .u16 x.cl, .int .u32 x.ttl, .string x.raw, .string x.host, .string x.mail, .int .u32 x.n0, .int .u32 x.n1, .int .u32 x.n2, .int .u32 x.n3, .int .u32 x.n4] := Rd.rec (hs.below hb) k x hx
      have hki : (k : Int) < (n : Int) := by omega
      go_upto_region 7 with (first | (refine wpList_getAt rfl 46 (.tmp 22) rfl (ab.add (k * 12)) rfl [.string x.nm, .int .u16 x.ty, .int .u16 x.cl, .int .u32 x.ttl, .string x.raw, .string x.host, .string x.mail, .int .u32 x.n0, .int .u32 x.n1, .int .u32 x.n2, .int .u32 x.n3, .int .u32 x.n4] _ hcb Try.underlying46 rfl sizeRec ?_))
      have hX1 := Blk.new wr 46 #[.string x.nm, .int .u16 x.ty, .int .u16 x.cl, .int .u32 x.ttl, .string x.raw, .string x.host, .string x.mail, .int .u32 x.n0, .int .u32 x.n1, .int .u32 x.n2, .int .u32 x.n3, .int .u32 x.n4]
      have hb1 := hb.alloc hb.size (.cells #[.string x.nm, .int .u16 x.ty, .int .u16 x.cl, .int .u32 x.ttl, .string x.raw, .string x.host, .string x.mail, .int .u32 x.n0, .int .u32 x.n1, .int .u32 x.n2, .int .u32 x.n3, .int .u32 x.n4] 46)
      have hsz := hb.size
      obtain ⟨W1, hW1⟩ : ∃ y, wr.alloc (.cells #[.string x.nm, .int .u16 x.ty, .int .u16 x.cl, .int .u32 x.ttl, .string x.raw, .string x.host, .string x.mail, .int .u32 x.n0, .int .u32 x.n1, .int .u32 x.n2, .int .u32 x.n3, .int .u32 x.n4] 46) = y := ⟨_, rfl⟩
      rw [hW1] at hX1 hb1 ⊢
      obtain ⟨g, hg⟩ : ∃ y, wr.heap.size = y := ⟨_, rfl⟩
      rw [hg] at hX1 hsz ⊢
      clear hcb hW1 hg hb
      have ca := Rd.rec (hr.below hb1) k _ hax
      have k0 := cell_regrown (hX1.cell 0 _ rfl)
      have k3 := cell_regrown (hX1.cell 3 _ rfl)
      have l0' : W1.cell? (aa.add (k * 12)) = some (.string (foldS x.nm)) := by have := ca 0 _ rfl; rwa [Addr.add_zero'] at this
      have l0 := cell_regrown l0'
      have l3 := cell_regrown (cells_at ca 2 (.int .u32 ((x.ttl - age) % 4294967296)) rfl)
      have cF : ∀ d os, Calls Try.prog 16 #[.string x.nm] (grow (redrawn W1 d) os) fun e w'' => e = .returned (.string (foldS x.nm)) ∧ ∃ p : Regrown, w'' = grow (redrawn W1 p.d) p.os := fun d os => Calls.regrown_of (refFold_ _ _ (by omega))
      have hnl : ¬ x.ttl < age := by omega
      have hw : ((x.ttl - age) % 4294967296 != IntKind.u32.wrap (x.ttl - age)) = false := by
        rw [show IntKind.u32.wrap (x.ttl - age) = (x.ttl - age) % 4294967296 by simp [IntKind.wrap, IntKind.signed, IntKind.bits]]
        simp
      refine wp_region_quiet_below (by kernel_rfl) (by kernel_rfl) ?_
      repeat (quiet_step (first | exact cF _ _))
      refine wpQuiet_nil ?_
      rintro _ ⟨⟨dq, osq⟩, rfl⟩
      have hb2 := below_regrown W1 dq osq
      obtain ⟨W2, hW2⟩ : ∃ y, grow (redrawn W1 dq) osq = y := ⟨_, rfl⟩
      rw [hW2] at hb2 ⊢
      have hX2 := hX1.below hb2
      have f3 := hX2.free 3
      have f0 := hX2.free 0
      have m0 := hX2.cell 0 _ rfl
      have m3 := hX2.cell 3 _ rfl
      have hb22 := below_trans hb1 hb2
      have ca2 := Rd.rec (hr.below hb22) k _ hax
      have o0 : W2.cell? (aa.add (k * 12)) = some (.string (foldS x.nm)) := by have := ca2 0 _ rfl; rwa [Addr.add_zero'] at this
      have o3 : W2.cell? ⟨(aa.add (k * 12)).block, (aa.add (k * 12)).off + 3, none⟩ = some (.int .u32 ((x.ttl - age) % 4294967296)) := cells_at ca2 2 _ rfl
      have hbl := below_setCell hb22 ⟨g, 3, none⟩ (.int .u32 ((x.ttl - age) % 4294967296)) hsz
      have ca3 := Rd.rec (hr.below hbl) k _ hax
      have p0 : (W2.setCell ⟨g, 3, none⟩ (.int .u32 ((x.ttl - age) % 4294967296))).cell? (aa.add (k * 12)) = some (.string (foldS x.nm)) := by have := ca3 0 _ rfl; rwa [Addr.add_zero'] at this
      have hX3 := hX2.set 3 (.int .u32 ((x.ttl - age) % 4294967296))
      have f0' := hX3.free 0
      have m0' := hX3.cell 0 _ rfl
      have hX4 := hX3.set 0 (.string (foldS x.nm))
      have hb4 := below_setCell hbl ⟨g, 0, none⟩ (.string (foldS x.nm)) hsz
      have HX := Lib.hid (And.intro hX4 hb4)
      clear k0 k3 l0 l3 cF l0' ca hb1 hX1 ca2 ca3 hX3 hX4 hb4 hbl hb22 hW2 hb2 hX2
      go_upto_region 11 with fail
      obtain ⟨W4, hW4⟩ : ∃ y, (W2.setCell ⟨g, 3, none⟩ (.int .u32 ((x.ttl - age) % 4294967296))).setCell ⟨g, 0, none⟩ (.string (foldS x.nm)) = y := ⟨_, rfl⟩
      obtain ⟨hX4, hb4⟩ := HX.out
      rw [hW4] at hX4 hb4 ⊢
      have c1 : Cells W4 (aa.add (k * 12)) (agedR age x).cells := Rd.rec (hr.below hb4) k _ hax
      have c2 : Cells W4 ⟨g, 0, none⟩ (agedR age x).cells := blk_cells hX4
      clear f0 f3 m0 m3 o0 o3 p0 f0' m0' hW4 hX4 HX
      refine wp_region_quiet_lit (by kernel_rfl) (by kernel_rfl) ?_
      repeat go_big_quiet_step (fail)
      go_big_quiet_want
      refine quiet_getAt 46 (.tmp 65) rfl (aa.add (k * 12)) rfl (agedR age x).cells _ c1 Try.underlying46 rfl sizeRec ?_
      go_simp
      go_big_quiet_on
      repeat go_big_quiet_step (fail)
      go_big_quiet_want
      refine quiet_getAt 46 (.tmp 8) rfl ⟨g, 0, none⟩ rfl (agedR age x).cells _ c2 Try.underlying46 rfl sizeRec ?_
      go_simp
      go_big_quiet_on
      go_big_quiet_want
      refine quiet_bin .neq 46 46 (.tmp 66) (.tmp 67) rfl (agedR age x).val (agedR age x).val (.bool false) rfl rfl (fun W => by unfold Rc.val; exact run_eqGuard_agg W .neq 46 (.tmp 66) (.tmp 67) _ _ Try.eqGuardType46) (fun W => by rw [neqRec, Rc.eqB_self]; rfl) ?_
      go_simp
      go_big_quiet_on
      refine wpQuiet_nil ?_
      rintro _ ⟨nq, rfl⟩
      go_wp2
      go_roundw
      case rel => exact ⟨k + 1, by omega, by go_num, below_drewN hb4 nq⟩
      case measure => simp [intOf]; omega
    · obtain rfl : k = n := by omega
      go_wp2
      go_ret
      exact ⟨rfl, hb⟩
end Go.Proofs.Ytioehogncgloiaa
