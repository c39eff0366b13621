/- The document's take: contract. -/
import Derived.Test.YtioehogncgloiaaPL2
namespace Go.Proofs.Ytioehogncgloiaa
open Go.RowKit Go.HL Go.Maps
set_option linter.unusedVariables false
set_option linter.unusedSimpArgs false
/-- What take leaves and tells. -/
def RTakeP (W : World) (M : Nat) (room : Int) (row : List Re) (q : Qn) (en : Ending) (W' : World) : Option Re → Prop
  | none => en = .returned (.tuple #[reZero, .bool false]) ∧ Below W.heap.size W W'
  | some e => en = .returned (.tuple #[e.val, .bool true]) ∧ ∃ v', Blk W' M 62 [v', .int .i64 room] ∧ W'.ownsRow W.heap.size 91 10 v' (rmR q row).length (res (rmR q row)) ∧ Fr (fun k => k = M) W W'
theorem findR_none {q : Qn} {row : List Re} (h : ∀ x ∈ row, x.key.eqB q = false) : findR q row = none := List.find?_eq_none.2 (fun x hx => by rw [h x hx]; decide)
theorem findR_at {q : Qn} {row : List Re} {k : Nat} {e : Re} (he : row[k]? = some e) (h : ∀ x ∈ row.take k, x.key.eqB q = false) (hq : e.key.eqB q = true) : findR q row = some e ∧ rmR q row = row.take k ++ row.drop (k + 1) := by
  have hs : row = row.take k ++ e :: row.drop (k + 1) := by
    obtain ⟨hl, rfl⟩ := List.getElem?_eq_some_iff.1 he
    rw [List.getElem_cons_drop, List.take_append_drop]
  unfold findR rmR
  refine ⟨?_, ?_⟩
  · rw [hs]; exact find_mid _ _ _ _ h hq
  · conv => lhs; rw [hs]
    exact eraseP_mid _ _ _ _ h hq
set_option maxRecDepth 8000 in
set_option maxHeartbeats 4000000 in
theorem rtake_ (W : World) (M : Nat) (v : Value) (room : Int) (row : List Re) (h : RefW W M v room row) (hlen : row.length ≤ 5000) (q : Qn) :
    Calls Try.prog 44 #[ptr (some M), q.val] W (fun en W' => RTakeP W M room row q en W' (findR q row)) := by
  obtain ⟨A, c, rfl, hr⟩ := h.rd
  obtain ⟨n, hn⟩ : ∃ n, row.length = n := ⟨_, rfl⟩
  rw [hn] at hr h
  have hne := h.ne
  have HN := Lib.hid h.hd.lt
  have b1 := below_new W (.cells #[.string q.nm, .int .u16 q.ty, .int .u16 q.cl] 25)
  have b2 := below_alloc b1 (.cells #[.string ⟨#[]⟩, .int .u16 0, .int .u16 0, .int .u16 0, .bool false, .slice none 0 0, .slice none 0 0, .slice none 0 0, .int .i64 0, .int .i64 0] 91)
  have hQ := (Blk.new W 25 #[.string q.nm, .int .u16 q.ty, .int .u16 q.cl]).alloc (.cells #[.string ⟨#[]⟩, .int .u16 0, .int .u16 0, .int .u16 0, .bool false, .slice none 0 0, .slice none 0 0, .slice none 0 0, .int .i64 0, .int .i64 0] 91)
  have hE := Blk.new (W.alloc (.cells #[.string q.nm, .int .u16 q.ty, .int .u16 q.cl] 25)) 91 #[.string ⟨#[]⟩, .int .u16 0, .int .u16 0, .int .u16 0, .bool false, .slice none 0 0, .slice none 0 0, .slice none 0 0, .int .i64 0, .int .i64 0]
  rw [World.size_alloc] at hE
  have hz : ((W.alloc (.cells #[.string q.nm, .int .u16 q.ty, .int .u16 q.cl] 25)).alloc (.cells #[.string ⟨#[]⟩, .int .u16 0, .int .u16 0, .int .u16 0, .bool false, .slice none 0 0, .slice none 0 0, .slice none 0 0, .int .i64 0, .int .i64 0] 91)).heap.size = W.heap.size + 2 := by rw [World.size_alloc, World.size_alloc]
  obtain ⟨W0, hW0⟩ : ∃ x, (W.alloc (.cells #[.string q.nm, .int .u16 q.ty, .int .u16 q.cl] 25)).alloc (.cells #[.string ⟨#[]⟩, .int .u16 0, .int .u16 0, .int .u16 0, .bool false, .slice none 0 0, .slice none 0 0, .slice none 0 0, .int .i64 0, .int .i64 0] 91) = x := ⟨_, rfl⟩
  obtain ⟨g, hg⟩ : ∃ x, W.heap.size = x := ⟨_, rfl⟩
  rw [hW0] at b2 hQ hE hz
  rw [hg] at hQ hE hz
  have HD := Lib.hid (h.hd.below b2)
  have c0 : W0.cell? ⟨M, 0, none⟩ = some (.slice A n c) := HD.out.cell 0 _ rfl
  have HQ := Lib.hid hQ
  have HE := Lib.hid hE
  have HG := Lib.hid (And.intro hg hz)
  have hr0 := hr.below b2
  obtain ⟨O, hO⟩ : ∃ O, findR q row = O := ⟨_, rfl⟩
  rw [hO]
  clear h b1 hQ hE hr
  unfold ptr Qn.val
  simp only [Option.map]
  go_enter Try.func44, Try.ntmps44
  go_wp2
  clear hW0
  go_loopw [6] (fun i wr => ∃ k : Nat, k ≤ n ∧ i = .int .i64 k ∧ (∀ x ∈ row.take k, x.key.eqB q = false) ∧ Below W0.heap.size W0 wr) (fun i _ => n - (intOf i).toNat)
  case atStart => exact ⟨0, Nat.zero_le _, rfl, fun x hx => (by cases hx), Below.refl _ _⟩
  case round =>
    clear c0
    obtain ⟨k, hk, rfl, hno, hb⟩ := hrel
    have hB := HD.out.below hb
    have c0 : wr.cell? ⟨M, 0, none⟩ = some (.slice A n c) := hB.cell 0 _ rfl
    by_cases hlt : k < n
    · obtain ⟨e, hek⟩ : ∃ e, row[k]? = some e := ⟨row[k], List.getElem?_eq_getElem (by omega)⟩
      cases A with
      | none => have := (hr0.nil_ rfl).1; omega
      | some ad =>
      have hcs : Cells wr (ad.add (k * 10)) [.string e.key.nm, .int .u16 e.key.ty, .int .u16 e.key.cl, .int .u16 e.am.rc, .bool e.am.aa, .slice e.am.an.a e.am.an.n e.am.an.c, .slice e.am.au.a e.am.au.n e.am.au.c, .slice e.am.ex.a e.am.ex.n e.am.ex.c, .int .i64 e.put, .int .i64 e.life] := Rd.ent (hr0.below hb) k e hek
      have ck : Cells wr (ad.add (k * 10)) e.key.cells := hcs.take 3
      have q0 := (HQ.out.below hb).cell 0 _ rfl
      have q1 := (HQ.out.below hb).cell 1 _ rfl
      have q2 := (HQ.out.below hb).cell 2 _ rfl
      have hki : (k : Int) < (n : Int) := by omega
      have HCS := Lib.hid hcs
      clear hcs
      go_upto_region 4 with fail
      refine wp_region_quiet_lit (by kernel_rfl) (by kernel_rfl) ?_
      repeat go_big_quiet_step (fail)
      go_big_quiet_want
      refine quiet_getAt 25 (.tmp 24) rfl (ad.add (k * 10)) rfl e.key.cells _ ck Try.underlying25 rfl sizeQue ?_
      go_simp
      go_big_quiet_on
      repeat go_big_quiet_step (fail)
      go_big_quiet_want
      refine quiet_bin .eql 25 25 (.tmp 25) (.tmp 26) rfl e.key.val q.val (.bool (e.key.eqB q)) rfl rfl (fun W => by unfold Qn.val; exact run_eqGuard_agg W .eql 25 (.tmp 25) (.tmp 26) _ _ Try.eqGuardType25) (fun W => by rw [eqQ]) ?_
      go_simp
      go_big_quiet_on
      refine wpQuiet_nil ?_
      rintro _ ⟨nq, rfl⟩
      have hb9 := below_drewN hb nq
      obtain ⟨W9, hW9⟩ : ∃ x, wr.drewN nq = x := ⟨_, rfl⟩
      have hc9 : Cells W9 (ad.add (k * 10)) [.string e.key.nm, .int .u16 e.key.ty, .int .u16 e.key.cl, .int .u16 e.am.rc, .bool e.am.aa, .slice e.am.an.a e.am.an.n e.am.an.c, .slice e.am.au.a e.am.au.n e.am.au.c, .slice e.am.ex.a e.am.ex.n e.am.ex.c, .int .i64 e.put, .int .i64 e.life] := by rw [← hW9]; exact HCS.out.drewN nq
      rw [hW9] at hb9 ⊢
      clear hW9 q0 q1 q2 c0 hB ck HCS hb
      cases hqe : e.key.eqB q
      · go_wp2
        go_roundw
        case rel =>
          refine ⟨k + 1, by omega, by go_num, fun x hx => ?_, hb9⟩
          rw [take_snoc hek] at hx
          rcases List.mem_append.1 hx with hx | hx
          · exact hno x hx
          · obtain rfl : x = e := by simpa using hx
            exact hqe
        case measure => simp [intOf]; omega
      · obtain ⟨hf, hrm⟩ := findR_at hek hno hqe
        obtain rfl : O = some e := hO.symm.trans hf
        have HRM := Lib.hid hrm
        clear hf hrm hqe hno
        have c9 : W9.cell? ⟨M, 0, none⟩ = some (.slice (some ad) n c) := (HD.out.below hb9).cell 0 _ rfl
        have hc : n ≤ c := hr0.le
        have hkc : (k : Int) ≤ (c : Int) := by omega
        go_upto_region 6 with (first | (refine wpList_getAt rfl 91 (.tmp 33) rfl (ad.add (k * 10)) rfl [.string e.key.nm, .int .u16 e.key.ty, .int .u16 e.key.cl, .int .u16 e.am.rc, .bool e.am.aa, .slice e.am.an.a e.am.an.n e.am.an.c, .slice e.am.au.a e.am.au.n e.am.au.c, .slice e.am.ex.a e.am.ex.n e.am.ex.c, .int .i64 e.put, .int .i64 e.life] _ hc9 Try.underlying91 rfl sizeEnt ?_))
        have hz9 := hb9.size
        have hX := Blk.new W9 91 #[.string e.key.nm, .int .u16 e.key.ty, .int .u16 e.key.cl, .int .u16 e.am.rc, .bool e.am.aa, .slice e.am.an.a e.am.an.n e.am.an.c, .slice e.am.au.a e.am.au.n e.am.au.c, .slice e.am.ex.a e.am.ex.n e.am.ex.c, .int .i64 e.put, .int .i64 e.life]
        have bA := hb9.alloc hz9 (.cells #[.string e.key.nm, .int .u16 e.key.ty, .int .u16 e.key.cl, .int .u16 e.am.rc, .bool e.am.aa, .slice e.am.an.a e.am.an.n e.am.an.c, .slice e.am.au.a e.am.au.n e.am.au.c, .slice e.am.ex.a e.am.ex.n e.am.ex.c, .int .i64 e.put, .int .i64 e.life] 91)
        have hbase : W.heap.size ≤ W9.heap.size := by have := HG.out; omega
        obtain ⟨gx, hgx⟩ : ∃ x, W9.heap.size = x := ⟨_, rfl⟩
        have hgx2 : g + 2 ≤ gx := by have := HG.out; omega
        have hzA := World.size_alloc W9 (.cells #[.string e.key.nm, .int .u16 e.key.ty, .int .u16 e.key.cl, .int .u16 e.am.rc, .bool e.am.aa, .slice e.am.an.a e.am.an.n e.am.an.c, .slice e.am.au.a e.am.au.n e.am.au.c, .slice e.am.ex.a e.am.ex.n e.am.ex.c, .int .i64 e.put, .int .i64 e.life] 91)
        obtain ⟨WA, hWA⟩ : ∃ x, W9.alloc (.cells #[.string e.key.nm, .int .u16 e.key.ty, .int .u16 e.key.cl, .int .u16 e.am.rc, .bool e.am.aa, .slice e.am.an.a e.am.an.n e.am.an.c, .slice e.am.au.a e.am.au.n e.am.au.c, .slice e.am.ex.a e.am.ex.n e.am.ex.c, .int .i64 e.put, .int .i64 e.life] 91) = x := ⟨_, rfl⟩
        rw [hWA] at hX bA hzA ⊢
        rw [hgx] at hX hbase hzA ⊢
        have cA : WA.cell? ⟨M, 0, none⟩ = some (.slice (some ad) n c) := (HD.out.below bA).cell 0 _ rfl
        have hrA := hr0.below bA
        have p1 := hrA.pre k hk
        rw [res_take] at p1
        have hA2 := HG.out
        have HX := Lib.hid hX
        have HBA := Lib.hid bA
        obtain ⟨g1, hg1⟩ : ∃ x, WA.heap.size = x := ⟨_, rfl⟩
        have hlk : (row.take k).length = k := by rw [List.length_take]; omega
        have hld : (row.drop (k + 1)).length = n - (k + 1) := by rw [List.length_drop]; omega
        have hk5 : k ≤ 5000 := by omega
        have hn5 : n ≤ 5000 := by omega
        clear c9 hc9 hb9 hz9 hWA hX bA
        go_upto_region 8 with (first | (at_builtin; refine wpList_app (w0 := WA) WA g1 rfl (.tmp 35) (.tmp 41) 60 60 91 reZero 10 120 rfl Try.underlying60 infoEnt rfl (by omega) (by omega) (.slice none 0 0) 0 [] rfl (.own (World.ownsRow_nil _ _ _ _)) _ k (res (row.take k)) rfl (.slice p1 (res_one _)) (Below.refl _ _) (by omega) (by omega) ?_; intro v1 w2 _ ho2 hb2 hgr2; replace ho2 := ho2 (.inr (World.ownsRow_nil _ _ _ _))))
        have hbA2 : Below WA.heap.size WA w2 := (Below.refl _ WA).grown hgr2 (by omega) (fun k hk => by cases hk)
        have hbW2 := HBA.out.trans (hbA2.mono HBA.out.size)
        have c2 : w2.cell? ⟨M, 0, none⟩ = some (.slice (some ad) n c) := (HD.out.below hbW2).cell 0 _ rfl
        have hr2 := hr0.below hbW2
        have p2 := hr2.cutS (k + 1) (n - (k + 1)) c (by omega) (by omega) (Nat.le_refl _)
        rw [res_drop, show (res (row.drop (k + 1))).take ((n - (k + 1)) * 10) = res (row.drop (k + 1)) by rw [List.take_of_length_le]; rw [res_len, hld]; exact Nat.le_refl _] at p2
        have hkn : (k : Int) + 1 ≤ (n : Int) := by omega
        have hz2 := hb2.size
        have hz22 : g1 ≤ w2.heap.size := by omega
        rw [Nat.zero_add, List.nil_append] at ho2
        clear cA p1 hb2 hgr2
        go_upto_region 9 with (first | (refine wpList_cutL rfl 60 91 (.tmp 48) (.tmp 50) rfl Try.underlying60 sizeEnt (some ad) n c rfl rfl (k + 1) (by omega) (by omega) ?_) | (at_builtin; refine wpList_app (w0 := WA) w2 g1 rfl (.tmp 44) (.tmp 51) 60 60 91 reZero 10 120 rfl Try.underlying60 infoEnt rfl (by omega) (by omega) v1 k _ rfl (.own ho2) _ (n - (k + 1)) (res (row.drop (k + 1))) rfl (.slice p2 (res_one _)) (by rw [← hg1]; exact hbA2) hz22 (by omega) ?_; intro v3 w4 _ ho4 hb4 hgr4; replace ho4 := ho4 (.inr ho2); have hB4 := ((HD.out.below hbW2).grown hgr4 (fun e => by have := own_base ho2 _ e.symm; have := HN.out; omega)); have f4 := hB4.free 0; have c4 := hB4.cell 0 _ rfl; obtain ⟨A4, k4, rfl, -⟩ := own_rd ho4))
        have hB5 := hB4.set 0 (.slice A4 (k + (n - (k + 1))) k4)
        have hsB : ∀ i, (Value.slice A4 (k + (n - (k + 1))) k4).ownBlock = some i → ¬ i = M := fun i hi e => by have := own_base ho4 i hi; have := HN.out; have := HG.out; omega
        have ho5 := own_fr ho4 ((Fr.refl (fun k => k = M) w4).setCell M 0 (.slice A4 (k + (n - (k + 1))) k4) (.inl rfl)) hsB
        have hX5 := (((HX.out.below hbA2).grown hgr4 (fun e => by have := own_base ho2 _ e.symm; omega))).set_other (g' := M) 0 (.slice A4 (k + (n - (k + 1))) k4) (by have := HN.out; have := HG.out; omega)
        have hE5 := (((HE.out.below hbW2).grown hgr4 (fun e => by have := own_base ho2 _ e.symm; omega))).set_other (g' := M) 0 (.slice A4 (k + (n - (k + 1))) k4) (by have := HN.out; have := HG.out; omega)
        have hFW : Fr (fun k => k = M) W w4 := (Fr.of_below (b2.trans (hbW2.mono (by have := HG.out; omega)))).trans ((Fr.refl (fun i => i = M ∨ W.heap.size ≤ i) w2).grown hgr4 (fun i hi => .inl (.inr (by have := own_base ho2 i hi; have := HG.out; omega))))
        have hF5 := hFW.setCell M 0 (.slice A4 (k + (n - (k + 1))) k4) (.inl rfl)
        obtain ⟨W5, hW5⟩ : ∃ x, w4.setCell ⟨M, 0, none⟩ (.slice A4 (k + (n - (k + 1))) k4) = x := ⟨_, rfl⟩
        rw [hW5] at hB5 ho5 hX5 hE5 hF5 ⊢
        have HR := Lib.hid (And.intro hB5 (And.intro ho5 hF5))
        clear hB4 f4 c4 ho4 hgr4 hFW hW5 c2 hr2 p2 ho2 hsB
        go_wp2_with (first | (refine wpList_get rfl 91 (.tmp 7) rfl gx rfl 91 [.string e.key.nm, .int .u16 e.key.ty, .int .u16 e.key.cl, .int .u16 e.am.rc, .bool e.am.aa, .slice e.am.an.a e.am.an.n e.am.an.c, .slice e.am.au.a e.am.au.n e.am.au.c, .slice e.am.ex.a e.am.ex.n e.am.ex.c, .int .i64 e.put, .int .i64 e.life] _ hX5 Try.underlying91 rfl sizeEnt ?_) | (refine wpList_put rfl 91 (.tmp 4) (.tmp 55) rfl (g + 1) #[.string e.key.nm, .int .u16 e.key.ty, .int .u16 e.key.cl, .int .u16 e.am.rc, .bool e.am.aa, .slice e.am.an.a e.am.an.n e.am.an.c, .slice e.am.au.a e.am.au.n e.am.au.c, .slice e.am.ex.a e.am.ex.n e.am.ex.c, .int .i64 e.put, .int .i64 e.life] rfl rfl 91 _ hE5 sizeEnt rfl rfl ?_))
        refine bodyPost_ret (results_rec rfl _ _ _ _ _ rfl (hE5.row #[.string e.key.nm, .int .u16 e.key.ty, .int .u16 e.key.cl, .int .u16 e.am.rc, .bool e.am.aa, .slice e.am.an.a e.am.an.n e.am.an.c, .slice e.am.au.a e.am.au.n e.am.au.c, .slice e.am.ex.a e.am.ex.n e.am.ex.c, .int .i64 e.put, .int .i64 e.life]) Try.underlying91 rfl sizeEnt) rfl ?_
        obtain ⟨hB6, ho6, hF6⟩ := HR.out
        have hfr := (Fr.refl (fun i => i = g + 1) W5).setRow (g + 1) #[.string e.key.nm, .int .u16 e.key.ty, .int .u16 e.key.cl, .int .u16 e.am.rc, .bool e.am.aa, .slice e.am.an.a e.am.an.n e.am.an.c, .slice e.am.au.a e.am.au.n e.am.au.c, .slice e.am.ex.a e.am.ex.n e.am.ex.c, .int .i64 e.put, .int .i64 e.life] (.inl rfl)
        have hmr : (rmR q row).length = k + (n - (k + 1)) := by rw [HRM.out, List.length_append, hlk, hld]
        refine ⟨rfl, _, hB6.fr hfr (by have := HN.out; have := HG.out; omega), ?_, hF6.setRow (g + 1) _ (.inr (by have := HG.out; omega))⟩
        rw [hmr, HRM.out, res_append]
        exact own_lower (own_fr ho6 hfr (fun i hi e => by have := own_base ho6 i hi; omega)) (by have := HG.out; omega)
    · obtain rfl : k = n := by omega
      rw [List.take_of_length_le (by omega)] at hno
      obtain rfl : O = none := hO.symm.trans (findR_none hno)
      have HB := Lib.hid hb
      clear hno hb
      go_wp2_with (first | (refine wpList_put rfl 91 (.tmp 4) (.tmp 56) rfl (g + 1) #[.string ⟨#[]⟩, .int .u16 0, .int .u16 0, .int .u16 0, .bool false, .slice none 0 0, .slice none 0 0, .slice none 0 0, .int .i64 0, .int .i64 0] rfl rfl 91 _ (HE.out.below HB.out) sizeEnt rfl rfl ?_))
      refine bodyPost_ret (results_rec rfl _ _ _ _ _ rfl ((HE.out.below HB.out).row _) Try.underlying91 rfl sizeEnt) rfl ?_
      have := HB.out.size
      have := HG.out
      exact ⟨rfl, (below_trans b2 HB.out).grown (grown_row _ _ _) (by omega) (fun k hk => by cases hk; omega)⟩
end Go.Proofs.Ytioehogncgloiaa
