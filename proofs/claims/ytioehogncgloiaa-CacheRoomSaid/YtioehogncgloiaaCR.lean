/- The law CacheRoom. -/
import Derived.Test.YtioehogncgloiaaCP
namespace Go.Proofs.Ytioehogncgloiaa
open Go.RowKit Go.HL Go.Maps Go.WideShapes
set_option linter.unusedVariables false
set_option linter.unusedSimpArgs false
theorem St.ok.low {W : World} {s : St} (h : s.ok W) : s.a.apart (fun k => W.heap.size ≤ k) := h.a.low
/-- While keys are read. -/
structure KeyW (w : World) (C bm : Nat) (nv : Int) (row : List Ce) (A : Option Addr) (m k : Nat) (W : World) : Prop where
  r : Rd W 3 A m k (qns (row.map fun c => c.e.key))
  c : CacheW W C bm nv row
  b : Below w.heap.size w W
theorem KeyW.drewN {w W : World} {C bm : Nat} {nv : Int} {row : List Ce} {A : Option Addr} {m k : Nat} (h : KeyW w C bm nv row A m k W) (q : Nat) : KeyW w C bm nv row A m k (W.drewN q) :=
  ⟨Rd.fr0 h.r ((Fr.refl (fun _ => False) W).drewN q) (fun _ _ _ h => h), h.c.fr ((Fr.refl (fun _ => False) W).drewN q) (fun _ _ h => h), below_drewN h.b q⟩
set_option maxRecDepth 8000 in
set_option maxHeartbeats 8000000 in
theorem cacheRoom_walk (w : World) (en : Int) (A : Option Addr) (n c : Nat) (L : List St) (e0 : -9223372036854775808 ≤ en) (e1 : en ≤ 9223372036854775807) (hS : Sts w A n c L) : Calls Try.prog 6 #[.int .i64 en, .slice A n c] w (Tells w (.bool true)) := by
  have hhv := heavy_ w A n c L hS
  have hhs : Calls Try.prog 15 #[.slice A n c] w fun e w' => (e = .returned (.bool true) ∧ Below w.heap.size w w') ∨ (e = .returned (.bool false) ∧ SmallS n L ∧ Below w.heap.size w w') := hhv.mono (by rintro e w' ⟨b, h, h', hb⟩; cases b; exact .inr ⟨h, h' rfl, hb⟩; exact .inl ⟨h, hb⟩)
  clear hhv
  go_enter Try.func6, Try.ntmps6
  go_upto_region 4 with (first | (go_at_call 15; refine hhs.mono ?_; clear hhs; rintro e W0 (⟨rfl, hb0⟩ | ⟨rfl, hsm, hb0⟩)))
  · go_wp2
    go_ret
    exact ⟨rfl, hb0⟩
  have hub : 0 ≤ IntKind.u64.wrap en ∧ IntKind.u64.wrap en < 18446744073709551616 := by simp [IntKind.wrap, IntKind.signed, IntKind.bits]; omega
  obtain ⟨u, hu⟩ : ∃ x, IntKind.u64.wrap en = x := ⟨_, rfl⟩
  rw [hu] at hub ⊢
  clear hu e0 e1
  have hm : u.tmod 5 = u % 5 := Int.tmod_eq_emod_of_nonneg hub.1
  rw [hm, IntWalk.wrap64_in (u % 5) (by omega), IntWalk.wrap64_in (1 + u % 5) (by omega)]
  obtain ⟨nv, hnv⟩ : ∃ x, 1 + u % 5 = x := ⟨_, rfl⟩
  have hnv1 : 1 ≤ nv := by omega
  have hnv2 : nv ≤ 5 := by omega
  rw [hnv]
  clear hnv hm hub
  have hnew := new_ W0 nv hnv1 (by omega)
  obtain ⟨bm, hbm⟩ : ∃ x, W0.heap.size = x := ⟨_, rfl⟩
  obtain ⟨C, hC⟩ : ∃ x, bm + 1 = x := ⟨_, rfl⟩
  have hwb : w.heap.size ≤ bm := by rw [← hbm]; exact hb0.size
  rw [hbm, hC] at hnew
  unfold ptr at hnew
  simp only [Option.map] at hnew
  go_upto_region 8 with (first | (go_at_call 9; refine hnew.mono ?_; clear hnew; rintro e W1 ⟨rfl, hc1, hb1⟩))
  have hB1 : Below w.heap.size w W1 := by rw [← hbm] at hb1; exact below_trans hb0 hb1
  have hlen := hS.len
  have hn150 := hsm.1
  go_loopw [8] (fun i wr => ∃ (k : Nat) (row : List Ce), k ≤ n ∧ i = .int .i64 k ∧ CacheW wr C bm nv row ∧ (row.length : Int) ≤ nv ∧ (∀ x, CH C bm row x → bm ≤ x) ∧ Below w.heap.size w wr) (fun i _ => n - (intOf i).toNat)
  case atStart => exact ⟨0, [], Nat.zero_le _, rfl, hc1, by simp; omega, (fun x hx => by
      rcases hx with (hx | hx | hx) | ⟨c, hc, _⟩
      · omega
      · omega
      · cases hx
      · cases hc), hB1⟩
  case round =>
    clear hc1 hb1 hB1
    obtain ⟨k, row, hk, rfl, hc, hrl, hlow, hb⟩ := hrel
    by_cases hlt : k < n
    · obtain ⟨s, hsk⟩ : ∃ s, L[k]? = some s := ⟨L[k], List.getElem?_eq_getElem (by omega)⟩
      have hsin := List.mem_of_getElem? hsk
      have hso := hS.ok s hsin
      have hss := hsm.2 s hsin
      cases A with
      | none => have := (hS.r.nil_ rfl).1; omega
      | some ad =>
      have hcs : Cells wr (ad.add (k * 10)) [.bool s.put, .string s.q.nm, .int .u16 s.q.ty, .int .u16 s.q.cl, .int .u16 s.a.rc, .bool s.a.aa, .slice s.a.an.a s.a.an.n s.a.an.c, .slice s.a.au.a s.a.au.n s.a.au.c, .slice s.a.ex.a s.a.ex.n s.a.ex.c, .int .i64 s.now] := (hS.below hb).at k s hsk
      have hki : (k : Int) < (n : Int) := by omega
      go_upto_region 12 with (first | (refine wpList_getAt rfl 51 (.tmp 40) rfl (ad.add (k * 10)) rfl [.bool s.put, .string s.q.nm, .int .u16 s.q.ty, .int .u16 s.q.cl, .int .u16 s.a.rc, .bool s.a.aa, .slice s.a.an.a s.a.an.n s.a.an.c, .slice s.a.au.a s.a.au.n s.a.au.c, .slice s.a.ex.a s.a.ex.n s.a.ex.c, .int .i64 s.now] _ hcs Try.underlying51 rfl sizeStep ?_))
      have hX2 := Blk.new wr 51 #[.bool s.put, .string s.q.nm, .int .u16 s.q.ty, .int .u16 s.q.cl, .int .u16 s.a.rc, .bool s.a.aa, .slice s.a.an.a s.a.an.n s.a.an.c, .slice s.a.au.a s.a.au.n s.a.au.c, .slice s.a.ex.a s.a.ex.n s.a.ex.c, .int .i64 s.now]
      have b1 := below_new wr (.cells #[.bool s.put, .string s.q.nm, .int .u16 s.q.ty, .int .u16 s.q.cl, .int .u16 s.a.rc, .bool s.a.aa, .slice s.a.an.a s.a.an.n s.a.an.c, .slice s.a.au.a s.a.au.n s.a.au.c, .slice s.a.ex.a s.a.ex.n s.a.ex.c, .int .i64 s.now] 51)
      have hz2 := World.size_alloc wr (.cells #[.bool s.put, .string s.q.nm, .int .u16 s.q.ty, .int .u16 s.q.cl, .int .u16 s.a.rc, .bool s.a.aa, .slice s.a.an.a s.a.an.n s.a.an.c, .slice s.a.au.a s.a.au.n s.a.au.c, .slice s.a.ex.a s.a.ex.n s.a.ex.c, .int .i64 s.now] 51)
      have hb2 : Below w.heap.size w (wr.alloc (.cells #[.bool s.put, .string s.q.nm, .int .u16 s.q.ty, .int .u16 s.q.cl, .int .u16 s.a.rc, .bool s.a.aa, .slice s.a.an.a s.a.an.n s.a.an.c, .slice s.a.au.a s.a.au.n s.a.au.c, .slice s.a.ex.a s.a.ex.n s.a.ex.c, .int .i64 s.now] 51)) := hb.alloc hb.size _
      have hc2 := hc.below b1
      have hsz := hb.size
      have hn2 : ¬ CH C bm row wr.heap.size := fun hx => by have := CH.lt hc _ hx; omega
      obtain ⟨W2, hW2⟩ : ∃ x, wr.alloc (.cells #[.bool s.put, .string s.q.nm, .int .u16 s.q.ty, .int .u16 s.q.cl, .int .u16 s.a.rc, .bool s.a.aa, .slice s.a.an.a s.a.an.n s.a.an.c, .slice s.a.au.a s.a.au.n s.a.au.c, .slice s.a.ex.a s.a.ex.n s.a.ex.c, .int .i64 s.now] 51) = x := ⟨_, rfl⟩
      rw [hW2] at hX2 hz2 hb2 hc2 ⊢
      obtain ⟨g9, hg9⟩ : ∃ x, wr.heap.size = x := ⟨_, rfl⟩
      rw [hg9] at hX2 hz2 hn2 hsz ⊢
      have hbmg : bm ≤ W2.heap.size := by have := CH.lt hc2 bm (.inl (.inr (.inl rfl))); omega
      clear b1 hcs hW2 hg9 hb hc
      obtain ⟨sp, sq, sa, sn⟩ := s
      dsimp only at hX2 ⊢
      have x0 := hX2.cell 0 _ rfl
      have x1 := hX2.cell 1 _ rfl
      have x2 := hX2.cell 2 _ rfl
      have x3 := hX2.cell 3 _ rfl
      have x4 := hX2.cell 4 _ rfl
      have x5 := hX2.cell 5 _ rfl
      have x6 := hX2.cell 6 _ rfl
      have x7 := hX2.cell 7 _ rfl
      have x8 := hX2.cell 8 _ rfl
      have x9 := hX2.cell 9 _ rfl
      cases sp
      · have hget := get_ W2 C bm nv row hc2 sq hso.q hss.2 sn
        have hgl := getV_len (l := row.map Ce.e) (q := sq) (now := sn)
        have hgs := fun e => getV_some (l := row.map Ce.e) (q := sq) (now := sn) (e := e)
        obtain ⟨GV, hGV⟩ : ∃ x, getV (row.map Ce.e) sq sn = x := ⟨_, rfl⟩
        rw [hGV] at hget hgl hgs
        clear hGV
        obtain ⟨GL, GO⟩ := GV
        rw [List.length_map] at hgl
        simp only at hget hgl hgs
        have Hgs := Lib.hid hgs
        clear hgs
        unfold ptr Qn.val at hget
        simp only [Option.map] at hget
        cases GO with
        | none =>
          go_upto_region 15 with (first | (go_at_call 11; refine hget.mono ?_; clear hget; rintro e W6 ⟨row6, he6, hl6, hh6, hgp⟩; obtain rfl : e = .returned (.tuple #[.agg #[.int .u16 0, .bool false, .slice none 0 0, .slice none 0 0, .slice none 0 0], .bool false]) := hgp))
          have hlen6 : (row6.length : Int) ≤ nv := by have := congrArg List.length he6; rw [List.length_map] at this; omega
          have hc6 := hl6.c
          have hn6 : ¬ CH C bm row6 g9 := hl6.out (by omega) hn2
          have hX6 := hX2.fr hl6.f (CS_CH hn2)
          have hlow6 : ∀ x, CH C bm row6 x → bm ≤ x := fun x hx => by
            rcases hl6.h x hx with h | h
            · exact hlow x h
            · omega
          have hb6 : Below w.heap.size w W6 := Fr.toBelow hb2 hl6.f (fun i _ hi => by have := hlow i (.inl hi); omega) hb2.size
          have hz6 := hl6.f.size
          clear x0 x1 x2 x3 x4 x5 x6 x7 x8 x9 hX2 hc2 hb2 hl6 he6 hlow hn2 hrl hso hsin hsk
          have hkeys := keys_ W6 C bm nv row6 hc6 (by omega)
          have hlenc := fun W h => len_ W C bm nv row6 h
          have hnk := hc6.nk
          have hklen : (row6.map fun c => c.e.key).length = row6.length := List.length_map _
          obtain ⟨m, hm⟩ : ∃ x, row6.length = x := ⟨_, rfl⟩
          rw [hm] at hkeys hlenc hlen6 hklen
          have hgt : ¬ nv < (m : Int) := by omega
          obtain ⟨ks, hks⟩ : ∃ x, (row6.map fun c => c.e.key) = x := ⟨_, rfl⟩
          have hkse := hks
          rw [hks] at hkeys hklen
          obtain ⟨g8, hg8⟩ : ∃ x, W6.heap.size = x := ⟨_, rfl⟩
          rw [hg8] at hkeys hz6
          have HZ6 := Lib.hid hz6
          have HK := Lib.hid (And.intro hkse (And.intro hnk hm))
          have HC6 := Lib.hid hc6
          clear hm hks hkse hnk hc6 hz6
          unfold ptr at hkeys hlenc
          simp only [Option.map] at hkeys hlenc
          go_upto_region 18 with (first | (go_at_call 24; refine hkeys.mono ?_; clear hkeys; rintro e W7 ⟨v7, rfl, ho7, hb7⟩; obtain ⟨A7, k7, rfl, r7⟩ := own_rd ho7; have hc7 := HC6.out.below (by rw [hg8]; exact hb7)) | (go_at_call 12; refine (hlenc _ hc7).mono ?_; clear hlenc; rintro e W8 ⟨rfl, rfl⟩))
          have hX8 := hX6.below (by rw [hg8]; exact hb7)
          have y1 := hX8.cell 1 _ rfl
          have hq20 : sq.nm.size ≤ 2000 := hss.2
          have hb8 : Below w.heap.size w W8 := below_trans hb6 (by rw [hg8]; exact hb7)
          clear hX6 hb6 hb7 r7
          go_upto_region 19 with (first | (go_at_call 16; refine (refFold_ _ _ (by omega)).mono ?_; rintro e W9 ⟨rfl, hb9⟩; have hX9 := hX8.below hb9; have f1 := hX9.free 1; have y9 := hX9.cell 1 _ rfl))
          have hXA := hX9.set 1 (.string (foldS sq.nm))
          have hFA := (Fr.refl (fun k => k = g9) W9).setCell g9 1 (.string (foldS sq.nm)) (.inl rfl)
          have hoA := own_fr (own_below ho7 hb9) hFA (fun i hi e => by have := own_base ho7 i hi; have := HZ6.out; omega)
          have hcA := (hc7.below hb9).fr hFA (fun i hi e => hn6 (by rw [← e]; exact hi))
          have hbA := below_setCell (below_trans hb8 hb9) ⟨g9, 1, none⟩ (.string (foldS sq.nm)) hsz
          obtain ⟨WA, hWA⟩ : ∃ x, W9.setCell ⟨g9, 1, none⟩ (.string (foldS sq.nm)) = x := ⟨_, rfl⟩
          rw [hWA] at hXA hoA hcA hbA ⊢
          obtain ⟨A7', k7', e7, rA⟩ := own_rd hoA
          cases e7
          have K : KeyW w C bm nv row6 A7 m k7 WA := ⟨by rw [HK.out.1]; exact rA, hcA, hbA⟩
          have z1 : WA.cell? ⟨g9, 1, none⟩ = some (.string (foldS sq.nm)) := hXA.cell 1 _ rfl
          have z2 : WA.cell? ⟨g9, 2, none⟩ = some (.int .u16 sq.ty) := hXA.cell 2 _ rfl
          have z3 : WA.cell? ⟨g9, 3, none⟩ = some (.int .u16 sq.cl) := hXA.cell 3 _ rfl
          clear y9 hX8 hX9 hXA hFA hoA hcA hbA hWA y1 f1 hc7 hb8 hb9 ho7
          go_quiet (fail)
          have K2 := K.drewN nq
          obtain ⟨WB, hWB⟩ : ∃ x, WA.drewN nq = x := ⟨_, rfl⟩
          rw [hWB] at K2 ⊢
          clear K hWB z1 z2 z3
          go_wp2
          go_loopw [12] (fun i wr => ∃ j : Nat, j ≤ m ∧ i = .int .i64 j ∧ KeyW w C bm nv row6 A7 m k7 wr) (fun i _ => m - (intOf i).toNat)
          case atStart => exact ⟨0, Nat.zero_le _, rfl, K2⟩
          case round =>
            clear K2
            obtain ⟨j, hj, rfl, K3⟩ := hrel
            by_cases hjm : j < m
            · have hji : (j : Int) < (m : Int) := by omega
              go_wp2
              go_loopw [13] (fun i wr => ∃ o : Nat, o ≤ j ∧ i = .int .i64 o ∧ KeyW w C bm nv row6 A7 m k7 wr) (fun i _ => j - (intOf i).toNat)
              case atStart => exact ⟨0, Nat.zero_le _, rfl, K3⟩
              case round =>
                clear K3
                obtain ⟨o, ho, rfl, K4⟩ := hrel
                by_cases hoj : o < j
                · have hoi : (o : Int) < (j : Int) := by omega
                  have hom : (o : Int) < (m : Int) := by omega
                  have hom' : o < m := by omega
                  obtain ⟨p, hp⟩ : ∃ p, ks[j]? = some p := ⟨ks[j], List.getElem?_eq_getElem (by omega)⟩
                  obtain ⟨q, hq⟩ : ∃ q, ks[o]? = some q := ⟨ks[o], List.getElem?_eq_getElem (by omega)⟩
                  have hdist : p.eqB q = false := kl_ne HK.out.2.1 (by rw [HK.out.1]; exact hp) (by rw [HK.out.1]; exact hq) hoj
                  cases A7 with
                  | none => have := (K4.r.nil_ rfl).1; omega
                  | some a7 =>
                  have hr7 := K4.r
                  rw [HK.out.1] at hr7
                  have cp := Rd.que hr7 j p hp
                  have cq := Rd.que hr7 o q hq
                  clear hr7
                  go_wp2_with (fail)
                  refine wp_region_quiet_lit (by kernel_rfl) (by kernel_rfl) ?_
                  repeat go_big_quiet_step (fail)
                  go_big_quiet_want
                  refine quiet_getAt 25 (.tmp 110) rfl (a7.add (j * 3)) rfl p.cells _ cp Try.underlying25 rfl sizeQue ?_
                  go_simp
                  go_big_quiet_on
                  repeat go_big_quiet_step (fail)
                  go_big_quiet_want
                  refine quiet_getAt 25 (.tmp 114) rfl (a7.add (o * 3)) rfl q.cells _ cq Try.underlying25 rfl sizeQue ?_
                  go_simp
                  go_big_quiet_on
                  go_big_quiet_want
                  refine quiet_bin .eql 25 25 (.tmp 111) (.tmp 115) rfl p.val q.val (.bool false) rfl rfl (fun W => by unfold Qn.val; exact run_eqGuard_agg W .eql 25 (.tmp 111) (.tmp 115) _ _ Try.eqGuardType25) (fun W => by rw [eqQ, hdist]) ?_
                  go_simp
                  go_big_quiet_on
                  refine wpQuiet_nil ?_
                  rintro _ ⟨nr, rfl⟩
                  have K5 := K4.drewN nr
                  go_wp2
                  go_roundw
                  case rel => exact ⟨o + 1, by omega, by go_num, K5⟩
                  case measure => simp [intOf]; omega
                · obtain rfl : o = j := by omega
                  go_wp2
                  go_roundw
                  case rel => exact ⟨o + 1, by omega, by go_num, K4⟩
                  case measure => simp [intOf]; omega
            · obtain rfl : j = m := by omega
              go_wp2
              go_roundw
              case rel => exact ⟨k + 1, row6, by omega, by go_num, K3.c, (by rw [HK.out.2.2]; exact hlen6), hlow6, K3.b⟩
              case measure => simp [intOf]; omega
        | some eg =>
          go_upto_region 15 with (first | (go_at_call 11; refine hget.mono ?_; clear hget; rintro e W6 ⟨row6, he6, hl6, hh6, v1, v2, v3, rfl, o1, o2, o3⟩))
          have hlen6 : (row6.length : Int) ≤ nv := by have := congrArg List.length he6; rw [List.length_map] at this; omega
          have hlast : ∃ r e, row6.map Ce.e = r ++ [e] ∧ e.key = foldQ sq := by
            obtain ⟨q1, q2, q3⟩ := Hgs.out eg rfl
            exact ⟨_, eg, he6.trans q1, q2⟩
          have hc6 := hl6.c
          have hn6 : ¬ CH C bm row6 g9 := hl6.out (by omega) hn2
          have hX6 := hX2.fr hl6.f (CS_CH hn2)
          have hlow6 : ∀ x, CH C bm row6 x → bm ≤ x := fun x hx => by
            rcases hl6.h x hx with h | h
            · exact hlow x h
            · omega
          have hb6 : Below w.heap.size w W6 := Fr.toBelow hb2 hl6.f (fun i _ hi => by have := hlow i (.inl hi); omega) hb2.size
          have hz6 := hl6.f.size
          clear x0 x1 x2 x3 x4 x5 x6 x7 x8 x9 hX2 hc2 hb2 hl6 he6 hlow hn2 hrl hso hsin hsk
          have hkeys := keys_ W6 C bm nv row6 hc6 (by omega)
          have hlenc := fun W h => len_ W C bm nv row6 h
          have hnk := hc6.nk
          have hklen : (row6.map fun c => c.e.key).length = row6.length := List.length_map _
          obtain ⟨m, hm⟩ : ∃ x, row6.length = x := ⟨_, rfl⟩
          rw [hm] at hkeys hlenc hlen6 hklen
          have hgt : ¬ nv < (m : Int) := by omega
          obtain ⟨ks, hks⟩ : ∃ x, (row6.map fun c => c.e.key) = x := ⟨_, rfl⟩
          have hkse := hks
          rw [hks] at hkeys hklen
          obtain ⟨g8, hg8⟩ : ∃ x, W6.heap.size = x := ⟨_, rfl⟩
          rw [hg8] at hkeys hz6
          have HZ6 := Lib.hid hz6
          have HK := Lib.hid (And.intro hkse (And.intro hnk hm))
          have HC6 := Lib.hid hc6
          clear hm hks hkse hnk hc6 hz6
          unfold ptr at hkeys hlenc
          simp only [Option.map] at hkeys hlenc
          go_upto_region 18 with (first | (go_at_call 24; refine hkeys.mono ?_; clear hkeys; rintro e W7 ⟨v7, rfl, ho7, hb7⟩; obtain ⟨A7, k7, rfl, r7⟩ := own_rd ho7; have hc7 := HC6.out.below (by rw [hg8]; exact hb7)) | (go_at_call 12; refine (hlenc _ hc7).mono ?_; clear hlenc; rintro e W8 ⟨rfl, rfl⟩))
          have hX8 := hX6.below (by rw [hg8]; exact hb7)
          have y1 := hX8.cell 1 _ rfl
          have hq20 : sq.nm.size ≤ 2000 := hss.2
          have hb8 : Below w.heap.size w W8 := below_trans hb6 (by rw [hg8]; exact hb7)
          clear hX6 hb6 hb7 r7
          go_upto_region 19 with (first | (go_at_call 16; refine (refFold_ _ _ (by omega)).mono ?_; rintro e W9 ⟨rfl, hb9⟩; have hX9 := hX8.below hb9; have f1 := hX9.free 1; have y9 := hX9.cell 1 _ rfl))
          have hXA := hX9.set 1 (.string (foldS sq.nm))
          have hFA := (Fr.refl (fun k => k = g9) W9).setCell g9 1 (.string (foldS sq.nm)) (.inl rfl)
          have hoA := own_fr (own_below ho7 hb9) hFA (fun i hi e => by have := own_base ho7 i hi; have := HZ6.out; omega)
          have hcA := (hc7.below hb9).fr hFA (fun i hi e => hn6 (by rw [← e]; exact hi))
          have hbA := below_setCell (below_trans hb8 hb9) ⟨g9, 1, none⟩ (.string (foldS sq.nm)) hsz
          obtain ⟨WA, hWA⟩ : ∃ x, W9.setCell ⟨g9, 1, none⟩ (.string (foldS sq.nm)) = x := ⟨_, rfl⟩
          rw [hWA] at hXA hoA hcA hbA ⊢
          obtain ⟨A7', k7', e7, rA⟩ := own_rd hoA
          cases e7
          have K : KeyW w C bm nv row6 A7 m k7 WA := ⟨by rw [HK.out.1]; exact rA, hcA, hbA⟩
          have z1 : WA.cell? ⟨g9, 1, none⟩ = some (.string (foldS sq.nm)) := hXA.cell 1 _ rfl
          have z2 : WA.cell? ⟨g9, 2, none⟩ = some (.int .u16 sq.ty) := hXA.cell 2 _ rfl
          have z3 : WA.cell? ⟨g9, 3, none⟩ = some (.int .u16 sq.cl) := hXA.cell 3 _ rfl
          clear y9 hX8 hX9 hXA hFA hoA hcA hbA hWA y1 f1 hc7 hb8 hb9 ho7
          obtain ⟨m1, hm1, hl1⟩ : ∃ m1, m = m1 + 1 ∧ ks[m1]? = some (foldQ sq) := by
            obtain ⟨r, e, q1, q2⟩ := hlast
            have q3 := congrArg List.length q1
            rw [List.length_map, HK.out.2.2, List.length_append, List.length_cons, List.length_nil] at q3
            refine ⟨r.length, q3, ?_⟩
            have q4 : ks = (row6.map Ce.e).map Ae.key := by rw [← HK.out.1, List.map_map]; rfl
            rw [q4, q1, List.map_append, List.getElem?_append_right (by rw [List.length_map]; exact Nat.le_refl _), List.length_map, Nat.sub_self]
            simp [q2]
          clear hlast
          have HM1 := Lib.hid hm1
          have hN1 : ((m : Int) == 0) = false := by simp; omega
          have hN0 : ¬ m = 0 := by omega
          have hN5 : ¬ (m : Int) = 0 := by omega
          have hN2 : (m : Int) - 1 = (m1 : Int) := by omega
          have hN3 : (m1 : Int) < (m : Int) := by omega
          have hN4 : m1 < m := by omega
          clear hm1
          cases A7 with
          | none => have := (K.r.nil_ rfl).1; omega
          | some a7 =>
          have hr7 := K.r
          rw [HK.out.1] at hr7
          have c7 := Rd.que hr7 m1 _ hl1
          clear hr7
          refine wp_region_quiet_lit (by kernel_rfl) (by kernel_rfl) ?_
          repeat go_big_quiet_step (fail)
          go_big_quiet_want
          refine quiet_getAt 25 (.tmp 90) rfl (a7.add (m1 * 3)) rfl (foldQ sq).cells _ c7 Try.underlying25 rfl sizeQue ?_
          go_simp
          go_big_quiet_on
          repeat go_big_quiet_step (fail)
          go_big_quiet_want
          refine quiet_bin .neq 25 25 (.tmp 91) (.tmp 93) rfl (foldQ sq).val (foldQ sq).val (.bool false) rfl rfl (fun W => by unfold Qn.val; exact run_eqGuard_agg W .neq 25 (.tmp 91) (.tmp 93) _ _ Try.eqGuardType25) (fun W => by rw [neqQ, (Qn.eqB_iff _ _).2 rfl]; rfl) ?_
          go_simp
          go_big_quiet_on
          repeat go_big_quiet_step (fail)
          refine wpQuiet_nil ?_
          rintro _ ⟨nq, rfl⟩
          have K2 := K.drewN nq
          obtain ⟨WB, hWB⟩ : ∃ x, WA.drewN nq = x := ⟨_, rfl⟩
          rw [hWB] at K2 ⊢
          clear K hWB z1 z2 z3
          go_wp2
          go_loopw [12] (fun i wr => ∃ j : Nat, j ≤ m ∧ i = .int .i64 j ∧ KeyW w C bm nv row6 (some a7) m k7 wr) (fun i _ => m - (intOf i).toNat)
          case atStart => exact ⟨0, Nat.zero_le _, rfl, K2⟩
          case round =>
            clear K2
            obtain ⟨j, hj, rfl, K3⟩ := hrel
            by_cases hjm : j < m
            · have hji : (j : Int) < (m : Int) := by omega
              go_wp2
              go_loopw [13] (fun i wr => ∃ o : Nat, o ≤ j ∧ i = .int .i64 o ∧ KeyW w C bm nv row6 (some a7) m k7 wr) (fun i _ => j - (intOf i).toNat)
              case atStart => exact ⟨0, Nat.zero_le _, rfl, K3⟩
              case round =>
                clear K3
                obtain ⟨o, ho, rfl, K4⟩ := hrel
                by_cases hoj : o < j
                · have hoi : (o : Int) < (j : Int) := by omega
                  have hom : (o : Int) < (m : Int) := by omega
                  have hom' : o < m := by omega
                  obtain ⟨p, hp⟩ : ∃ p, ks[j]? = some p := ⟨ks[j], List.getElem?_eq_getElem (by omega)⟩
                  obtain ⟨q, hq⟩ : ∃ q, ks[o]? = some q := ⟨ks[o], List.getElem?_eq_getElem (by omega)⟩
                  have hdist : p.eqB q = false := kl_ne HK.out.2.1 (by rw [HK.out.1]; exact hp) (by rw [HK.out.1]; exact hq) hoj
                  have hr7 := K4.r
                  rw [HK.out.1] at hr7
                  have cp := Rd.que hr7 j p hp
                  have cq := Rd.que hr7 o q hq
                  clear hr7
                  go_wp2_with (fail)
                  refine wp_region_quiet_lit (by kernel_rfl) (by kernel_rfl) ?_
                  repeat go_big_quiet_step (fail)
                  go_big_quiet_want
                  refine quiet_getAt 25 (.tmp 110) rfl (a7.add (j * 3)) rfl p.cells _ cp Try.underlying25 rfl sizeQue ?_
                  go_simp
                  go_big_quiet_on
                  repeat go_big_quiet_step (fail)
                  go_big_quiet_want
                  refine quiet_getAt 25 (.tmp 114) rfl (a7.add (o * 3)) rfl q.cells _ cq Try.underlying25 rfl sizeQue ?_
                  go_simp
                  go_big_quiet_on
                  go_big_quiet_want
                  refine quiet_bin .eql 25 25 (.tmp 111) (.tmp 115) rfl p.val q.val (.bool false) rfl rfl (fun W => by unfold Qn.val; exact run_eqGuard_agg W .eql 25 (.tmp 111) (.tmp 115) _ _ Try.eqGuardType25) (fun W => by rw [eqQ, hdist]) ?_
                  go_simp
                  go_big_quiet_on
                  refine wpQuiet_nil ?_
                  rintro _ ⟨nr, rfl⟩
                  have K5 := K4.drewN nr
                  go_wp2
                  go_roundw
                  case rel => exact ⟨o + 1, by omega, by go_num, K5⟩
                  case measure => simp [intOf]; omega
                · obtain rfl : o = j := by omega
                  go_wp2
                  go_roundw
                  case rel => exact ⟨o + 1, by omega, by go_num, K4⟩
                  case measure => simp [intOf]; omega
            · obtain rfl : j = m := by omega
              go_wp2
              go_roundw
              case rel => exact ⟨k + 1, row6, by omega, by go_num, K3.c, (by rw [HK.out.2.2]; exact hlen6), hlow6, K3.b⟩
              case measure => simp [intOf]; omega
      · have hput := put_ W2 C bm nv row hc2 hnv1 (by omega) hrl sq hso.q hss.2 sa (hso.a.below hb2) hss.1 (hso.low.mono (fun i hi => by have := hlow i (.inl hi); omega)) sn
        have hpl := putV_len (l := row.map Ce.e) (q := sq) (rc := sa.rc) (an := sa.an.l) (au := sa.au.l) (ex := sa.ex.l) (now := sn) hnv1 (by rw [List.length_map]; exact hrl)
        have hps := putV_last (l := row.map Ce.e) (q := sq) (rc := sa.rc) (an := sa.an.l) (au := sa.au.l) (ex := sa.ex.l) (now := sn) hnv1
        obtain ⟨PV, hPV⟩ : ∃ x, putV nv (row.map Ce.e) sq sa.rc sa.an.l sa.au.l sa.ex.l sn = x := ⟨_, rfl⟩
        rw [hPV] at hput hpl hps
        clear hPV
        obtain ⟨PL, D⟩ := PV
        simp only at hput hpl hps
        unfold ptr Qn.val Am.val at hput
        simp only [Option.map] at hput
        cases D
        · go_upto_region 15 with (first | (go_at_call 10; refine hput.mono ?_; clear hput; rintro e W6 ⟨row6, rfl, he6, hl6⟩))
          have hlen6 : (row6.length : Int) ≤ nv := by have := congrArg List.length he6; rw [List.length_map] at this; omega
          have hc6 := hl6.c
          have hn6 : ¬ CH C bm row6 g9 := hl6.out (by omega) hn2
          have hX6 := hX2.fr hl6.f (CS_CH hn2)
          have hlow6 : ∀ x, CH C bm row6 x → bm ≤ x := fun x hx => by
            rcases hl6.h x hx with h | h
            · exact hlow x h
            · omega
          have hb6 : Below w.heap.size w W6 := Fr.toBelow hb2 hl6.f (fun i _ hi => by have := hlow i (.inl hi); omega) hb2.size
          have hz6 := hl6.f.size
          clear x0 x1 x2 x3 x4 x5 x6 x7 x8 x9 hX2 hc2 hb2 hl6 he6 hlow hn2 hrl hso hsin hsk
          have hkeys := keys_ W6 C bm nv row6 hc6 (by omega)
          have hlenc := fun W h => len_ W C bm nv row6 h
          have hnk := hc6.nk
          have hklen : (row6.map fun c => c.e.key).length = row6.length := List.length_map _
          obtain ⟨m, hm⟩ : ∃ x, row6.length = x := ⟨_, rfl⟩
          rw [hm] at hkeys hlenc hlen6 hklen
          have hgt : ¬ nv < (m : Int) := by omega
          obtain ⟨ks, hks⟩ : ∃ x, (row6.map fun c => c.e.key) = x := ⟨_, rfl⟩
          have hkse := hks
          rw [hks] at hkeys hklen
          obtain ⟨g8, hg8⟩ : ∃ x, W6.heap.size = x := ⟨_, rfl⟩
          rw [hg8] at hkeys hz6
          have HZ6 := Lib.hid hz6
          have HK := Lib.hid (And.intro hkse (And.intro hnk hm))
          have HC6 := Lib.hid hc6
          clear hm hks hkse hnk hc6 hz6
          unfold ptr at hkeys hlenc
          simp only [Option.map] at hkeys hlenc
          go_upto_region 18 with (first | (go_at_call 24; refine hkeys.mono ?_; clear hkeys; rintro e W7 ⟨v7, rfl, ho7, hb7⟩; obtain ⟨A7, k7, rfl, r7⟩ := own_rd ho7; have hc7 := HC6.out.below (by rw [hg8]; exact hb7)) | (go_at_call 12; refine (hlenc _ hc7).mono ?_; clear hlenc; rintro e W8 ⟨rfl, rfl⟩))
          have hX8 := hX6.below (by rw [hg8]; exact hb7)
          have y1 := hX8.cell 1 _ rfl
          have hq20 : sq.nm.size ≤ 2000 := hss.2
          have hb8 : Below w.heap.size w W8 := below_trans hb6 (by rw [hg8]; exact hb7)
          clear hX6 hb6 hb7 r7
          go_upto_region 19 with (first | (go_at_call 16; refine (refFold_ _ _ (by omega)).mono ?_; rintro e W9 ⟨rfl, hb9⟩; have hX9 := hX8.below hb9; have f1 := hX9.free 1; have y9 := hX9.cell 1 _ rfl))
          have hXA := hX9.set 1 (.string (foldS sq.nm))
          have hFA := (Fr.refl (fun k => k = g9) W9).setCell g9 1 (.string (foldS sq.nm)) (.inl rfl)
          have hoA := own_fr (own_below ho7 hb9) hFA (fun i hi e => by have := own_base ho7 i hi; have := HZ6.out; omega)
          have hcA := (hc7.below hb9).fr hFA (fun i hi e => hn6 (by rw [← e]; exact hi))
          have hbA := below_setCell (below_trans hb8 hb9) ⟨g9, 1, none⟩ (.string (foldS sq.nm)) hsz
          obtain ⟨WA, hWA⟩ : ∃ x, W9.setCell ⟨g9, 1, none⟩ (.string (foldS sq.nm)) = x := ⟨_, rfl⟩
          rw [hWA] at hXA hoA hcA hbA ⊢
          obtain ⟨A7', k7', e7, rA⟩ := own_rd hoA
          cases e7
          have K : KeyW w C bm nv row6 A7 m k7 WA := ⟨by rw [HK.out.1]; exact rA, hcA, hbA⟩
          have z1 : WA.cell? ⟨g9, 1, none⟩ = some (.string (foldS sq.nm)) := hXA.cell 1 _ rfl
          have z2 : WA.cell? ⟨g9, 2, none⟩ = some (.int .u16 sq.ty) := hXA.cell 2 _ rfl
          have z3 : WA.cell? ⟨g9, 3, none⟩ = some (.int .u16 sq.cl) := hXA.cell 3 _ rfl
          clear y9 hX8 hX9 hXA hFA hoA hcA hbA hWA y1 f1 hc7 hb8 hb9 ho7
          go_quiet (fail)
          have K2 := K.drewN nq
          obtain ⟨WB, hWB⟩ : ∃ x, WA.drewN nq = x := ⟨_, rfl⟩
          rw [hWB] at K2 ⊢
          clear K hWB z1 z2 z3
          go_wp2
          go_loopw [12] (fun i wr => ∃ j : Nat, j ≤ m ∧ i = .int .i64 j ∧ KeyW w C bm nv row6 A7 m k7 wr) (fun i _ => m - (intOf i).toNat)
          case atStart => exact ⟨0, Nat.zero_le _, rfl, K2⟩
          case round =>
            clear K2
            obtain ⟨j, hj, rfl, K3⟩ := hrel
            by_cases hjm : j < m
            · have hji : (j : Int) < (m : Int) := by omega
              go_wp2
              go_loopw [13] (fun i wr => ∃ o : Nat, o ≤ j ∧ i = .int .i64 o ∧ KeyW w C bm nv row6 A7 m k7 wr) (fun i _ => j - (intOf i).toNat)
              case atStart => exact ⟨0, Nat.zero_le _, rfl, K3⟩
              case round =>
                clear K3
                obtain ⟨o, ho, rfl, K4⟩ := hrel
                by_cases hoj : o < j
                · have hoi : (o : Int) < (j : Int) := by omega
                  have hom : (o : Int) < (m : Int) := by omega
                  have hom' : o < m := by omega
                  obtain ⟨p, hp⟩ : ∃ p, ks[j]? = some p := ⟨ks[j], List.getElem?_eq_getElem (by omega)⟩
                  obtain ⟨q, hq⟩ : ∃ q, ks[o]? = some q := ⟨ks[o], List.getElem?_eq_getElem (by omega)⟩
                  have hdist : p.eqB q = false := kl_ne HK.out.2.1 (by rw [HK.out.1]; exact hp) (by rw [HK.out.1]; exact hq) hoj
                  cases A7 with
                  | none => have := (K4.r.nil_ rfl).1; omega
                  | some a7 =>
                  have hr7 := K4.r
                  rw [HK.out.1] at hr7
                  have cp := Rd.que hr7 j p hp
                  have cq := Rd.que hr7 o q hq
                  clear hr7
                  go_wp2_with (fail)
                  refine wp_region_quiet_lit (by kernel_rfl) (by kernel_rfl) ?_
                  repeat go_big_quiet_step (fail)
                  go_big_quiet_want
                  refine quiet_getAt 25 (.tmp 110) rfl (a7.add (j * 3)) rfl p.cells _ cp Try.underlying25 rfl sizeQue ?_
                  go_simp
                  go_big_quiet_on
                  repeat go_big_quiet_step (fail)
                  go_big_quiet_want
                  refine quiet_getAt 25 (.tmp 114) rfl (a7.add (o * 3)) rfl q.cells _ cq Try.underlying25 rfl sizeQue ?_
                  go_simp
                  go_big_quiet_on
                  go_big_quiet_want
                  refine quiet_bin .eql 25 25 (.tmp 111) (.tmp 115) rfl p.val q.val (.bool false) rfl rfl (fun W => by unfold Qn.val; exact run_eqGuard_agg W .eql 25 (.tmp 111) (.tmp 115) _ _ Try.eqGuardType25) (fun W => by rw [eqQ, hdist]) ?_
                  go_simp
                  go_big_quiet_on
                  refine wpQuiet_nil ?_
                  rintro _ ⟨nr, rfl⟩
                  have K5 := K4.drewN nr
                  go_wp2
                  go_roundw
                  case rel => exact ⟨o + 1, by omega, by go_num, K5⟩
                  case measure => simp [intOf]; omega
                · obtain rfl : o = j := by omega
                  go_wp2
                  go_roundw
                  case rel => exact ⟨o + 1, by omega, by go_num, K4⟩
                  case measure => simp [intOf]; omega
            · obtain rfl : j = m := by omega
              go_wp2
              go_roundw
              case rel => exact ⟨k + 1, row6, by omega, by go_num, K3.c, (by rw [HK.out.2.2]; exact hlen6), hlow6, K3.b⟩
              case measure => simp [intOf]; omega
        · have Hps := Lib.hid hps
          clear hps
          go_upto_region 15 with (first | (go_at_call 10; refine hput.mono ?_; clear hput; rintro e W6 ⟨row6, rfl, he6, hl6⟩))
          have hlen6 : (row6.length : Int) ≤ nv := by have := congrArg List.length he6; rw [List.length_map] at this; omega
          have hlast : ∃ r e, row6.map Ce.e = r ++ [e] ∧ e.key = foldQ sq := by
            obtain ⟨r, e, q1, q2⟩ := Hps.out trivial
            exact ⟨r, e, he6.trans q1, q2⟩
          have hc6 := hl6.c
          have hn6 : ¬ CH C bm row6 g9 := hl6.out (by omega) hn2
          have hX6 := hX2.fr hl6.f (CS_CH hn2)
          have hlow6 : ∀ x, CH C bm row6 x → bm ≤ x := fun x hx => by
            rcases hl6.h x hx with h | h
            · exact hlow x h
            · omega
          have hb6 : Below w.heap.size w W6 := Fr.toBelow hb2 hl6.f (fun i _ hi => by have := hlow i (.inl hi); omega) hb2.size
          have hz6 := hl6.f.size
          clear x0 x1 x2 x3 x4 x5 x6 x7 x8 x9 hX2 hc2 hb2 hl6 he6 hlow hn2 hrl hso hsin hsk
          have hkeys := keys_ W6 C bm nv row6 hc6 (by omega)
          have hlenc := fun W h => len_ W C bm nv row6 h
          have hnk := hc6.nk
          have hklen : (row6.map fun c => c.e.key).length = row6.length := List.length_map _
          obtain ⟨m, hm⟩ : ∃ x, row6.length = x := ⟨_, rfl⟩
          rw [hm] at hkeys hlenc hlen6 hklen
          have hgt : ¬ nv < (m : Int) := by omega
          obtain ⟨ks, hks⟩ : ∃ x, (row6.map fun c => c.e.key) = x := ⟨_, rfl⟩
          have hkse := hks
          rw [hks] at hkeys hklen
          obtain ⟨g8, hg8⟩ : ∃ x, W6.heap.size = x := ⟨_, rfl⟩
          rw [hg8] at hkeys hz6
          have HZ6 := Lib.hid hz6
          have HK := Lib.hid (And.intro hkse (And.intro hnk hm))
          have HC6 := Lib.hid hc6
          clear hm hks hkse hnk hc6 hz6
          unfold ptr at hkeys hlenc
          simp only [Option.map] at hkeys hlenc
          go_upto_region 18 with (first | (go_at_call 24; refine hkeys.mono ?_; clear hkeys; rintro e W7 ⟨v7, rfl, ho7, hb7⟩; obtain ⟨A7, k7, rfl, r7⟩ := own_rd ho7; have hc7 := HC6.out.below (by rw [hg8]; exact hb7)) | (go_at_call 12; refine (hlenc _ hc7).mono ?_; clear hlenc; rintro e W8 ⟨rfl, rfl⟩))
          have hX8 := hX6.below (by rw [hg8]; exact hb7)
          have y1 := hX8.cell 1 _ rfl
          have hq20 : sq.nm.size ≤ 2000 := hss.2
          have hb8 : Below w.heap.size w W8 := below_trans hb6 (by rw [hg8]; exact hb7)
          clear hX6 hb6 hb7 r7
          go_upto_region 19 with (first | (go_at_call 16; refine (refFold_ _ _ (by omega)).mono ?_; rintro e W9 ⟨rfl, hb9⟩; have hX9 := hX8.below hb9; have f1 := hX9.free 1; have y9 := hX9.cell 1 _ rfl))
          have hXA := hX9.set 1 (.string (foldS sq.nm))
          have hFA := (Fr.refl (fun k => k = g9) W9).setCell g9 1 (.string (foldS sq.nm)) (.inl rfl)
          have hoA := own_fr (own_below ho7 hb9) hFA (fun i hi e => by have := own_base ho7 i hi; have := HZ6.out; omega)
          have hcA := (hc7.below hb9).fr hFA (fun i hi e => hn6 (by rw [← e]; exact hi))
          have hbA := below_setCell (below_trans hb8 hb9) ⟨g9, 1, none⟩ (.string (foldS sq.nm)) hsz
          obtain ⟨WA, hWA⟩ : ∃ x, W9.setCell ⟨g9, 1, none⟩ (.string (foldS sq.nm)) = x := ⟨_, rfl⟩
          rw [hWA] at hXA hoA hcA hbA ⊢
          obtain ⟨A7', k7', e7, rA⟩ := own_rd hoA
          cases e7
          have K : KeyW w C bm nv row6 A7 m k7 WA := ⟨by rw [HK.out.1]; exact rA, hcA, hbA⟩
          have z1 : WA.cell? ⟨g9, 1, none⟩ = some (.string (foldS sq.nm)) := hXA.cell 1 _ rfl
          have z2 : WA.cell? ⟨g9, 2, none⟩ = some (.int .u16 sq.ty) := hXA.cell 2 _ rfl
          have z3 : WA.cell? ⟨g9, 3, none⟩ = some (.int .u16 sq.cl) := hXA.cell 3 _ rfl
          clear y9 hX8 hX9 hXA hFA hoA hcA hbA hWA y1 f1 hc7 hb8 hb9 ho7
          obtain ⟨m1, hm1, hl1⟩ : ∃ m1, m = m1 + 1 ∧ ks[m1]? = some (foldQ sq) := by
            obtain ⟨r, e, q1, q2⟩ := hlast
            have q3 := congrArg List.length q1
            rw [List.length_map, HK.out.2.2, List.length_append, List.length_cons, List.length_nil] at q3
            refine ⟨r.length, q3, ?_⟩
            have q4 : ks = (row6.map Ce.e).map Ae.key := by rw [← HK.out.1, List.map_map]; rfl
            rw [q4, q1, List.map_append, List.getElem?_append_right (by rw [List.length_map]; exact Nat.le_refl _), List.length_map, Nat.sub_self]
            simp [q2]
          clear hlast
          have HM1 := Lib.hid hm1
          have hN1 : ((m : Int) == 0) = false := by simp; omega
          have hN0 : ¬ m = 0 := by omega
          have hN5 : ¬ (m : Int) = 0 := by omega
          have hN2 : (m : Int) - 1 = (m1 : Int) := by omega
          have hN3 : (m1 : Int) < (m : Int) := by omega
          have hN4 : m1 < m := by omega
          clear hm1
          cases A7 with
          | none => have := (K.r.nil_ rfl).1; omega
          | some a7 =>
          have hr7 := K.r
          rw [HK.out.1] at hr7
          have c7 := Rd.que hr7 m1 _ hl1
          clear hr7
          refine wp_region_quiet_lit (by kernel_rfl) (by kernel_rfl) ?_
          repeat go_big_quiet_step (fail)
          go_big_quiet_want
          refine quiet_getAt 25 (.tmp 90) rfl (a7.add (m1 * 3)) rfl (foldQ sq).cells _ c7 Try.underlying25 rfl sizeQue ?_
          go_simp
          go_big_quiet_on
          repeat go_big_quiet_step (fail)
          go_big_quiet_want
          refine quiet_bin .neq 25 25 (.tmp 91) (.tmp 93) rfl (foldQ sq).val (foldQ sq).val (.bool false) rfl rfl (fun W => by unfold Qn.val; exact run_eqGuard_agg W .neq 25 (.tmp 91) (.tmp 93) _ _ Try.eqGuardType25) (fun W => by rw [neqQ, (Qn.eqB_iff _ _).2 rfl]; rfl) ?_
          go_simp
          go_big_quiet_on
          repeat go_big_quiet_step (fail)
          refine wpQuiet_nil ?_
          rintro _ ⟨nq, rfl⟩
          have K2 := K.drewN nq
          obtain ⟨WB, hWB⟩ : ∃ x, WA.drewN nq = x := ⟨_, rfl⟩
          rw [hWB] at K2 ⊢
          clear K hWB z1 z2 z3
          go_wp2
          go_loopw [12] (fun i wr => ∃ j : Nat, j ≤ m ∧ i = .int .i64 j ∧ KeyW w C bm nv row6 (some a7) m k7 wr) (fun i _ => m - (intOf i).toNat)
          case atStart => exact ⟨0, Nat.zero_le _, rfl, K2⟩
          case round =>
            clear K2
            obtain ⟨j, hj, rfl, K3⟩ := hrel
            by_cases hjm : j < m
            · have hji : (j : Int) < (m : Int) := by omega
              go_wp2
              go_loopw [13] (fun i wr => ∃ o : Nat, o ≤ j ∧ i = .int .i64 o ∧ KeyW w C bm nv row6 (some a7) m k7 wr) (fun i _ => j - (intOf i).toNat)
              case atStart => exact ⟨0, Nat.zero_le _, rfl, K3⟩
              case round =>
                clear K3
                obtain ⟨o, ho, rfl, K4⟩ := hrel
                by_cases hoj : o < j
                · have hoi : (o : Int) < (j : Int) := by omega
                  have hom : (o : Int) < (m : Int) := by omega
                  have hom' : o < m := by omega
                  obtain ⟨p, hp⟩ : ∃ p, ks[j]? = some p := ⟨ks[j], List.getElem?_eq_getElem (by omega)⟩
                  obtain ⟨q, hq⟩ : ∃ q, ks[o]? = some q := ⟨ks[o], List.getElem?_eq_getElem (by omega)⟩
                  have hdist : p.eqB q = false := kl_ne HK.out.2.1 (by rw [HK.out.1]; exact hp) (by rw [HK.out.1]; exact hq) hoj
                  have hr7 := K4.r
                  rw [HK.out.1] at hr7
                  have cp := Rd.que hr7 j p hp
                  have cq := Rd.que hr7 o q hq
                  clear hr7
                  go_wp2_with (fail)
                  refine wp_region_quiet_lit (by kernel_rfl) (by kernel_rfl) ?_
                  repeat go_big_quiet_step (fail)
                  go_big_quiet_want
                  refine quiet_getAt 25 (.tmp 110) rfl (a7.add (j * 3)) rfl p.cells _ cp Try.underlying25 rfl sizeQue ?_
                  go_simp
                  go_big_quiet_on
                  repeat go_big_quiet_step (fail)
                  go_big_quiet_want
                  refine quiet_getAt 25 (.tmp 114) rfl (a7.add (o * 3)) rfl q.cells _ cq Try.underlying25 rfl sizeQue ?_
                  go_simp
                  go_big_quiet_on
                  go_big_quiet_want
                  refine quiet_bin .eql 25 25 (.tmp 111) (.tmp 115) rfl p.val q.val (.bool false) rfl rfl (fun W => by unfold Qn.val; exact run_eqGuard_agg W .eql 25 (.tmp 111) (.tmp 115) _ _ Try.eqGuardType25) (fun W => by rw [eqQ, hdist]) ?_
                  go_simp
                  go_big_quiet_on
                  refine wpQuiet_nil ?_
                  rintro _ ⟨nr, rfl⟩
                  have K5 := K4.drewN nr
                  go_wp2
                  go_roundw
                  case rel => exact ⟨o + 1, by omega, by go_num, K5⟩
                  case measure => simp [intOf]; omega
                · obtain rfl : o = j := by omega
                  go_wp2
                  go_roundw
                  case rel => exact ⟨o + 1, by omega, by go_num, K4⟩
                  case measure => simp [intOf]; omega
            · obtain rfl : j = m := by omega
              go_wp2
              go_roundw
              case rel => exact ⟨k + 1, row6, by omega, by go_num, K3.c, (by rw [HK.out.2.2]; exact hlen6), hlow6, K3.b⟩
              case measure => simp [intOf]; omega
    · obtain rfl : k = n := by omega
      go_wp2_with (first | (go_at_call 13; refine (keeps_ _).mono ?_; rintro e W3 ⟨rfl, hb3⟩))
      go_ret
      exact ⟨rfl, below_trans hb hb3⟩
end Go.Proofs.Ytioehogncgloiaa
