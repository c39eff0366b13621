/- The law CacheDecays. -/
import Derived.Test.YtioehogncgloiaaCT
namespace Go.Proofs.Ytioehogncgloiaa
open Go.RowKit Go.HL Go.Maps
set_option linter.unusedVariables false
set_option linter.unusedSimpArgs false
/-- While an answer that was got is held against what was put. -/
structure DW (g4 g : Nat) (a : Am) (rc : Int) (v1 v2 v3 : Value) (B m1 m2 m3 : Nat) (ag : Int) (W : World) : Prop where
  A : Blk W (g4 + 1) 28 [.int .u16 a.rc, .bool a.aa, .slice a.an.a a.an.n a.an.c, .slice a.au.a a.au.n a.au.c, .slice a.ex.a a.ex.n a.ex.c]
  b : Blk W g 28 [.int .u16 rc, .bool false, v1, v2, v3]
  ok : a.ok W
  o1 : W.ownsRow B 46 12 v1 m1 (rcs (a.an.l.map (agedR ag)))
  o2 : W.ownsRow B 46 12 v2 m2 (rcs (a.au.l.map (agedR ag)))
  o3 : W.ownsRow B 46 12 v3 m3 (rcs (a.ex.l.map (agedR ag)))
theorem DW.below {g4 g : Nat} {a : Am} {rc : Int} {v1 v2 v3 : Value} {B m1 m2 m3 : Nat} {ag : Int} {W W' : World} (h : DW g4 g a rc v1 v2 v3 B m1 m2 m3 ag W) (hb : Below W.heap.size W W') : DW g4 g a rc v1 v2 v3 B m1 m2 m3 ag W' :=
  ⟨h.A.below hb, h.b.below hb, h.ok.below hb, own_below h.o1 hb, own_below h.o2 hb, own_below h.o3 hb⟩
theorem own_old {W : World} {B m : Nat} {A : Option Addr} {k : Nat} {s : Sl} {ag : Int} (ho : W.ownsRow B 46 12 (.slice A m k) m (rcs (s.l.map (agedR ag)))) (hs : s.ok W) (hm : s.n ≤ 30) (hz : ∀ r ∈ s.l, r.nm.size ≤ 2000) (h0 : 0 ≤ ag) (h1 : ag < 4294967296) (hle : ∀ r ∈ s.l, ag ≤ r.ttl) :
    Calls Try.prog 14 #[.slice A m k, .slice s.a s.n s.c, .int .u32 ag] W (Tells W (.bool true)) := by
  obtain ⟨A', k', e, r⟩ := own_rd ho
  cases e
  have h3 := Rd.recs r
  have h4 := Rd.recs hs.r
  rw [List.length_map] at h3
  exact older_ W A m k _ r s.a s.n s.c s.l hs.r ag h0 h1 rfl (by omega) (fun r hr => ⟨hs.ok r hr, hz r hr, hle r hr⟩)
set_option maxRecDepth 8000 in
set_option maxHeartbeats 8000000 in
theorem cacheDecays_walk (w : World) (q : Qn) (a : Am) (at0 : Int) (A : Option Addr) (n c : Nat) (l : List Int) (hq : q.ok) (ha : a.ok w) (b0 : -9223372036854775808 ≤ at0) (b1 : at0 ≤ 9223372036854775807) (hl : Rd w 1 A n c (l.map (Value.int .u32))) (hw : ∀ x ∈ l, (Lit.int .u32 x).wf = true) (hy : c * 4 ≤ 140737488351232) :
    Calls Try.prog 3 #[q.val, a.val, .int .i64 at0, .slice A n c] w (Tells w (.bool true)) := by
  have hlen : l.length = n := by have := hl.len; simpa using this
  have hB1 := below_new w (.cells #[.string q.nm, .int .u16 q.ty, .int .u16 q.cl] 25)
  have hB2 := below_alloc hB1 (.cells #[.int .u16 a.rc, .bool a.aa, .slice a.an.a a.an.n a.an.c, .slice a.au.a a.au.n a.au.c, .slice a.ex.a a.ex.n a.ex.c] 28)
  have hQ0 := (Blk.new w 25 #[.string q.nm, .int .u16 q.ty, .int .u16 q.cl]).alloc (.cells #[.int .u16 a.rc, .bool a.aa, .slice a.an.a a.an.n a.an.c, .slice a.au.a a.au.n a.au.c, .slice a.ex.a a.ex.n a.ex.c] 28)
  have hA0 := Blk.new (w.alloc (.cells #[.string q.nm, .int .u16 q.ty, .int .u16 q.cl] 25)) 28 #[.int .u16 a.rc, .bool a.aa, .slice a.an.a a.an.n a.an.c, .slice a.au.a a.au.n a.au.c, .slice a.ex.a a.ex.n a.ex.c]
  rw [World.size_alloc] at hA0
  have hz : ((w.alloc (.cells #[.string q.nm, .int .u16 q.ty, .int .u16 q.cl] 25)).alloc (.cells #[.int .u16 a.rc, .bool a.aa, .slice a.an.a a.an.n a.an.c, .slice a.au.a a.au.n a.au.c, .slice a.ex.a a.ex.n a.ex.c] 28)).heap.size = w.heap.size + 2 := by rw [World.size_alloc, World.size_alloc]
  obtain ⟨W0, hW0⟩ : ∃ x, (w.alloc (.cells #[.string q.nm, .int .u16 q.ty, .int .u16 q.cl] 25)).alloc (.cells #[.int .u16 a.rc, .bool a.aa, .slice a.an.a a.an.n a.an.c, .slice a.au.a a.au.n a.au.c, .slice a.ex.a a.ex.n a.ex.c] 28) = x := ⟨_, rfl⟩
  rw [hW0] at hB2 hQ0 hA0 hz
  have ha0 := ha.below hB2
  have hlg := large_ W0 a ha0
  have hls : Calls Try.prog 8 #[a.val] W0 fun e w' => (e = .returned (.bool true) ∧ Below W0.heap.size W0 w') ∨ (e = .returned (.bool false) ∧ a.small ∧ Below W0.heap.size W0 w') := hlg.mono (by rintro e w' ⟨b, h, h', hb⟩; cases b; exact .inr ⟨h, h' rfl, hb⟩; exact .inl ⟨h, hb⟩)
  clear hlg hB1
  unfold Am.val at hls
  unfold Qn.val Am.val
  have j0 := hA0.cell 0 _ rfl
  have j1 := hA0.cell 1 _ rfl
  have j2 := hA0.cell 2 _ rfl
  have j3 := hA0.cell 3 _ rfl
  have j4 := hA0.cell 4 _ rfl
  obtain ⟨g4, hg4⟩ : ∃ x, w.heap.size = x := ⟨_, rfl⟩
  go_enter Try.func3, Try.ntmps3
  go_upto_region 1 with fail
  rw [hg4] at hQ0 hA0 hz j0 j1 j2 j3 j4
  clear hW0
  by_cases hbig : 2000 < q.nm.size
  · have d1 : (2000 : Int) < (q.nm.size : Int) := by omega
    go_wp2_with (first | (go_at_call 8; refine hls.mono ?_; clear hls; rintro e W2 (⟨rfl, hb2⟩ | ⟨rfl, hsm, hb2⟩) <;> have n0 := (hQ0.below hb2).cell 0 _ rfl))
    all_goals go_ret
    all_goals exact ⟨rfl, below_trans hB2 hb2⟩
  have d1 : ¬ (2000 : Int) < (q.nm.size : Int) := by omega
  by_cases hbig2 : 40 < n
  · have d2 : (40 : Int) < (n : Int) := by omega
    go_wp2_with (first | (go_at_call 8; refine hls.mono ?_; clear hls; rintro e W2 (⟨rfl, hb2⟩ | ⟨rfl, hsm, hb2⟩) <;> have n0 := (hQ0.below hb2).cell 0 _ rfl))
    all_goals go_ret
    all_goals exact ⟨rfl, below_trans hB2 hb2⟩
  have d2 : ¬ (40 : Int) < (n : Int) := by omega
  go_upto_region 4 with (first | (go_at_call 8; refine hls.mono ?_; clear hls; rintro e W2 (⟨rfl, hb2⟩ | ⟨rfl, hsm, hb2⟩) <;> have n0 := (hQ0.below hb2).cell 0 _ rfl))
  · go_wp2
    go_ret
    exact ⟨rfl, below_trans hB2 hb2⟩
  have hn40 : n ≤ 40 := by omega
  have hq20 : q.nm.size ≤ 2000 := by omega
  have hmk := mask_bd at0 1099511627775 (by omega)
  obtain ⟨at', hat⟩ : ∃ x, bits .and .i64 at0 1099511627775 = x := ⟨_, rfl⟩
  have ha2 := ha0.below hb2
  have hQ2 := hQ0.below hb2
  have hA2 := hA0.below hb2
  have hBw2 := below_trans hB2 hb2
  have hz2 := hb2.size
  have hnew := new_ W2 3 (by omega) (by omega)
  rw [show ((1099511627775 : Nat) : Int) = 1099511627775 from rfl, hat] at hmk
  rw [hat]
  clear hat b0 b1 j0 j1 j2 j3 j4 n0
  obtain ⟨bm, hbm⟩ : ∃ x, W2.heap.size = x := ⟨_, rfl⟩
  obtain ⟨C, hC⟩ : ∃ x, bm + 1 = x := ⟨_, rfl⟩
  rw [hbm, hC] at hnew
  have hgb : g4 + 2 ≤ bm := by omega
  unfold ptr at hnew
  simp only [Option.map] at hnew
  go_upto_region 7 with (first | (go_at_call 9; refine hnew.mono ?_; clear hnew; rintro e W3 ⟨rfl, hc3, hb3⟩))
  have hbm3 : bm ≤ W3.heap.size := by have := hb3.size; omega
  have hb23 : Below bm W2 W3 := hb3
  rw [← hbm] at hb3
  have hQ3 := hQ2.below hb3
  have hA3 := hA2.below hb3
  have ha3 := ha2.below hb3
  have q0 := hQ3.cell 0 _ rfl
  have q1 := hQ3.cell 1 _ rfl
  have q2 := hQ3.cell 2 _ rfl
  have j0 := hA3.cell 0 _ rfl
  have j1 := hA3.cell 1 _ rfl
  have j2 := hA3.cell 2 _ rfl
  have j3 := hA3.cell 3 _ rfl
  have j4 := hA3.cell 4 _ rfl
  have hCS0 : ∀ i, CS C bm [] i → bm ≤ i := fun i hi => by
    rcases hi with hi | hi | hi
    · omega
    · omega
    · cases hi
  have hput := put_ W3 C bm 3 [] hc3 (by omega) (by omega) (by simp) q hq hq20 a ha3 hsm (ha.low.mono (fun i hi => by have := hCS0 i hi; omega)) at'
  rw [List.map_nil] at hput
  have hgb' : Hid (g4 + 2 ≤ bm) := Lib.hid hgb
  rcases put_one q a.rc a.an.l a.au.l a.ex.l at' hmk.1 (by omega) 3 (by omega) with hp | ⟨hp, hlife⟩
  · rw [hp] at hput
    simp only at hput
    unfold ptr Qn.val Am.val at hput
    simp only [Option.map] at hput
    go_upto_region 8 with (first | (go_at_call 10; refine hput.mono ?_; clear hput; rintro e W4 ⟨row4, rfl, he4, hl4⟩; obtain rfl := no_row he4))
    have hc4 := hl4.c
    have hQ4 := hQ3.fr hl4.f (fun hx => by have := hCS0 _ hx; omega)
    have hb24 := Fr.toBelow hb23 hl4.f (fun i _ hi => hCS0 i hi) hbm3
    have hz4 := hl4.f.size
    have q04 := hQ4.cell 0 _ rfl
    have q14 := hQ4.cell 1 _ rfl
    have q24 := hQ4.cell 2 _ rfl
    have hget := get_ W4 C bm 3 [] hc4 q hq hq20 at'
    rw [List.map_nil, get_nil] at hget
    unfold ptr Qn.val at hget
    simp only [Option.map] at hget
    clear q0 q1 q2 j0 j1 j2 j3 j4
    go_upto_region 9 with (first | (go_at_call 11; refine hget.mono ?_; clear hget; rintro e W5 ⟨row5, he5, hl5, hh5, hgp⟩; obtain rfl := no_row he5; obtain rfl : e = .returned (.tuple #[.agg #[.int .u16 0, .bool false, .slice none 0 0, .slice none 0 0, .slice none 0 0], .bool false]) := hgp))
    have hb25 := Fr.toBelow hb24 hl5.f (fun i _ hi => hCS0 i hi) (by omega)
    have hz5 := hl5.f.size
    have hb26 := hb25.alloc (by omega) (.cells #[.int .u16 0, .bool false, .slice none 0 0, .slice none 0 0, .slice none 0 0] 28)
    have hc6 := hl5.c.below (below_new W5 (.cells #[.int .u16 0, .bool false, .slice none 0 0, .slice none 0 0, .slice none 0 0] 28))
    obtain ⟨W6, hW6⟩ : ∃ x, W5.alloc (.cells #[.int .u16 0, .bool false, .slice none 0 0, .slice none 0 0, .slice none 0 0] 28) = x := ⟨_, rfl⟩
    rw [hW6] at hb26 hc6 ⊢
    have hlc := len_ W6 C bm 3 [] hc6
    unfold ptr at hlc
    simp only [Option.map] at hlc
    have HB := Lib.hid (below_trans hBw2 (by rw [hbm]; exact hb26))
    clear q04 q14 q24 hb25 hb26 hb24 hz4 hz5 hW6
    go_wp2_with (first | (go_at_call 12; refine hlc.mono ?_; clear hlc; rintro e W7 ⟨rfl, rfl⟩) | (go_at_call 13; refine (keeps_ _).mono ?_; rintro e W8 ⟨rfl, hb8⟩))
    go_ret
    exact ⟨rfl, below_trans HB.out hb8⟩
  · rw [hp] at hput
    simp only at hput
    have hlr := life_rc hlife
    have hLb := life_bd a.rc a.an.l a.au.l a.ex.l ha3.an.ok ha3.au.ok ha3.ex.ok
    unfold ptr Qn.val Am.val at hput
    simp only [Option.map] at hput
    go_upto_region 10 with (first | (go_at_call 10; refine hput.mono ?_; clear hput; rintro e W4 ⟨row4, rfl, he4, hl4⟩))
    have hc4 := hl4.c
    have hQ4 := hQ3.fr hl4.f (fun hx => by have := hCS0 _ hx; omega)
    have hA4 := hA3.fr hl4.f (fun hx => by have := hCS0 _ hx; omega)
    have hb24 := Fr.toBelow hb23 hl4.f (fun i _ hi => hCS0 i hi) hbm3
    have hlow4 : ∀ x, CH C bm row4 x → bm ≤ x := fun x hx => by
      rcases hl4.h x hx with (h | h) | h
      · exact hCS0 x h
      · rcases h with ⟨c, hc, _⟩; cases hc
      · omega
    have hz4 := hl4.f.size
    clear q0 q1 q2 j0 j1 j2 j3 j4 hQ3 hA3 ha3 hl4 hQ0 hA0 ha0
    have j0 := hA4.cell 0 _ rfl
    have j2 := hA4.cell 2 _ rfl
    go_upto_region 14 with fail
    · have h0 : a.rc = 0 := by assumption
      obtain ⟨ng, hng⟩ : ∃ x, ((a.an.n : Int) == 0) = x := ⟨_, rfl⟩
      rw [hng]
      cases ng
      · obtain ⟨eA, heA⟩ : ∃ x, newAe q a.rc a.an.l a.au.l a.ex.l at' = x := ⟨_, rfl⟩
        have ek : eA.key = foldQ q := by rw [← heA]; rfl
        have er : eA.rc = 0 := by rw [← heA]; exact h0
        have en1 : eA.an = a.an.l := by rw [← heA]; rfl
        have eu1 : eA.au = a.au.l := by rw [← heA]; rfl
        have ex1 : eA.ex = a.ex.l := by rw [← heA]; rfl
        have ep : eA.put = at' := by rw [← heA]; rfl
        have el : eA.life = lifeV a.rc a.an.l a.au.l a.ex.l := by rw [← heA]; rfl
        have hle : ∀ r ∈ a.an.l ++ a.au.l ++ a.ex.l, lifeV a.rc a.an.l a.au.l a.ex.l ≤ r.ttl := fun r hr => by
          have h1 := life_le hlife hr
          have hro : r.ok := by
            simp only [List.mem_append] at hr
            rcases hr with (hr | hr) | hr
            · exact ha.an.ok r hr
            · exact ha.au.ok r hr
            · exact ha.ex.ok r hr
          have h2 := cnt_le hro.ttl.1
          omega
        obtain ⟨Lf, hLf⟩ : ∃ x, lifeV a.rc a.an.l a.au.l a.ex.l = x := ⟨_, rfl⟩
        rw [hLf] at el hle hLb
        rw [heA] at he4
        have HE := Lib.hid (And.intro ek (And.intro er (And.intro en1 (And.intro eu1 (And.intro ex1 (And.intro ep (And.intro el hle)))))))
        clear heA hp hlife hLf ek er en1 eu1 ex1 ep el hle j0 j2 hlr
        have hgetone := fun (now : Int) h0 h1 => get_one (q := q) (e := eA) HE.out.1 now h0 h1
        rw [HE.out.2.2.2.2.2.1, HE.out.2.2.2.2.2.2.1] at hgetone
        have HG := Lib.hid hgetone
        clear hgetone
        go_wp2
        go_loopw [14, 15, 16] (fun gn nw i wr => ∃ (k : Nat) (row : List Ce) (gone : Bool) (now : Int), k ≤ n ∧ gn = .bool gone ∧ nw = .int .i64 now ∧ i = .int .i64 k ∧ at' ≤ now ∧ now ≤ at' + k * 4294967296 ∧ CacheW wr C bm 3 row ∧ row.map Ce.e = (if gone then [] else [eA]) ∧ (∀ x, CH C bm row x → bm ≤ x) ∧ Below bm W2 wr) (fun _ _ i _ => n - (intOf i).toNat)
        case atStart => exact ⟨0, row4, false, at', Nat.zero_le _, rfl, rfl, rfl, by omega, by omega, hc4, he4, hlow4, hb24⟩
        case round =>
          clear hc4 he4 hlow4 hb24 hQ4 hA4
          obtain ⟨k, row, gone, now, hk, rfl, rfl, rfl, hn1, hn2, hc, he, hlow, hb⟩ := hrel
          have hbx : Below W2.heap.size W2 wr := by rw [hbm]; exact hb
          have hbwr := below_trans hBw2 hbx
          have hwb := hbx.size
          have hQr := hQ2.below hbx
          have hAr := hA2.below hbx
          have har := ha2.below hbx
          have q0 := hQr.cell 0 _ rfl
          have q1 := hQr.cell 1 _ rfl
          have q2 := hQr.cell 2 _ rfl
          by_cases hlt : k < n
          · obtain ⟨x, hxk⟩ : ∃ x, l[k]? = some x := ⟨l[k], List.getElem?_eq_getElem (by omega)⟩
            have hx := hw x (List.mem_of_getElem? hxk)
            simp [Lit.wf, IntKind.min, IntKind.max, IntKind.signed, IntKind.bits] at hx
            cases A with
            | none => have := (hl.nil_ rfl).1; omega
            | some ad =>
            have hcx : wr.cell? (ad.add k) = some (.int .u32 x) := (hl.below hbwr).cells ad rfl k (.int .u32 x) (by rw [List.getElem?_map, hxk]; rfl)
            have hki : (k : Int) < (n : Int) := by omega
            go_upto_region 19 with fail
            obtain ⟨nw, hnw⟩ : ∃ y, now + x = y := ⟨_, rfl⟩
            have hw1 : at' ≤ nw := by omega
            have hw2 : nw ≤ at' + (k + 1) * 4294967296 := by omega
            have hw3 : nw ≤ 4611686018427387904 := by omega
            rw [hnw]
            clear hnw hcx hn1 hn2
            have hg := get_ wr C bm 3 row hc q hq hq20 nw
            rw [he] at hg
            cases gone
            · rw [if_neg (by decide), HG.out nw (by omega) hw3] at hg
              by_cases hal : nw < at' + Lf * 10
              · rw [if_pos hal] at hg
                simp only at hg
                unfold ptr Qn.val at hg
                simp only [Option.map] at hg
                have hd0 : 0 ≤ nw - at' := by omega
                have hag : ageV (clockV nw) eA = (nw - at') / 10 := by
                  rw [clockV_id (by omega) hw3]
                  unfold ageV
                  rw [HE.out.2.2.2.2.2.1]
                  split <;> omega
                have htd : (nw - at').tdiv 10 = (nw - at') / 10 := Int.tdiv_eq_ediv_of_nonneg hd0
                go_upto_region 25 with (first | (go_at_call 11; refine hg.mono ?_; clear hg; rintro e W5 ⟨row5, he5, hl5, hh5, v1, v2, v3, rfl, o1, o2, o3⟩; rw [hag] at o1 o2 o3; obtain ⟨A1, k1, rfl, r1⟩ := own_rd o1; obtain ⟨A2, k2, rfl, r2⟩ := own_rd o2; obtain ⟨A3, k3, rfl, r3⟩ := own_rd o3; clear r1 r2 r3 hag))
                rw [HE.out.2.1, HE.out.2.2.1, HE.out.2.2.2.1, HE.out.2.2.2.2.1]
                rw [HE.out.2.2.1] at o1
                rw [HE.out.2.2.2.1] at o2
                rw [HE.out.2.2.2.2.1] at o3
                clear q0 q1 q2 htd hQr
                obtain ⟨m1, hm1⟩ : ∃ y, a.an.l.length = y := ⟨_, rfl⟩
                obtain ⟨m2, hm2⟩ : ∃ y, a.au.l.length = y := ⟨_, rfl⟩
                obtain ⟨m3, hm3⟩ : ∃ y, a.ex.l.length = y := ⟨_, rfl⟩
                rw [hm1] at o1
                rw [hm2] at o2
                rw [hm3] at o3
                rw [hm1, hm2, hm3]
                obtain ⟨ag, hag⟩ : ∃ y, (nw - at') / 10 = y := ⟨_, rfl⟩
                have hag0 : 0 ≤ ag := by omega
                have hag1 : ag < Lf := by omega
                have hag2 : ag < 4294967296 := by omega
                rw [hag] at o1 o2 o3 ⊢
                clear hag hm1 hm2 hm3
                have hb5 := Fr.toBelow hb hl5.f (fun i _ hi => hlow i (.inl hi)) (by omega)
                have hz5 := hl5.f.size
                have hb55 : Below W2.heap.size W2 W5 := by rw [hbm]; exact hb5
                have hb6 := hb5.alloc (by omega) (.cells #[.int .u16 0, .bool false, .slice A1 m1 k1, .slice A2 m2 k2, .slice A3 m3 k3] 28)
                have hn6 := below_new W5 (.cells #[.int .u16 0, .bool false, .slice A1 m1 k1, .slice A2 m2 k2, .slice A3 m3 k3] 28)
                have hc6 := hl5.c.below hn6
                have hD6 : DW g4 W5.heap.size a 0 (.slice A1 m1 k1) (.slice A2 m2 k2) (.slice A3 m3 k3) wr.heap.size m1 m2 m3 ag (W5.alloc (.cells #[.int .u16 0, .bool false, .slice A1 m1 k1, .slice A2 m2 k2, .slice A3 m3 k3] 28)) := ⟨(hA2.below hb55).below hn6, Blk.new W5 _ _, (ha2.below hb55).below hn6, own_below o1 hn6, own_below o2 hn6, own_below o3 hn6⟩
                have hz6 := World.size_alloc W5 (.cells #[.int .u16 0, .bool false, .slice A1 m1 k1, .slice A2 m2 k2, .slice A3 m3 k3] 28)
                obtain ⟨W6, hW6⟩ : ∃ y, W5.alloc (.cells #[.int .u16 0, .bool false, .slice A1 m1 k1, .slice A2 m2 k2, .slice A3 m3 k3] 28) = y := ⟨_, rfl⟩
                obtain ⟨gb, hgb⟩ : ∃ y, W5.heap.size = y := ⟨_, rfl⟩
                rw [hW6] at hb6 hc6 hD6 hz6 ⊢
                rw [hgb] at hD6 hz6 ⊢
                have hlow6 : ∀ x, CH C bm row5 x → bm ≤ x := fun x hx => hlow x (hh5 x hx)
                clear hW6 hn6 hb5 hb55 o1 o2 o3 hl5 hc har hAr hb hbx hlow
                have hold1 := own_old hD6.o1 hD6.ok.an hsm.an hsm.na hag0 hag2 (fun r hr => by have := HE.out.2.2.2.2.2.2.2 r (by simp [hr]); omega)
                have hold2 := fun W (h : DW g4 gb a 0 (.slice A1 m1 k1) (.slice A2 m2 k2) (.slice A3 m3 k3) wr.heap.size m1 m2 m3 ag W) => own_old h.o2 h.ok.au hsm.au hsm.nu hag0 hag2 (fun r hr => by have := HE.out.2.2.2.2.2.2.2 r (by simp [hr]); omega)
                have hold3 := fun W (h : DW g4 gb a 0 (.slice A1 m1 k1) (.slice A2 m2 k2) (.slice A3 m3 k3) wr.heap.size m1 m2 m3 ag W) => own_old h.o3 h.ok.ex hsm.ex hsm.nx hag0 hag2 (fun r hr => by have := HE.out.2.2.2.2.2.2.2 r (by simp [hr]); omega)
                have y0 := hD6.b.cell 0 _ rfl
                have y1 := hD6.b.cell 1 _ rfl
                have y2 := hD6.b.cell 2 _ rfl
                have x0 := hD6.A.cell 0 _ rfl
                have x2 := hD6.A.cell 2 _ rfl
                go_wp2_with (first | (go_at_call 14; refine hold1.mono ?_; clear hold1; rintro e W7 ⟨rfl, hb7⟩; have hD7 := hD6.below hb7; have y3 := hD7.b.cell 3 _ rfl; have x3 := hD7.A.cell 3 _ rfl) | (go_at_call 14; refine (hold2 _ hD7).mono ?_; clear hold2; rintro e W8 ⟨rfl, hb8⟩; have hD8 := hD7.below hb8; have y4 := hD8.b.cell 4 _ rfl; have x4 := hD8.A.cell 4 _ rfl) | (go_at_call 14; refine (hold3 _ hD8).mono ?_; clear hold3; rintro e W9 ⟨rfl, hb9⟩))
                have hn9 := below_trans (below_trans hb7 hb8) hb9
                have hc9 := hc6.below hn9
                have hb99 := hb6.trans (hn9.mono (by omega))
                go_roundw
                case rel => exact ⟨k + 1, row5, false, nw, by omega, rfl, rfl, by go_num, hw1, by simp; omega, hc9, he5, hlow6, hb99⟩
                case measure => simp [intOf]; omega
              · rw [if_neg hal] at hg
                simp only at hg
                unfold ptr Qn.val at hg
                simp only [Option.map] at hg
                have hd0 : 0 ≤ nw - at' := by omega
                go_wp2_with (first | (go_at_call 11; refine hg.mono ?_; clear hg; rintro e W5 ⟨row5, he5, hl5, hh5, hgp⟩; obtain rfl : e = .returned (.tuple #[.agg #[.int .u16 0, .bool false, .slice none 0 0, .slice none 0 0, .slice none 0 0], .bool false]) := hgp))
                have hb5 := Fr.toBelow hb hl5.f (fun i _ hi => hlow i (.inl hi)) (by omega)
                have hz5 := hl5.f.size
                have hb6 := hb5.alloc (by omega) (.cells #[.int .u16 0, .bool false, .slice none 0 0, .slice none 0 0, .slice none 0 0] 28)
                have hc6 := hl5.c.below (below_new W5 (.cells #[.int .u16 0, .bool false, .slice none 0 0, .slice none 0 0, .slice none 0 0] 28))
                have hrr := no_row he5
                go_roundw
                case rel => exact ⟨k + 1, row5, true, nw, by omega, rfl, rfl, by go_num, hw1, by simp; omega, hc6, he5, fun x hx => hlow x (hh5 x hx), hb6⟩
                case measure => simp [intOf]; omega
            · rw [if_pos rfl, get_nil] at hg
              simp only at hg
              unfold ptr Qn.val at hg
              simp only [Option.map] at hg
              have hd0 : 0 ≤ nw - at' := by omega
              go_wp2_with (first | (go_at_call 11; refine hg.mono ?_; clear hg; rintro e W5 ⟨row5, he5, hl5, hh5, hgp⟩; obtain rfl : e = .returned (.tuple #[.agg #[.int .u16 0, .bool false, .slice none 0 0, .slice none 0 0, .slice none 0 0], .bool false]) := hgp))
              have hb5 := Fr.toBelow hb hl5.f (fun i _ hi => hlow i (.inl hi)) (by omega)
              have hz5 := hl5.f.size
              have hb6 := hb5.alloc (by omega) (.cells #[.int .u16 0, .bool false, .slice none 0 0, .slice none 0 0, .slice none 0 0] 28)
              have hc6 := hl5.c.below (below_new W5 (.cells #[.int .u16 0, .bool false, .slice none 0 0, .slice none 0 0, .slice none 0 0] 28))
              have hrr := no_row he5
              go_roundw
              case rel => exact ⟨k + 1, row5, true, nw, by omega, rfl, rfl, by go_num, hw1, by simp; omega, hc6, he5, fun x hx => hlow x (hh5 x hx), hb6⟩
              case measure => simp [intOf]; omega
          · obtain rfl : k = n := by omega
            have hg := get_ wr C bm 3 row hc q hq hq20 (at' + 21474836480)
            have hgv : getV (if gone = true then [] else [eA]) q (at' + 21474836480) = ([], none) := by
              cases gone
              · rw [if_neg (by decide), HG.out _ (by omega) (by omega), if_neg (by omega)]
              · rw [if_pos rfl, get_nil]
            rw [he, hgv] at hg
            simp only at hg
            unfold ptr Qn.val at hg
            simp only [Option.map] at hg
            have HB := Lib.hid hb
            have HX := Lib.hid (fun W5 (h : Fr (CS C bm row) wr W5) => Fr.toBelow hb h (fun i _ hi => hlow i (.inl hi)) (by omega))
            go_wp2_with (first | (go_at_call 11; refine hg.mono ?_; clear hg; rintro e W5 ⟨row5, he5, hl5, hh5, hgp⟩; obtain rfl : e = .returned (.tuple #[.agg #[.int .u16 0, .bool false, .slice none 0 0, .slice none 0 0, .slice none 0 0], .bool false]) := hgp) | (go_at_call 13; refine (keeps_ _).mono ?_; rintro e W8 ⟨rfl, hb8⟩))
            have hb5 := HX.out W5 hl5.f
            have hz5 := hl5.f.size
            have hb6 := hb5.alloc (by omega) (.cells #[.int .u16 0, .bool false, .slice none 0 0, .slice none 0 0, .slice none 0 0] 28)
            go_ret
            exact ⟨rfl, below_trans (below_trans hBw2 (by rw [hbm]; exact hb6)) hb8⟩
      · obtain ⟨eA, heA⟩ : ∃ x, newAe q a.rc a.an.l a.au.l a.ex.l at' = x := ⟨_, rfl⟩
        have ek : eA.key = foldQ q := by rw [← heA]; rfl
        have er : eA.rc = 0 := by rw [← heA]; exact h0
        have en1 : eA.an = a.an.l := by rw [← heA]; rfl
        have eu1 : eA.au = a.au.l := by rw [← heA]; rfl
        have ex1 : eA.ex = a.ex.l := by rw [← heA]; rfl
        have ep : eA.put = at' := by rw [← heA]; rfl
        have el : eA.life = lifeV a.rc a.an.l a.au.l a.ex.l := by rw [← heA]; rfl
        have hle : ∀ r ∈ a.an.l ++ a.au.l ++ a.ex.l, lifeV a.rc a.an.l a.au.l a.ex.l ≤ r.ttl := fun r hr => by
          have h1 := life_le hlife hr
          have hro : r.ok := by
            simp only [List.mem_append] at hr
            rcases hr with (hr | hr) | hr
            · exact ha.an.ok r hr
            · exact ha.au.ok r hr
            · exact ha.ex.ok r hr
          have h2 := cnt_le hro.ttl.1
          omega
        have hsoa : ∃ r ∈ a.au.l, r.ty = 6 ∧ lifeV a.rc a.an.l a.au.l a.ex.l ≤ r.n4 := by
          obtain ⟨r, hr1, hr2, hr3⟩ := life_soa hlife (.inr (by simp at hng; have := Rd.recs ha.an.r; exact List.eq_nil_of_length_eq_zero (by omega)))
          have h2 := cnt_le (ha.au.ok r hr1).n4.1
          exact ⟨r, hr1, hr2, by omega⟩
        obtain ⟨Lf, hLf⟩ : ∃ x, lifeV a.rc a.an.l a.au.l a.ex.l = x := ⟨_, rfl⟩
        rw [hLf] at el hle hLb hsoa
        rw [heA] at he4
        have HE := Lib.hid (And.intro ek (And.intro er (And.intro en1 (And.intro eu1 (And.intro ex1 (And.intro ep (And.intro el hle)))))))
        clear heA hp hlife hLf ek er en1 eu1 ex1 ep el hle j0 j2 hlr
        have hgetone := fun (now : Int) h0 h1 => get_one (q := q) (e := eA) HE.out.1 now h0 h1
        rw [HE.out.2.2.2.2.2.1, HE.out.2.2.2.2.2.2.1] at hgetone
        have HG := Lib.hid hgetone
        clear hgetone
        go_wp2
        go_loopw [14, 15, 16] (fun gn nw i wr => ∃ (k : Nat) (row : List Ce) (gone : Bool) (now : Int), k ≤ n ∧ gn = .bool gone ∧ nw = .int .i64 now ∧ i = .int .i64 k ∧ at' ≤ now ∧ now ≤ at' + k * 4294967296 ∧ CacheW wr C bm 3 row ∧ row.map Ce.e = (if gone then [] else [eA]) ∧ (∀ x, CH C bm row x → bm ≤ x) ∧ Below bm W2 wr) (fun _ _ i _ => n - (intOf i).toNat)
        case atStart => exact ⟨0, row4, false, at', Nat.zero_le _, rfl, rfl, rfl, by omega, by omega, hc4, he4, hlow4, hb24⟩
        case round =>
          clear hc4 he4 hlow4 hb24 hQ4 hA4
          obtain ⟨k, row, gone, now, hk, rfl, rfl, rfl, hn1, hn2, hc, he, hlow, hb⟩ := hrel
          have hbx : Below W2.heap.size W2 wr := by rw [hbm]; exact hb
          have hbwr := below_trans hBw2 hbx
          have hwb := hbx.size
          have hQr := hQ2.below hbx
          have hAr := hA2.below hbx
          have har := ha2.below hbx
          have q0 := hQr.cell 0 _ rfl
          have q1 := hQr.cell 1 _ rfl
          have q2 := hQr.cell 2 _ rfl
          by_cases hlt : k < n
          · obtain ⟨x, hxk⟩ : ∃ x, l[k]? = some x := ⟨l[k], List.getElem?_eq_getElem (by omega)⟩
            have hx := hw x (List.mem_of_getElem? hxk)
            simp [Lit.wf, IntKind.min, IntKind.max, IntKind.signed, IntKind.bits] at hx
            cases A with
            | none => have := (hl.nil_ rfl).1; omega
            | some ad =>
            have hcx : wr.cell? (ad.add k) = some (.int .u32 x) := (hl.below hbwr).cells ad rfl k (.int .u32 x) (by rw [List.getElem?_map, hxk]; rfl)
            have hki : (k : Int) < (n : Int) := by omega
            go_upto_region 19 with fail
            obtain ⟨nw, hnw⟩ : ∃ y, now + x = y := ⟨_, rfl⟩
            have hw1 : at' ≤ nw := by omega
            have hw2 : nw ≤ at' + (k + 1) * 4294967296 := by omega
            have hw3 : nw ≤ 4611686018427387904 := by omega
            rw [hnw]
            clear hnw hcx hn1 hn2
            have hg := get_ wr C bm 3 row hc q hq hq20 nw
            rw [he] at hg
            cases gone
            · rw [if_neg (by decide), HG.out nw (by omega) hw3] at hg
              by_cases hal : nw < at' + Lf * 10
              · rw [if_pos hal] at hg
                simp only at hg
                unfold ptr Qn.val at hg
                simp only [Option.map] at hg
                have hd0 : 0 ≤ nw - at' := by omega
                have hag : ageV (clockV nw) eA = (nw - at') / 10 := by
                  rw [clockV_id (by omega) hw3]
                  unfold ageV
                  rw [HE.out.2.2.2.2.2.1]
                  split <;> omega
                have htd : (nw - at').tdiv 10 = (nw - at') / 10 := Int.tdiv_eq_ediv_of_nonneg hd0
                go_upto_region 25 with (first | (go_at_call 11; refine hg.mono ?_; clear hg; rintro e W5 ⟨row5, he5, hl5, hh5, v1, v2, v3, rfl, o1, o2, o3⟩; rw [hag] at o1 o2 o3; obtain ⟨A1, k1, rfl, r1⟩ := own_rd o1; obtain ⟨A2, k2, rfl, r2⟩ := own_rd o2; obtain ⟨A3, k3, rfl, r3⟩ := own_rd o3; clear r1 r2 r3 hag))
                rw [HE.out.2.1, HE.out.2.2.1, HE.out.2.2.2.1, HE.out.2.2.2.2.1]
                rw [HE.out.2.2.1] at o1
                rw [HE.out.2.2.2.1] at o2
                rw [HE.out.2.2.2.2.1] at o3
                clear q0 q1 q2 htd hQr
                obtain ⟨m1, hm1⟩ : ∃ y, a.an.l.length = y := ⟨_, rfl⟩
                obtain ⟨m2, hm2⟩ : ∃ y, a.au.l.length = y := ⟨_, rfl⟩
                obtain ⟨m3, hm3⟩ : ∃ y, a.ex.l.length = y := ⟨_, rfl⟩
                rw [hm1] at o1
                rw [hm2] at o2
                rw [hm3] at o3
                rw [hm1, hm2, hm3]
                obtain ⟨ag, hag⟩ : ∃ y, (nw - at') / 10 = y := ⟨_, rfl⟩
                have hag0 : 0 ≤ ag := by omega
                have hag1 : ag < Lf := by omega
                have hag2 : ag < 4294967296 := by omega
                rw [hag] at o1 o2 o3 ⊢
                clear hag hm1 hm2 hm3
                have hb5 := Fr.toBelow hb hl5.f (fun i _ hi => hlow i (.inl hi)) (by omega)
                have hz5 := hl5.f.size
                have hb55 : Below W2.heap.size W2 W5 := by rw [hbm]; exact hb5
                have hb6 := hb5.alloc (by omega) (.cells #[.int .u16 0, .bool false, .slice A1 m1 k1, .slice A2 m2 k2, .slice A3 m3 k3] 28)
                have hn6 := below_new W5 (.cells #[.int .u16 0, .bool false, .slice A1 m1 k1, .slice A2 m2 k2, .slice A3 m3 k3] 28)
                have hc6 := hl5.c.below hn6
                have hD6 : DW g4 W5.heap.size a 0 (.slice A1 m1 k1) (.slice A2 m2 k2) (.slice A3 m3 k3) wr.heap.size m1 m2 m3 ag (W5.alloc (.cells #[.int .u16 0, .bool false, .slice A1 m1 k1, .slice A2 m2 k2, .slice A3 m3 k3] 28)) := ⟨(hA2.below hb55).below hn6, Blk.new W5 _ _, (ha2.below hb55).below hn6, own_below o1 hn6, own_below o2 hn6, own_below o3 hn6⟩
                have hz6 := World.size_alloc W5 (.cells #[.int .u16 0, .bool false, .slice A1 m1 k1, .slice A2 m2 k2, .slice A3 m3 k3] 28)
                obtain ⟨W6, hW6⟩ : ∃ y, W5.alloc (.cells #[.int .u16 0, .bool false, .slice A1 m1 k1, .slice A2 m2 k2, .slice A3 m3 k3] 28) = y := ⟨_, rfl⟩
                obtain ⟨gb, hgb⟩ : ∃ y, W5.heap.size = y := ⟨_, rfl⟩
                rw [hW6] at hb6 hc6 hD6 hz6 ⊢
                rw [hgb] at hD6 hz6 ⊢
                have hlow6 : ∀ x, CH C bm row5 x → bm ≤ x := fun x hx => hlow x (hh5 x hx)
                clear hW6 hn6 hb5 hb55 o1 o2 o3 hl5 hc har hAr hb hbx hlow
                have hold1 := own_old hD6.o1 hD6.ok.an hsm.an hsm.na hag0 hag2 (fun r hr => by have := HE.out.2.2.2.2.2.2.2 r (by simp [hr]); omega)
                have hold2 := fun W (h : DW g4 gb a 0 (.slice A1 m1 k1) (.slice A2 m2 k2) (.slice A3 m3 k3) wr.heap.size m1 m2 m3 ag W) => own_old h.o2 h.ok.au hsm.au hsm.nu hag0 hag2 (fun r hr => by have := HE.out.2.2.2.2.2.2.2 r (by simp [hr]); omega)
                have hold3 := fun W (h : DW g4 gb a 0 (.slice A1 m1 k1) (.slice A2 m2 k2) (.slice A3 m3 k3) wr.heap.size m1 m2 m3 ag W) => own_old h.o3 h.ok.ex hsm.ex hsm.nx hag0 hag2 (fun r hr => by have := HE.out.2.2.2.2.2.2.2 r (by simp [hr]); omega)
                have y0 := hD6.b.cell 0 _ rfl
                have y1 := hD6.b.cell 1 _ rfl
                have y2 := hD6.b.cell 2 _ rfl
                have x0 := hD6.A.cell 0 _ rfl
                have x2 := hD6.A.cell 2 _ rfl
                go_upto_region 29 with (first | (go_at_call 14; refine hold1.mono ?_; clear hold1; rintro e W7 ⟨rfl, hb7⟩; have hD7 := hD6.below hb7; have y3 := hD7.b.cell 3 _ rfl; have x3 := hD7.A.cell 3 _ rfl) | (go_at_call 14; refine (hold2 _ hD7).mono ?_; clear hold2; rintro e W8 ⟨rfl, hb8⟩; have hD8 := hD7.below hb8; have y4 := hD8.b.cell 4 _ rfl; have x4 := hD8.A.cell 4 _ rfl) | (go_at_call 14; refine (hold3 _ hD8).mono ?_; clear hold3; rintro e W9 ⟨rfl, hb9⟩))
                have hn9 := below_trans (below_trans hb7 hb8) hb9
                have hc9 := hc6.below hn9
                have hb99 := hb6.trans (hn9.mono (by omega))
                have hD9 := hD8.below hb9
                have x39 := hD9.A.cell 3 _ rfl
                have hau := hD9.ok.au
                have hauL := Rd.recs hau.r
                have hau30 := hsm.au
                clear y0 y1 y2 y3 y4 x0 x2 x3 x4 hb7 hb8 hb9 hD6 hD7 hD8 hD9 hn9 hc6 hb6
                go_wp2
                go_loopw [20, 21] (fun f i wv => ∃ o : Nat, o ≤ a.au.n ∧ f = .bool ((a.au.l.take o).any fun r => r.ty == 6 && decide (ag < r.n4)) ∧ i = .int .i64 o ∧ wv = W9) (fun _ i _ => a.au.n - (intOf i).toNat)
                case atStart => exact ⟨0, Nat.zero_le _, rfl, rfl, rfl⟩
                case round =>
                  obtain ⟨o, ho, rfl, rfl, rfl⟩ := hrel
                  by_cases hoa : o < a.au.n
                  · have hoi : (o : Int) < (a.au.n : Int) := by omega
                    obtain ⟨r, hr⟩ : ∃ r, a.au.l[o]? = some r := ⟨a.au.l[o], List.getElem?_eq_getElem (by omega)⟩
                    have hro := hau.ok r (List.mem_of_getElem? hr)
                    have hst : ((a.au.l.take (o + 1)).any fun r => r.ty == 6 && decide (ag < r.n4)) = (((a.au.l.take o).any fun r => r.ty == 6 && decide (ag < r.n4)) || (r.ty == 6 && decide (ag < r.n4))) := by
                      obtain ⟨h2, h3⟩ := List.getElem?_eq_some_iff.1 hr
                      rw [List.take_succ_eq_append_getElem h2, h3, List.any_append, List.any_cons, List.any_nil, Bool.or_false]
                    obtain ⟨AU, hAU⟩ : ∃ y, a.au.a = y := ⟨_, rfl⟩
                    have hrd := hau.r
                    rw [hAU] at hrd
                    have hAU' := hAU
                    cases AU with
                    | none => have := (hrd.nil_ rfl).1; omega
                    | some au1 =>
                    have hcu := Rd.rec hrd o r hr
                    have z1 := cells_at hcu 0 (Value.int .u16 r.ty) rfl
                    have z11 := cells_at hcu 10 (Value.int .u32 r.n4) rfl
                    rw [hAU] at x39 ⊢
                    obtain ⟨f0, hf0⟩ : ∃ y, ((a.au.l.take o).any fun r => r.ty == 6 && decide (ag < r.n4)) = y := ⟨_, rfl⟩
                    rw [hf0] at hst ⊢
                    cases f0
                    · by_cases hty : r.ty = 6
                      · by_cases hn4 : ag < r.n4
                        · have HS := Lib.hid (show ((a.au.l.take (o + 1)).any fun r => r.ty == 6 && decide (ag < r.n4)) = true by rw [hst]; simp [hty, hn4])
                          clear hst hcu hAU'
                          go_wp2
                          go_roundw
                          case rel => exact ⟨o + 1, by omega, by rw [HS.out], by go_num, trivial⟩
                          case measure => simp [intOf]; omega
                        · have HS := Lib.hid (show ((a.au.l.take (o + 1)).any fun r => r.ty == 6 && decide (ag < r.n4)) = false by rw [hst]; simp [hty, hn4])
                          clear hst hcu hAU'
                          go_wp2
                          go_roundw
                          case rel => exact ⟨o + 1, by omega, by rw [HS.out], by go_num, trivial⟩
                          case measure => simp [intOf]; omega
                      · have hty' : (r.ty == 6) = false := by simpa using hty
                        have HS := Lib.hid (show ((a.au.l.take (o + 1)).any fun r => r.ty == 6 && decide (ag < r.n4)) = false by rw [hst]; simp [hty])
                        clear hst hcu hAU'
                        go_wp2
                        go_roundw
                        case rel => exact ⟨o + 1, by omega, by rw [HS.out], by go_num, trivial⟩
                        case measure => simp [intOf]; omega
                    · have HS := Lib.hid (show ((a.au.l.take (o + 1)).any fun r => r.ty == 6 && decide (ag < r.n4)) = true by rw [hst]; rfl)
                      clear hst hcu hAU'
                      go_wp2
                      go_roundw
                      case rel => exact ⟨o + 1, by omega, by rw [HS.out], by go_num, trivial⟩
                      case measure => simp [intOf]; omega
                  · obtain rfl : o = a.au.n := by omega
                    have hall : ((a.au.l.take a.au.n).any fun r => r.ty == 6 && decide (ag < r.n4)) = true := by
                      obtain ⟨r, hr1, hr2, hr3⟩ := hsoa
                      rw [List.take_of_length_le (by omega), List.any_eq_true]
                      exact ⟨r, hr1, by simp [hr2]; omega⟩
                    rw [hall]
                    clear hall
                    go_wp2
                    go_roundw
                    case rel => exact ⟨k + 1, row5, false, nw, by omega, rfl, rfl, by go_num, hw1, by simp; omega, hc9, he5, hlow6, hb99⟩
                    case measure => simp [intOf]; omega
              · rw [if_neg hal] at hg
                simp only at hg
                unfold ptr Qn.val at hg
                simp only [Option.map] at hg
                have hd0 : 0 ≤ nw - at' := by omega
                go_wp2_with (first | (go_at_call 11; refine hg.mono ?_; clear hg; rintro e W5 ⟨row5, he5, hl5, hh5, hgp⟩; obtain rfl : e = .returned (.tuple #[.agg #[.int .u16 0, .bool false, .slice none 0 0, .slice none 0 0, .slice none 0 0], .bool false]) := hgp))
                have hb5 := Fr.toBelow hb hl5.f (fun i _ hi => hlow i (.inl hi)) (by omega)
                have hz5 := hl5.f.size
                have hb6 := hb5.alloc (by omega) (.cells #[.int .u16 0, .bool false, .slice none 0 0, .slice none 0 0, .slice none 0 0] 28)
                have hc6 := hl5.c.below (below_new W5 (.cells #[.int .u16 0, .bool false, .slice none 0 0, .slice none 0 0, .slice none 0 0] 28))
                have hrr := no_row he5
                go_roundw
                case rel => exact ⟨k + 1, row5, true, nw, by omega, rfl, rfl, by go_num, hw1, by simp; omega, hc6, he5, fun x hx => hlow x (hh5 x hx), hb6⟩
                case measure => simp [intOf]; omega
            · rw [if_pos rfl, get_nil] at hg
              simp only at hg
              unfold ptr Qn.val at hg
              simp only [Option.map] at hg
              have hd0 : 0 ≤ nw - at' := by omega
              go_wp2_with (first | (go_at_call 11; refine hg.mono ?_; clear hg; rintro e W5 ⟨row5, he5, hl5, hh5, hgp⟩; obtain rfl : e = .returned (.tuple #[.agg #[.int .u16 0, .bool false, .slice none 0 0, .slice none 0 0, .slice none 0 0], .bool false]) := hgp))
              have hb5 := Fr.toBelow hb hl5.f (fun i _ hi => hlow i (.inl hi)) (by omega)
              have hz5 := hl5.f.size
              have hb6 := hb5.alloc (by omega) (.cells #[.int .u16 0, .bool false, .slice none 0 0, .slice none 0 0, .slice none 0 0] 28)
              have hc6 := hl5.c.below (below_new W5 (.cells #[.int .u16 0, .bool false, .slice none 0 0, .slice none 0 0, .slice none 0 0] 28))
              have hrr := no_row he5
              go_roundw
              case rel => exact ⟨k + 1, row5, true, nw, by omega, rfl, rfl, by go_num, hw1, by simp; omega, hc6, he5, fun x hx => hlow x (hh5 x hx), hb6⟩
              case measure => simp [intOf]; omega
          · obtain rfl : k = n := by omega
            have hg := get_ wr C bm 3 row hc q hq hq20 (at' + 21474836480)
            have hgv : getV (if gone = true then [] else [eA]) q (at' + 21474836480) = ([], none) := by
              cases gone
              · rw [if_neg (by decide), HG.out _ (by omega) (by omega), if_neg (by omega)]
              · rw [if_pos rfl, get_nil]
            rw [he, hgv] at hg
            simp only at hg
            unfold ptr Qn.val at hg
            simp only [Option.map] at hg
            have HB := Lib.hid hb
            have HX := Lib.hid (fun W5 (h : Fr (CS C bm row) wr W5) => Fr.toBelow hb h (fun i _ hi => hlow i (.inl hi)) (by omega))
            go_wp2_with (first | (go_at_call 11; refine hg.mono ?_; clear hg; rintro e W5 ⟨row5, he5, hl5, hh5, hgp⟩; obtain rfl : e = .returned (.tuple #[.agg #[.int .u16 0, .bool false, .slice none 0 0, .slice none 0 0, .slice none 0 0], .bool false]) := hgp) | (go_at_call 13; refine (keeps_ _).mono ?_; rintro e W8 ⟨rfl, hb8⟩))
            have hb5 := HX.out W5 hl5.f
            have hz5 := hl5.f.size
            have hb6 := hb5.alloc (by omega) (.cells #[.int .u16 0, .bool false, .slice none 0 0, .slice none 0 0, .slice none 0 0] 28)
            go_ret
            exact ⟨rfl, below_trans (below_trans hBw2 (by rw [hbm]; exact hb6)) hb8⟩
    · have h1 : ¬a.rc = 0 := by assumption
      have h0 : (a.rc != 0) = true ∧ (a.rc != 3) = true := by assumption
      exfalso
      rcases hlr with h | h
      · exact h1 h
      · rw [h] at h0
        exact absurd h0.2 (by decide)
    · have h0 : a.rc = 3 := by assumption
      obtain ⟨eA, heA⟩ : ∃ x, newAe q a.rc a.an.l a.au.l a.ex.l at' = x := ⟨_, rfl⟩
      have ek : eA.key = foldQ q := by rw [← heA]; rfl
      have er : eA.rc = 3 := by rw [← heA]; exact h0
      have en1 : eA.an = a.an.l := by rw [← heA]; rfl
      have eu1 : eA.au = a.au.l := by rw [← heA]; rfl
      have ex1 : eA.ex = a.ex.l := by rw [← heA]; rfl
      have ep : eA.put = at' := by rw [← heA]; rfl
      have el : eA.life = lifeV a.rc a.an.l a.au.l a.ex.l := by rw [← heA]; rfl
      have hle : ∀ r ∈ a.an.l ++ a.au.l ++ a.ex.l, lifeV a.rc a.an.l a.au.l a.ex.l ≤ r.ttl := fun r hr => by
        have h1 := life_le hlife hr
        have hro : r.ok := by
          simp only [List.mem_append] at hr
          rcases hr with (hr | hr) | hr
          · exact ha.an.ok r hr
          · exact ha.au.ok r hr
          · exact ha.ex.ok r hr
        have h2 := cnt_le hro.ttl.1
        omega
      have hsoa : ∃ r ∈ a.au.l, r.ty = 6 ∧ lifeV a.rc a.an.l a.au.l a.ex.l ≤ r.n4 := by
        obtain ⟨r, hr1, hr2, hr3⟩ := life_soa hlife (.inl h0)
        have h2 := cnt_le (ha.au.ok r hr1).n4.1
        exact ⟨r, hr1, hr2, by omega⟩
      obtain ⟨Lf, hLf⟩ : ∃ x, lifeV a.rc a.an.l a.au.l a.ex.l = x := ⟨_, rfl⟩
      rw [hLf] at el hle hLb hsoa
      rw [heA] at he4
      have HE := Lib.hid (And.intro ek (And.intro er (And.intro en1 (And.intro eu1 (And.intro ex1 (And.intro ep (And.intro el hle)))))))
      clear heA hp hlife hLf ek er en1 eu1 ex1 ep el hle j0 j2 hlr
      have hgetone := fun (now : Int) h0 h1 => get_one (q := q) (e := eA) HE.out.1 now h0 h1
      rw [HE.out.2.2.2.2.2.1, HE.out.2.2.2.2.2.2.1] at hgetone
      have HG := Lib.hid hgetone
      clear hgetone
      go_wp2
      go_loopw [14, 15, 16] (fun gn nw i wr => ∃ (k : Nat) (row : List Ce) (gone : Bool) (now : Int), k ≤ n ∧ gn = .bool gone ∧ nw = .int .i64 now ∧ i = .int .i64 k ∧ at' ≤ now ∧ now ≤ at' + k * 4294967296 ∧ CacheW wr C bm 3 row ∧ row.map Ce.e = (if gone then [] else [eA]) ∧ (∀ x, CH C bm row x → bm ≤ x) ∧ Below bm W2 wr) (fun _ _ i _ => n - (intOf i).toNat)
      case atStart => exact ⟨0, row4, false, at', Nat.zero_le _, rfl, rfl, rfl, by omega, by omega, hc4, he4, hlow4, hb24⟩
      case round =>
        clear hc4 he4 hlow4 hb24 hQ4 hA4
        obtain ⟨k, row, gone, now, hk, rfl, rfl, rfl, hn1, hn2, hc, he, hlow, hb⟩ := hrel
        have hbx : Below W2.heap.size W2 wr := by rw [hbm]; exact hb
        have hbwr := below_trans hBw2 hbx
        have hwb := hbx.size
        have hQr := hQ2.below hbx
        have hAr := hA2.below hbx
        have har := ha2.below hbx
        have q0 := hQr.cell 0 _ rfl
        have q1 := hQr.cell 1 _ rfl
        have q2 := hQr.cell 2 _ rfl
        by_cases hlt : k < n
        · obtain ⟨x, hxk⟩ : ∃ x, l[k]? = some x := ⟨l[k], List.getElem?_eq_getElem (by omega)⟩
          have hx := hw x (List.mem_of_getElem? hxk)
          simp [Lit.wf, IntKind.min, IntKind.max, IntKind.signed, IntKind.bits] at hx
          cases A with
          | none => have := (hl.nil_ rfl).1; omega
          | some ad =>
          have hcx : wr.cell? (ad.add k) = some (.int .u32 x) := (hl.below hbwr).cells ad rfl k (.int .u32 x) (by rw [List.getElem?_map, hxk]; rfl)
          have hki : (k : Int) < (n : Int) := by omega
          go_upto_region 19 with fail
          obtain ⟨nw, hnw⟩ : ∃ y, now + x = y := ⟨_, rfl⟩
          have hw1 : at' ≤ nw := by omega
          have hw2 : nw ≤ at' + (k + 1) * 4294967296 := by omega
          have hw3 : nw ≤ 4611686018427387904 := by omega
          rw [hnw]
          clear hnw hcx hn1 hn2
          have hg := get_ wr C bm 3 row hc q hq hq20 nw
          rw [he] at hg
          cases gone
          · rw [if_neg (by decide), HG.out nw (by omega) hw3] at hg
            by_cases hal : nw < at' + Lf * 10
            · rw [if_pos hal] at hg
              simp only at hg
              unfold ptr Qn.val at hg
              simp only [Option.map] at hg
              have hd0 : 0 ≤ nw - at' := by omega
              have hag : ageV (clockV nw) eA = (nw - at') / 10 := by
                rw [clockV_id (by omega) hw3]
                unfold ageV
                rw [HE.out.2.2.2.2.2.1]
                split <;> omega
              have htd : (nw - at').tdiv 10 = (nw - at') / 10 := Int.tdiv_eq_ediv_of_nonneg hd0
              go_upto_region 25 with (first | (go_at_call 11; refine hg.mono ?_; clear hg; rintro e W5 ⟨row5, he5, hl5, hh5, v1, v2, v3, rfl, o1, o2, o3⟩; rw [hag] at o1 o2 o3; obtain ⟨A1, k1, rfl, r1⟩ := own_rd o1; obtain ⟨A2, k2, rfl, r2⟩ := own_rd o2; obtain ⟨A3, k3, rfl, r3⟩ := own_rd o3; clear r1 r2 r3 hag))
              rw [HE.out.2.1, HE.out.2.2.1, HE.out.2.2.2.1, HE.out.2.2.2.2.1]
              rw [HE.out.2.2.1] at o1
              rw [HE.out.2.2.2.1] at o2
              rw [HE.out.2.2.2.2.1] at o3
              clear q0 q1 q2 htd hQr
              obtain ⟨m1, hm1⟩ : ∃ y, a.an.l.length = y := ⟨_, rfl⟩
              obtain ⟨m2, hm2⟩ : ∃ y, a.au.l.length = y := ⟨_, rfl⟩
              obtain ⟨m3, hm3⟩ : ∃ y, a.ex.l.length = y := ⟨_, rfl⟩
              rw [hm1] at o1
              rw [hm2] at o2
              rw [hm3] at o3
              rw [hm1, hm2, hm3]
              obtain ⟨ag, hag⟩ : ∃ y, (nw - at') / 10 = y := ⟨_, rfl⟩
              have hag0 : 0 ≤ ag := by omega
              have hag1 : ag < Lf := by omega
              have hag2 : ag < 4294967296 := by omega
              rw [hag] at o1 o2 o3 ⊢
              clear hag hm1 hm2 hm3
              have hb5 := Fr.toBelow hb hl5.f (fun i _ hi => hlow i (.inl hi)) (by omega)
              have hz5 := hl5.f.size
              have hb55 : Below W2.heap.size W2 W5 := by rw [hbm]; exact hb5
              have hb6 := hb5.alloc (by omega) (.cells #[.int .u16 3, .bool false, .slice A1 m1 k1, .slice A2 m2 k2, .slice A3 m3 k3] 28)
              have hn6 := below_new W5 (.cells #[.int .u16 3, .bool false, .slice A1 m1 k1, .slice A2 m2 k2, .slice A3 m3 k3] 28)
              have hc6 := hl5.c.below hn6
              have hD6 : DW g4 W5.heap.size a 3 (.slice A1 m1 k1) (.slice A2 m2 k2) (.slice A3 m3 k3) wr.heap.size m1 m2 m3 ag (W5.alloc (.cells #[.int .u16 3, .bool false, .slice A1 m1 k1, .slice A2 m2 k2, .slice A3 m3 k3] 28)) := ⟨(hA2.below hb55).below hn6, Blk.new W5 _ _, (ha2.below hb55).below hn6, own_below o1 hn6, own_below o2 hn6, own_below o3 hn6⟩
              have hz6 := World.size_alloc W5 (.cells #[.int .u16 3, .bool false, .slice A1 m1 k1, .slice A2 m2 k2, .slice A3 m3 k3] 28)
              obtain ⟨W6, hW6⟩ : ∃ y, W5.alloc (.cells #[.int .u16 3, .bool false, .slice A1 m1 k1, .slice A2 m2 k2, .slice A3 m3 k3] 28) = y := ⟨_, rfl⟩
              obtain ⟨gb, hgb⟩ : ∃ y, W5.heap.size = y := ⟨_, rfl⟩
              rw [hW6] at hb6 hc6 hD6 hz6 ⊢
              rw [hgb] at hD6 hz6 ⊢
              have hlow6 : ∀ x, CH C bm row5 x → bm ≤ x := fun x hx => hlow x (hh5 x hx)
              clear hW6 hn6 hb5 hb55 o1 o2 o3 hl5 hc har hAr hb hbx hlow
              have hold1 := own_old hD6.o1 hD6.ok.an hsm.an hsm.na hag0 hag2 (fun r hr => by have := HE.out.2.2.2.2.2.2.2 r (by simp [hr]); omega)
              have hold2 := fun W (h : DW g4 gb a 3 (.slice A1 m1 k1) (.slice A2 m2 k2) (.slice A3 m3 k3) wr.heap.size m1 m2 m3 ag W) => own_old h.o2 h.ok.au hsm.au hsm.nu hag0 hag2 (fun r hr => by have := HE.out.2.2.2.2.2.2.2 r (by simp [hr]); omega)
              have hold3 := fun W (h : DW g4 gb a 3 (.slice A1 m1 k1) (.slice A2 m2 k2) (.slice A3 m3 k3) wr.heap.size m1 m2 m3 ag W) => own_old h.o3 h.ok.ex hsm.ex hsm.nx hag0 hag2 (fun r hr => by have := HE.out.2.2.2.2.2.2.2 r (by simp [hr]); omega)
              have y0 := hD6.b.cell 0 _ rfl
              have y1 := hD6.b.cell 1 _ rfl
              have y2 := hD6.b.cell 2 _ rfl
              have x0 := hD6.A.cell 0 _ rfl
              have x2 := hD6.A.cell 2 _ rfl
              go_upto_region 29 with (first | (go_at_call 14; refine hold1.mono ?_; clear hold1; rintro e W7 ⟨rfl, hb7⟩; have hD7 := hD6.below hb7; have y3 := hD7.b.cell 3 _ rfl; have x3 := hD7.A.cell 3 _ rfl) | (go_at_call 14; refine (hold2 _ hD7).mono ?_; clear hold2; rintro e W8 ⟨rfl, hb8⟩; have hD8 := hD7.below hb8; have y4 := hD8.b.cell 4 _ rfl; have x4 := hD8.A.cell 4 _ rfl) | (go_at_call 14; refine (hold3 _ hD8).mono ?_; clear hold3; rintro e W9 ⟨rfl, hb9⟩))
              have hn9 := below_trans (below_trans hb7 hb8) hb9
              have hc9 := hc6.below hn9
              have hb99 := hb6.trans (hn9.mono (by omega))
              have hD9 := hD8.below hb9
              have x39 := hD9.A.cell 3 _ rfl
              have hau := hD9.ok.au
              have hauL := Rd.recs hau.r
              have hau30 := hsm.au
              clear y0 y1 y2 y3 y4 x0 x2 x3 x4 hb7 hb8 hb9 hD6 hD7 hD8 hD9 hn9 hc6 hb6
              go_wp2
              go_loopw [20, 21] (fun f i wv => ∃ o : Nat, o ≤ a.au.n ∧ f = .bool ((a.au.l.take o).any fun r => r.ty == 6 && decide (ag < r.n4)) ∧ i = .int .i64 o ∧ wv = W9) (fun _ i _ => a.au.n - (intOf i).toNat)
              case atStart => exact ⟨0, Nat.zero_le _, rfl, rfl, rfl⟩
              case round =>
                obtain ⟨o, ho, rfl, rfl, rfl⟩ := hrel
                by_cases hoa : o < a.au.n
                · have hoi : (o : Int) < (a.au.n : Int) := by omega
                  obtain ⟨r, hr⟩ : ∃ r, a.au.l[o]? = some r := ⟨a.au.l[o], List.getElem?_eq_getElem (by omega)⟩
                  have hro := hau.ok r (List.mem_of_getElem? hr)
                  have hst : ((a.au.l.take (o + 1)).any fun r => r.ty == 6 && decide (ag < r.n4)) = (((a.au.l.take o).any fun r => r.ty == 6 && decide (ag < r.n4)) || (r.ty == 6 && decide (ag < r.n4))) := by
                    obtain ⟨h2, h3⟩ := List.getElem?_eq_some_iff.1 hr
                    rw [List.take_succ_eq_append_getElem h2, h3, List.any_append, List.any_cons, List.any_nil, Bool.or_false]
                  obtain ⟨AU, hAU⟩ : ∃ y, a.au.a = y := ⟨_, rfl⟩
                  have hrd := hau.r
                  rw [hAU] at hrd
                  have hAU' := hAU
                  cases AU with
                  | none => have := (hrd.nil_ rfl).1; omega
                  | some au1 =>
                  have hcu := Rd.rec hrd o r hr
                  have z1 := cells_at hcu 0 (Value.int .u16 r.ty) rfl
                  have z11 := cells_at hcu 10 (Value.int .u32 r.n4) rfl
                  rw [hAU] at x39 ⊢
                  obtain ⟨f0, hf0⟩ : ∃ y, ((a.au.l.take o).any fun r => r.ty == 6 && decide (ag < r.n4)) = y := ⟨_, rfl⟩
                  rw [hf0] at hst ⊢
                  cases f0
                  · by_cases hty : r.ty = 6
                    · by_cases hn4 : ag < r.n4
                      · have HS := Lib.hid (show ((a.au.l.take (o + 1)).any fun r => r.ty == 6 && decide (ag < r.n4)) = true by rw [hst]; simp [hty, hn4])
                        clear hst hcu hAU'
                        go_wp2
                        go_roundw
                        case rel => exact ⟨o + 1, by omega, by rw [HS.out], by go_num, trivial⟩
                        case measure => simp [intOf]; omega
                      · have HS := Lib.hid (show ((a.au.l.take (o + 1)).any fun r => r.ty == 6 && decide (ag < r.n4)) = false by rw [hst]; simp [hty, hn4])
                        clear hst hcu hAU'
                        go_wp2
                        go_roundw
                        case rel => exact ⟨o + 1, by omega, by rw [HS.out], by go_num, trivial⟩
                        case measure => simp [intOf]; omega
                    · have hty' : (r.ty == 6) = false := by simpa using hty
                      have HS := Lib.hid (show ((a.au.l.take (o + 1)).any fun r => r.ty == 6 && decide (ag < r.n4)) = false by rw [hst]; simp [hty])
                      clear hst hcu hAU'
                      go_wp2
                      go_roundw
                      case rel => exact ⟨o + 1, by omega, by rw [HS.out], by go_num, trivial⟩
                      case measure => simp [intOf]; omega
                  · have HS := Lib.hid (show ((a.au.l.take (o + 1)).any fun r => r.ty == 6 && decide (ag < r.n4)) = true by rw [hst]; rfl)
                    clear hst hcu hAU'
                    go_wp2
                    go_roundw
                    case rel => exact ⟨o + 1, by omega, by rw [HS.out], by go_num, trivial⟩
                    case measure => simp [intOf]; omega
                · obtain rfl : o = a.au.n := by omega
                  have hall : ((a.au.l.take a.au.n).any fun r => r.ty == 6 && decide (ag < r.n4)) = true := by
                    obtain ⟨r, hr1, hr2, hr3⟩ := hsoa
                    rw [List.take_of_length_le (by omega), List.any_eq_true]
                    exact ⟨r, hr1, by simp [hr2]; omega⟩
                  rw [hall]
                  clear hall
                  go_wp2
                  go_roundw
                  case rel => exact ⟨k + 1, row5, false, nw, by omega, rfl, rfl, by go_num, hw1, by simp; omega, hc9, he5, hlow6, hb99⟩
                  case measure => simp [intOf]; omega
            · rw [if_neg hal] at hg
              simp only at hg
              unfold ptr Qn.val at hg
              simp only [Option.map] at hg
              have hd0 : 0 ≤ nw - at' := by omega
              go_wp2_with (first | (go_at_call 11; refine hg.mono ?_; clear hg; rintro e W5 ⟨row5, he5, hl5, hh5, hgp⟩; obtain rfl : e = .returned (.tuple #[.agg #[.int .u16 0, .bool false, .slice none 0 0, .slice none 0 0, .slice none 0 0], .bool false]) := hgp))
              have hb5 := Fr.toBelow hb hl5.f (fun i _ hi => hlow i (.inl hi)) (by omega)
              have hz5 := hl5.f.size
              have hb6 := hb5.alloc (by omega) (.cells #[.int .u16 0, .bool false, .slice none 0 0, .slice none 0 0, .slice none 0 0] 28)
              have hc6 := hl5.c.below (below_new W5 (.cells #[.int .u16 0, .bool false, .slice none 0 0, .slice none 0 0, .slice none 0 0] 28))
              have hrr := no_row he5
              go_roundw
              case rel => exact ⟨k + 1, row5, true, nw, by omega, rfl, rfl, by go_num, hw1, by simp; omega, hc6, he5, fun x hx => hlow x (hh5 x hx), hb6⟩
              case measure => simp [intOf]; omega
          · rw [if_pos rfl, get_nil] at hg
            simp only at hg
            unfold ptr Qn.val at hg
            simp only [Option.map] at hg
            have hd0 : 0 ≤ nw - at' := by omega
            go_wp2_with (first | (go_at_call 11; refine hg.mono ?_; clear hg; rintro e W5 ⟨row5, he5, hl5, hh5, hgp⟩; obtain rfl : e = .returned (.tuple #[.agg #[.int .u16 0, .bool false, .slice none 0 0, .slice none 0 0, .slice none 0 0], .bool false]) := hgp))
            have hb5 := Fr.toBelow hb hl5.f (fun i _ hi => hlow i (.inl hi)) (by omega)
            have hz5 := hl5.f.size
            have hb6 := hb5.alloc (by omega) (.cells #[.int .u16 0, .bool false, .slice none 0 0, .slice none 0 0, .slice none 0 0] 28)
            have hc6 := hl5.c.below (below_new W5 (.cells #[.int .u16 0, .bool false, .slice none 0 0, .slice none 0 0, .slice none 0 0] 28))
            have hrr := no_row he5
            go_roundw
            case rel => exact ⟨k + 1, row5, true, nw, by omega, rfl, rfl, by go_num, hw1, by simp; omega, hc6, he5, fun x hx => hlow x (hh5 x hx), hb6⟩
            case measure => simp [intOf]; omega
        · obtain rfl : k = n := by omega
          have hg := get_ wr C bm 3 row hc q hq hq20 (at' + 21474836480)
          have hgv : getV (if gone = true then [] else [eA]) q (at' + 21474836480) = ([], none) := by
            cases gone
            · rw [if_neg (by decide), HG.out _ (by omega) (by omega), if_neg (by omega)]
            · rw [if_pos rfl, get_nil]
          rw [he, hgv] at hg
          simp only at hg
          unfold ptr Qn.val at hg
          simp only [Option.map] at hg
          have HB := Lib.hid hb
          have HX := Lib.hid (fun W5 (h : Fr (CS C bm row) wr W5) => Fr.toBelow hb h (fun i _ hi => hlow i (.inl hi)) (by omega))
          go_wp2_with (first | (go_at_call 11; refine hg.mono ?_; clear hg; rintro e W5 ⟨row5, he5, hl5, hh5, hgp⟩; obtain rfl : e = .returned (.tuple #[.agg #[.int .u16 0, .bool false, .slice none 0 0, .slice none 0 0, .slice none 0 0], .bool false]) := hgp) | (go_at_call 13; refine (keeps_ _).mono ?_; rintro e W8 ⟨rfl, hb8⟩))
          have hb5 := HX.out W5 hl5.f
          have hz5 := hl5.f.size
          have hb6 := hb5.alloc (by omega) (.cells #[.int .u16 0, .bool false, .slice none 0 0, .slice none 0 0, .slice none 0 0] 28)
          go_ret
          exact ⟨rfl, below_trans (below_trans hBw2 (by rw [hbm]; exact hb6)) hb8⟩
end Go.Proofs.Ytioehogncgloiaa
