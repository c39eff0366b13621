/- The document's Get: contract. -/
import Derived.Test.YtioehogncgloiaaPL4
namespace Go.Proofs.Ytioehogncgloiaa
open Go.RowKit Go.HL Go.Maps
set_option linter.unusedVariables false
set_option linter.unusedSimpArgs false
def rgI (B M : Nat) (v5 : Value) (room : Int) (row5 rowN : List Re) (W5 : World) : List Bool → World → Prop
  | [_, da, ds], W => RI B M v5 room row5 rowN W5 da ds W
  | _, _ => True
def rgG (b5 B : Nat) (e : Re) (rowN : List Re) : Nat → Value → World → Prop
  | 6, u, W => rgA b5 e u W
  | 7, u, W => rgB B rowN u W
  | _, _, _ => True
theorem rgG_keep {b5 B : Nat} {e : Re} {rowN : List Re} {j : Nat} {u : Value} {W W' : World} (h : rgG b5 B e rowN j u W) (h1 : rgA b5 e u W → rgA b5 e u W') (h2 : rgB B rowN u W → rgB B rowN u W') : rgG b5 B e rowN j u W' := by
  unfold rgG at *
  split at h
  · exact h1 h
  · exact h2 h
  · trivial
theorem rgG_keep2 {b5 B : Nat} {e : Re} {rowN : List Re} {j : Nat} {u : Value} {W W' : World} (h : rgG b5 B e rowN j u W) (hj : j ≠ 7) (h1 : rgA b5 e u W → rgA b5 e u W') : rgG b5 B e rowN j u W' := by
  unfold rgG at *
  split at h
  · exact h1 h
  · exact absurd rfl hj
  · trivial
def rgc (M gx : Nat) (v5 : Value) (e : Re) : List (Option Value) := [some (.pointer (some ⟨M, 0, none⟩)), some (.pointer (some ⟨M, 0, none⟩)), some (.pointer (some ⟨M, 0, none⟩)), some (.pointer (some ⟨M, 0, none⟩)), some v5, some (.agg #[.string e.key.nm, .int .u16 e.key.ty, .int .u16 e.key.cl, .int .u16 e.am.rc, .bool e.am.aa, .slice e.am.an.a e.am.an.n e.am.an.c, .slice e.am.au.a e.am.au.n e.am.au.c, .slice e.am.ex.a e.am.ex.n e.am.ex.c, .int .i64 e.put, .int .i64 e.life]), none, none, some (.pointer (some ⟨M, 0, none⟩)), some (.pointer (some ⟨M, 0, none⟩)), some undef]
def RGetP (W : World) (M : Nat) (room : Int) (row : List Re) (now : Int) (P : List Ae × Option Ae) (en : Ending) (W' : World) : Prop :=
  ∃ v' row', row'.map Re.e = P.1 ∧ RefW W' M v' room row' ∧ Fr (fun k => k = M) W W' ∧ (∀ i, RB v' i → W.heap.size ≤ i) ∧ (∀ e ∈ row', e ∈ row) ∧ GotP W W' now en P.2
theorem findR_some {q : Qn} {row : List Re} {e : Re} (h : findR q row = some e) : e ∈ row := List.mem_of_find?_eq_some h
theorem age_max (now put : Int) (e : Ae) (he : e.put = put) : ageV now e = (if put < now then now - put else 0) / 10 := by
  unfold ageV
  rw [he]
  congr 1
  split <;> split <;> omega
set_option maxRecDepth 8000 in
set_option maxHeartbeats 8000000 in
theorem rget_ (W : World) (M : Nat) (v : Value) (room : Int) (row : List Re) (h : RefW W M v room row) (hok : ∀ e ∈ row, ReOk W e ∧ e.am.apart (fun k => k = M)) (hlen : row.length ≤ 4500) (q : Qn) (hq : q.nm.size ≤ 2000) (now : Int) :
    Calls Try.prog 22 #[ptr (some M), q.val, .int .i64 now] W (RGetP W M room row (clockV now) (getV (row.map Re.e) q now)) := by
  obtain ⟨P, hP⟩ : ∃ P, getV (row.map Re.e) q now = P := ⟨_, rfl⟩
  rw [hP]
  unfold getV at hP
  rw [← sweepR_e, ← rmR_e, ← findR_e] at hP
  have hclk := fun W => rclock_ W now
  have hcb := clockV_bd now
  obtain ⟨cn, hcn⟩ : ∃ x, clockV now = x := ⟨_, rfl⟩
  rw [hcn] at hP hclk hcb ⊢
  have b1 := below_new W (.cells #[.string q.nm, .int .u16 q.ty, .int .u16 q.cl] 25)
  have b2 := below_alloc b1 (.cells #[.int .u16 0, .bool false, .slice none 0 0, .slice none 0 0, .slice none 0 0] 28)
  have hQ := (Blk.new W 25 #[.string q.nm, .int .u16 q.ty, .int .u16 q.cl]).alloc (.cells #[.int .u16 0, .bool false, .slice none 0 0, .slice none 0 0, .slice none 0 0] 28)
  have hA := Blk.new (W.alloc (.cells #[.string q.nm, .int .u16 q.ty, .int .u16 q.cl] 25)) 28 #[.int .u16 0, .bool false, .slice none 0 0, .slice none 0 0, .slice none 0 0]
  rw [World.size_alloc] at hA
  have hz : ((W.alloc (.cells #[.string q.nm, .int .u16 q.ty, .int .u16 q.cl] 25)).alloc (.cells #[.int .u16 0, .bool false, .slice none 0 0, .slice none 0 0, .slice none 0 0] 28)).heap.size = W.heap.size + 2 := by rw [World.size_alloc, World.size_alloc]
  obtain ⟨W0, hW0⟩ : ∃ x, (W.alloc (.cells #[.string q.nm, .int .u16 q.ty, .int .u16 q.cl] 25)).alloc (.cells #[.int .u16 0, .bool false, .slice none 0 0, .slice none 0 0, .slice none 0 0] 28) = x := ⟨_, rfl⟩
  obtain ⟨g, hg⟩ : ∃ x, W.heap.size = x := ⟨_, rfl⟩
  rw [hW0] at b2 hQ hA hz
  have hMg : M < g := by rw [← hg]; exact h.hd.lt
  rw [hg] at hQ hA hz
  have hsw := rsweep_ W0 M v room row (h.below b2) (fun e he => ⟨(hok e he).1.put, (hok e he).1.life⟩) (by omega) cn
  have HQ := Lib.hid hQ
  have HA := Lib.hid hA
  have HG := Lib.hid (And.intro hg (And.intro hz hMg))
  have HB := Lib.hid b2
  have hl1 := sweepR_len cn row
  have hsm := fun e => sweepR_mem (now := cn) (row := row) (e := e)
  obtain ⟨row1, hrow1⟩ : ∃ x, sweepR cn row = x := ⟨_, rfl⟩
  rw [hrow1] at hsw hP hl1 hsm
  have HSM := Lib.hid hsm
  have HOK := Lib.hid hok
  have HCB := Lib.hid hcb
  clear h hok hQ hA b1 b2 hz hg hrow1 hcn hsm hcb
  unfold ptr at hsw ⊢
  unfold Qn.val
  simp only [Option.map] at hsw ⊢
  go_enter Try.func22, Try.ntmps22
  go_upto_region 3 with (first | (go_at_call 40; refine (hclk _).mono ?_; rintro e w' ⟨rfl, rfl⟩) | (go_at_call 41; refine hsw.mono ?_; clear hsw; rintro e W1 ⟨rfl, v1, hB1, ho1, hF1⟩))
  rw [HG.out.1]
  have R1 : RO (g + 2) W1 M v1 room row1 := ⟨hB1, by rw [← HG.out.2.1]; exact ho1⟩
  have hneM : ¬ g = M ∧ ¬ g + 1 = M := by have := HG.out; omega
  have HA1 := Lib.hid (HA.out.fr hF1 hneM.2)
  have hQ1 := HQ.out.fr hF1 hneM.1
  have z0 := hQ1.cell 0 _ rfl
  have z1 := hQ1.cell 1 _ rfl
  have z2 := hQ1.cell 2 _ rfl
  have HF1 := Lib.hid hF1
  have HR1 := Lib.hid R1
  have hkey := fun W => rkey_ W q (by omega)
  unfold Qn.val at hkey
  have htk := fun W (h : RO (g + 2) W M v1 room row1) (hW : g + 2 ≤ W.heap.size) => rtake2_ (g + 2) W M v1 room row1 h hW (by omega) (foldQ q)
  unfold ptr Qn.val at htk
  simp only [Option.map] at htk
  have hfm := fun e => findR_some (q := foldQ q) (row := row1) (e := e)
  have hz1 : g + 2 ≤ W1.heap.size := by have := HF1.out.size; have := HG.out; omega
  have hl5 := rmR_len (foldQ q) row1
  have hm5 := fun e => rmR_mem (q := foldQ q) (row := row1) (e := e)
  have HM5 := Lib.hid hm5
  have hrn := fun h => rmR_none (q := foldQ q) (row := row1) h
  obtain ⟨O, hO⟩ : ∃ x, findR (foldQ q) row1 = x := ⟨_, rfl⟩
  obtain ⟨row5, hrow5⟩ : ∃ x, rmR (foldQ q) row1 = x := ⟨_, rfl⟩
  rw [hO, hrow5] at htk hP
  rw [hrow5] at hl5 HM5
  rw [hO, hrow5] at hrn
  rw [hO] at hfm
  have HRN := Lib.hid hrn
  have HFM := Lib.hid hfm
  clear hclk hB1 ho1 hF1 R1 hO hfm hm5 hQ1 hrn
  cases O with
  | none =>
    simp only [Option.map] at hP
    unfold RTake2P tookV reZero at htk
    go_wp2_with (first | (go_at_call 45; refine (hkey _).mono ?_; clear hkey; rintro e W4 ⟨rfl, hb4⟩; have R4 := HR1.out.below hb4; have hz4 : g + 2 ≤ W4.heap.size := Nat.le_trans hz1 hb4.size) | (go_at_call 44; refine (htk _ R4 hz4).mono ?_; clear htk; rintro e W5 ⟨rfl, v5, R5, hF5⟩; have hA5 := ((HA1.out.below hb4).fr hF5 hneM.2)) | (refine wpList_put rfl 28 (.tmp 6) (.tmp 26) rfl (g + 1) #[.int .u16 0, .bool false, .slice none 0 0, .slice none 0 0, .slice none 0 0] rfl rfl 28 _ (hA5.alloc _) sizeAns rfl rfl ?_))
    refine bodyPost_ret (results_rec rfl _ _ _ _ _ rfl ((hA5.alloc _).row #[.int .u16 0, .bool false, .slice none 0 0, .slice none 0 0, .slice none 0 0]) Try.underlying28 rfl sizeAns) rfl ?_
    have hF15 : Fr (fun k => k = M) W W5 := (Fr.of_below HB.out).trans' (HF1.out.trans' ((Fr.of_below hb4).trans' hF5))
    have hal := below_new W5 (.cells #[.string ⟨#[]⟩, .int .u16 0, .int .u16 0, .int .u16 0, .bool false, .slice none 0 0, .slice none 0 0, .slice none 0 0, .int .i64 0, .int .i64 0] 91 )
    have R6 := R5.below hal
    have hz5 : g + 2 ≤ W5.heap.size := Nat.le_trans hz4 hF5.size
    have hfs := (Fr.refl (fun i => i = g + 1) (W5.alloc (.cells #[.string ⟨#[]⟩, .int .u16 0, .int .u16 0, .int .u16 0, .bool false, .slice none 0 0, .slice none 0 0, .slice none 0 0, .int .i64 0, .int .i64 0] 91 ))).setRow (g + 1) #[.int .u16 0, .bool false, .slice none 0 0, .slice none 0 0, .slice none 0 0] (.inl rfl)
    have R7 : RefW ((W5.alloc (.cells #[.string ⟨#[]⟩, .int .u16 0, .int .u16 0, .int .u16 0, .bool false, .slice none 0 0, .slice none 0 0, .slice none 0 0, .int .i64 0, .int .i64 0] 91 )).setRow (g + 1) #[.int .u16 0, .bool false, .slice none 0 0, .slice none 0 0, .slice none 0 0]) M v5 room row5 := R6.ref.fr hfs (by omega) (fun i hi => by have := R6.rb i hi; omega)
    exact ⟨v5, row5, by rw [← hP, HRN.out trivial], R7, (hF15.alloc _).setRow (g + 1) _ (.inr (by have := HG.out; omega)), fun i hi => by have := R6.rb i hi; have := HG.out; omega, fun e he => HSM.out e (HM5.out e he), by rw [← hP]; rfl⟩
  | some e =>
    simp only [Option.map] at hP
    unfold RTake2P tookV Re.val at htk
    obtain ⟨heok, heap⟩ := HOK.out e (HSM.out e (HFM.out e rfl))
    have HEO := Lib.hid (And.intro heok heap)
    clear heok heap
    go_upto_region 6 with (first | (go_at_call 45; refine (hkey _).mono ?_; clear hkey; rintro e W4 ⟨rfl, hb4⟩; have R4 := HR1.out.below hb4; have hz4 : g + 2 ≤ W4.heap.size := Nat.le_trans hz1 hb4.size) | (go_at_call 44; refine (htk _ R4 hz4).mono ?_; clear htk; rintro e W5 ⟨rfl, v5, R5', hF5⟩; have hA5 := ((HA1.out.below hb4).fr hF5 hneM.2)))
    have hF15 : Fr (fun k => k = M) W W5 := (Fr.of_below HB.out).trans' (HF1.out.trans' ((Fr.of_below hb4).trans' hF5))
    have hz5' : g + 2 ≤ W5.heap.size := Nat.le_trans hz4 hF5.size
    have hv5lt' : ∀ i, v5.ownBlock = some i → i < W5.heap.size := fun i hi => by obtain ⟨_, _, hx⟩ := own_blk R5'.ow hi; exact (Array.getElem?_eq_some_iff.1 hx).1
    have hal := below_new W5 (.cells #[.string e.key.nm, .int .u16 e.key.ty, .int .u16 e.key.cl, .int .u16 e.am.rc, .bool e.am.aa, .slice e.am.an.a e.am.an.n e.am.an.c, .slice e.am.au.a e.am.au.n e.am.au.c, .slice e.am.ex.a e.am.ex.n e.am.ex.c, .int .i64 e.put, .int .i64 e.life] 91 )
    have hXe := Blk.new W5 91 #[.string e.key.nm, .int .u16 e.key.ty, .int .u16 e.key.cl, .int .u16 e.am.rc, .bool e.am.aa, .slice e.am.an.a e.am.an.n e.am.an.c, .slice e.am.au.a e.am.au.n e.am.au.c, .slice e.am.ex.a e.am.ex.n e.am.ex.c, .int .i64 e.put, .int .i64 e.life]
    have R5 := R5'.below hal
    have hA6 := hA5.below hal
    have hF16 := hF15.alloc (.cells #[.string e.key.nm, .int .u16 e.key.ty, .int .u16 e.key.cl, .int .u16 e.am.rc, .bool e.am.aa, .slice e.am.an.a e.am.an.n e.am.an.c, .slice e.am.au.a e.am.au.n e.am.au.c, .slice e.am.ex.a e.am.ex.n e.am.ex.c, .int .i64 e.put, .int .i64 e.life] 91 )
    have hzx := World.size_alloc W5 (.cells #[.string e.key.nm, .int .u16 e.key.ty, .int .u16 e.key.cl, .int .u16 e.am.rc, .bool e.am.aa, .slice e.am.an.a e.am.an.n e.am.an.c, .slice e.am.au.a e.am.au.n e.am.au.c, .slice e.am.ex.a e.am.ex.n e.am.ex.c, .int .i64 e.put, .int .i64 e.life] 91 )
    obtain ⟨gx, hgx⟩ : ∃ x, W5.heap.size = x := ⟨_, rfl⟩
    obtain ⟨W6, hW6⟩ : ∃ x, W5.alloc (.cells #[.string e.key.nm, .int .u16 e.key.ty, .int .u16 e.key.cl, .int .u16 e.am.rc, .bool e.am.aa, .slice e.am.an.a e.am.an.n e.am.an.c, .slice e.am.au.a e.am.au.n e.am.au.c, .slice e.am.ex.a e.am.ex.n e.am.ex.c, .int .i64 e.put, .int .i64 e.life] 91 ) = x := ⟨_, rfl⟩
    rw [hW6] at R5 hA6 hF16 hXe hzx ⊢
    rw [hgx] at hXe hzx hz5' hv5lt' ⊢
    obtain ⟨b5, hb5⟩ : ∃ x, W6.heap.size = x := ⟨_, rfl⟩
    have hv5lt : ∀ i, v5.ownBlock = some i → i < b5 := fun i hi => by have := hv5lt' i hi; omega
    have hv5ge : ∀ i, v5.ownBlock = some i → g + 2 ≤ i := fun i hi => own_base R5.ow i hi
    obtain ⟨rN, HRO⟩ : ∃ x, Hid (x = row5 ++ [e]) := ⟨_, Lib.hid rfl⟩
    have hgS : ∀ i, (i = M ∨ v5.ownBlock = some i) → i < b5 := fun i hi => by rcases hi with hi | hi; omega; exact hv5lt i hi
    have hfrB : ∀ da ds W, RI (g + 2) M v5 room row5 rN W6 da ds W → Blk W gx 91 [.string e.key.nm, .int .u16 e.key.ty, .int .u16 e.key.cl, .int .u16 e.am.rc, .bool e.am.aa, .slice e.am.an.a e.am.an.n e.am.an.c, .slice e.am.au.a e.am.au.n e.am.au.c, .slice e.am.ex.a e.am.ex.n e.am.ex.c, .int .i64 e.put, .int .i64 e.life] := fun da ds W hI => hXe.fr hI.f (fun x => by rcases x with x | x; omega; have := hv5lt' _ x; omega)
    have HA6 := Lib.hid hA6
    have hl5b : row5.length ≤ 4500 := by omega
    clear R5' hal hA5 hF15 hF5 hW6 hgx hA6 R4 hb4 hz4 z0 z1 z2
    refine wp_region_loud (by kernel_rfl) (by kernel_rfl) ?frG ?hfrG [6, 7, 10] (VV (rgc M gx v5 e) (rgG b5 (g + 2) e rN)) (rgI (g + 2) M v5 room row5 rN W6) ?h0G ?hobG ?hQG (by decide)
    case hfrG =>
      intro xs
      simp only [fillL]
      go_simp
      exact rfl
    case h0G => exact ⟨(Fr.refl _ W6).drew, fun _ => R5.below ⟨rfl, rfl, rfl, Nat.le_refl _, fun _ _ => rfl⟩, fun _ => R5.hd.below ⟨rfl, rfl, rfl, Nat.le_refl _, fun _ _ => rfl⟩, fun h => (by cases h), fun h => (by cases h)⟩
    case hobG =>
      refine ⟨?_, ?_, ?_, ?_, ?_, ?_, ?_, ?_, ?_, ?_, ?_, trivial⟩
      · -- 0
        intro xs d W hd hn hI hV
        replace hI : RI (g + 2) M v5 room row5 rN W6 (d 7) (d 10) W := hI
        rw [if_neg (by decide)]
        clear hV hd hn hI
        go_simp
        exact rfl
      · -- 1
        intro xs d W hd hn hI hV
        replace hI : RI (g + 2) M v5 room row5 rN W6 (d 7) (d 10) W := hI
        rw [if_neg (by decide)]
        clear hV hd hn hI
        go_simp
        exact rfl
      · -- 2
        intro xs d W hd hn hI hV
        replace hI : RI (g + 2) M v5 room row5 rN W6 (d 7) (d 10) W := hI
        have x1 : xs 1 = .pointer (some ⟨M, 0, none⟩) := hV 1 (hd 1 (by decide))
        rw [if_neg (by decide)]
        clear hV hd hn hI
        go_simp
        exact rfl
      · -- 3
        intro xs d W hd hn hI hV
        replace hI : RI (g + 2) M v5 room row5 rN W6 (d 7) (d 10) W := hI
        have x2 : xs 2 = .pointer (some ⟨M, 0, none⟩) := hV 2 (hd 2 (by decide))
        rw [if_neg (by decide)]
        clear hV hd hn hI
        go_simp
        exact rfl
      · -- 4
        intro xs d W hd hn hI hV
        replace hI : RI (g + 2) M v5 room row5 rN W6 (d 7) (d 10) W := hI
        have x3 : xs 3 = .pointer (some ⟨M, 0, none⟩) := hV 3 (hd 3 (by decide))
        have hda : d 7 = false := hn 7 _ rfl (by decide)
        have c0 : W.cell? ⟨M, 0, none⟩ = some v5 := (hI.a hda).hd.cell 0 _ rfl
        obtain ⟨A5, k5, rfl, -⟩ := own_rd (hI.a hda).ow
        rw [if_neg (by decide)]
        clear hV hd hn hI
        go_simp
        exact rfl
      · -- 5
        intro xs d W hd hn hI hV
        replace hI : RI (g + 2) M v5 room row5 rN W6 (d 7) (d 10) W := hI
        have hx := hfrB _ _ _ hI
        have q0 := hx.cell 0 _ rfl
        have q1 := hx.cell 1 _ rfl
        have q2 := hx.cell 2 _ rfl
        have q3 := hx.cell 3 _ rfl
        have q4 := hx.cell 4 _ rfl
        have q5 := hx.cell 5 _ rfl
        have q6 := hx.cell 6 _ rfl
        have q7 := hx.cell 7 _ rfl
        have q8 := hx.cell 8 _ rfl
        have q9 := hx.cell 9 _ rfl
        rw [if_neg (by decide)]
        clear hV hd hn hI
        go_simp
        exact rfl
      · -- 6
        intro xs d W hd hn hI hV
        replace hI : RI (g + 2) M v5 room row5 rN W6 (d 7) (d 10) W := hI
        have x5 : xs 5 = .agg #[.string e.key.nm, .int .u16 e.key.ty, .int .u16 e.key.cl, .int .u16 e.am.rc, .bool e.am.aa, .slice e.am.an.a e.am.an.n e.am.an.c, .slice e.am.au.a e.am.au.n e.am.au.c, .slice e.am.ex.a e.am.ex.n e.am.ex.c, .int .i64 e.put, .int .i64 e.life] := hV 5 (hd 5 (by decide))
        rw [if_pos (by decide)]
        intro hdn
        have hV' := hV
        clear hV hd hn
        have hb := below_new W (.cells #[.string e.key.nm, .int .u16 e.key.ty, .int .u16 e.key.cl, .int .u16 e.am.rc, .bool e.am.aa, .slice e.am.an.a e.am.an.n e.am.an.c, .slice e.am.au.a e.am.au.n e.am.au.c, .slice e.am.ex.a e.am.ex.n e.am.ex.c, .int .i64 e.put, .int .i64 e.life] 91 )
        have hB := Blk.new W 91 #[.string e.key.nm, .int .u16 e.key.ty, .int .u16 e.key.cl, .int .u16 e.am.rc, .bool e.am.aa, .slice e.am.an.a e.am.an.n e.am.an.c, .slice e.am.au.a e.am.au.n e.am.au.c, .slice e.am.ex.a e.am.ex.n e.am.ex.c, .int .i64 e.put, .int .i64 e.life]
        have hbs : b5 ≤ W.heap.size := by rw [← hb5]; exact hI.f.size
        go_simp
        refine ⟨hI.below hb, ⟨_, rfl, hbs, hB⟩, fun j hj => VV.any2 (hV' j hj) (fun h => rgG_keep h (fun h => h.below hb) (fun h => own_below h hb))⟩
      · -- 7
        intro xs d W hd hn hI hV
        replace hI : RI (g + 2) M v5 room row5 rN W6 (d 7) (d 10) W := hI
        have x4 : xs 4 = v5 := hV 4 (hd 4 (by decide))
        have g6 : rgA b5 e (xs 6) W := hV 6 (hd 6 (by decide))
        rw [if_pos (by decide)]
        intro hdn
        have hV' := hV
        have hds : d 10 = false := by cases h10 : d 10; rfl; have := hI.e h10; rw [hdn] at this; cases this
        clear hV hd hn
        obtain ⟨gg, e11, hg5, hBg⟩ := g6
        have hR := hI.a hdn
        have hbs : b5 ≤ W.heap.size := by rw [← hb5]; exact hI.f.size
        refine ⟨gives_app W W (g + 2) (.tmp 31) (.tmp 33) 60 60 91 reZero 10 120 rfl Try.underlying60 infoEnt rfl (by omega) (by omega) v5 row5.length (res row5) x4 (.own hR.ow) (.slice (some ⟨gg, 0, none⟩) 1 1) 1 e.cells e11 (.slice ⟨rfl, fun h => (by cases h), Nat.le_refl _, fun ad had => by cases had; exact blk_cells hBg⟩ (re_one _)) (Below.refl _ _) (by omega) (by omega) ?_, rfl⟩
        intro u W' _ ho hb hgr
        replace ho := ho (.inl (by omega))
        have hf : Fr (fun k => k = M ∨ v5.ownBlock = some k) W W' := (Fr.refl _ W).grown hgr (fun i hi => .inl (.inr hi))
        refine ⟨⟨hI.f.trans' hf, fun h => (by rw [show upd d 7 true 7 = true from upd_self _ _ _] at h; cases h), fun _ => (hI.b hds).grown hgr (fun e => hR.ne e.symm), fun h => (by rw [show upd d 7 true 10 = d 10 from upd_ne _ _ (by decide), hds] at h; cases h), fun _ => upd_self _ _ _⟩, ?_, fun j hj => VV.any2 (hV' j hj) (fun h => rgG_keep2 h (fun e => by subst e; rw [hdn] at hj; cases hj) (fun h => h.fr hf hgS))⟩
        show W'.ownsRow _ _ _ u rN.length (res rN)
        rw [HRO.out, List.length_append, res_snoc]
        exact ho
      · -- 8
        intro xs d W hd hn hI hV
        replace hI : RI (g + 2) M v5 room row5 rN W6 (d 7) (d 10) W := hI
        have x0 : xs 0 = .pointer (some ⟨M, 0, none⟩) := hV 0 (hd 0 (by decide))
        rw [if_neg (by decide)]
        clear hV hd hn hI
        go_simp
        exact rfl
      · -- 9
        intro xs d W hd hn hI hV
        replace hI : RI (g + 2) M v5 room row5 rN W6 (d 7) (d 10) W := hI
        have x8 : xs 8 = .pointer (some ⟨M, 0, none⟩) := hV 8 (hd 8 (by decide))
        rw [if_neg (by decide)]
        clear hV hd hn hI
        go_simp
        exact rfl
      · -- 10
        intro xs d W hd hn hI hV
        replace hI : RI (g + 2) M v5 room row5 rN W6 (d 7) (d 10) W := hI
        have x9 : xs 9 = .pointer (some ⟨M, 0, none⟩) := hV 9 (hd 9 (by decide))
        have g12 : rgB (g + 2) rN (xs 7) W := hV 7 (hd 7 (by decide))
        have hda : d 7 = true := hd 7 (by decide)
        rw [if_pos (by decide)]
        intro hdn
        have hV' := hV
        clear hV hd hn
        unfold rgB at g12
        have hB := hI.b hdn
        have c0 := hB.cell 0 _ rfl
        have f0 := hB.free 0
        obtain ⟨A6, k6, e12, -⟩ := own_rd g12
        rw [e12] at g12
        have hfs : Fr (fun k => k = M) W (W.setCell ⟨M, 0, none⟩ (.slice A6 rN.length k6)) := (Fr.refl _ W).setCell M 0 _ (.inl rfl)
        have hkeep : ∀ u, rgB (g + 2) rN u W → rgB (g + 2) rN u (W.setCell ⟨M, 0, none⟩ (.slice A6 rN.length k6)) := fun u h => own_fr h hfs (fun i hi e => own_ne_blk h hB (by decide) (by rw [← e]; exact hi))
        have HH := Lib.hid (show RI (g + 2) M v5 room row5 rN W6 (upd d 10 true 7) (upd d 10 true 10) (W.setCell ⟨M, 0, none⟩ (.slice A6 rN.length k6)) ∧ ∀ j, d j = true → VV (rgc M gx v5 e) (rgG b5 (g + 2) e rN) j (xs j) (W.setCell ⟨M, 0, none⟩ (.slice A6 rN.length k6)) from ⟨⟨hI.f.trans' (hfs.mono (fun i _ hi => .inl hi)), fun h => (by rw [show upd d 10 true 7 = d 7 from upd_ne _ _ (by decide), hda] at h; cases h), fun h => (by rw [show upd d 10 true 10 = true from upd_self _ _ _] at h; cases h), fun _ => ⟨_, hB.set 0 _, hkeep _ g12⟩, fun _ => by rw [show upd d 10 true 7 = d 7 from upd_ne _ _ (by decide)]; exact hda⟩, fun j hj => VV.any2 (hV' j hj) (fun h => rgG_keep h (fun h => h.fr hfs (fun i hi => hgS i (.inl hi))) (hkeep _))⟩)
        clear hI hV' g12 hfs hkeep hB
        go_simp
        exact ⟨HH.out.1, rfl, HH.out.2⟩
    case hQG =>
      intro xs W7 hI hV
      replace hI : RI (g + 2) M v5 room row5 rN W6 true true W7 := hI
      obtain ⟨u, R7⟩ := hI.c rfl
      have hX7 := hfrB _ _ _ hI
      have hA7 := HA6.out.fr hI.f (fun x => by rcases x with x | x; omega; have := hv5ge _ x; omega)
      have hF7 : Fr (fun k => k = M) W W7 := hF16.trans (hI.f.mono (fun i _ hi => by
        rcases hi with hi | hi
        · exact .inl hi
        · exact .inr (by have := hv5ge i hi; have := HG.out; omega)))
      clear hI hV hF16 hfrB hgS hXe R5
      obtain ⟨⟨hek, hea, hes, hep, hel⟩, heap⟩ := HEO.out
      have p8 := hX7.cell 8 _ rfl
      have hcb := HCB.out
      have hage0 : 0 ≤ (if e.put < cn then cn - e.put else 0) / 10 := by split <;> omega
      have hage1 : (if e.put < cn then cn - e.put else 0) / 10 ≤ 4611686018427387904 := by split <;> omega
      have hagv : ageV cn e.e = (if e.put < cn then cn - e.put else 0) / 10 := age_max cn e.put e.e rfl
      have p0 := hep.1
      have p1 := hep.2
      go_upto_region 8 with fail
      obtain ⟨mx, hmx⟩ : ∃ x, (if e.put < cn then cn - e.put else 0) = x := ⟨_, rfl⟩
      rw [hmx] at hage0 hage1 hagv ⊢
      clear hmx
      obtain ⟨ag, hag⟩ : ∃ x, mx / 10 = x := ⟨_, rfl⟩
      rw [hag] at hage0 hage1 hagv ⊢
      have HAG := Lib.hid (And.intro hage0 (And.intro hage1 hagv))
      have p3 := hX7.cell 3 _ rfl
      have p4 := hX7.cell 4 _ rfl
      have p5 := hX7.cell 5 _ rfl
      have p6 := hX7.cell 6 _ rfl
      have p7 := hX7.cell 7 _ rfl
      clear hag hage0 hage1 hagv p8 p0 p1 hcb
      go_upto_region 10 with fail
      have hBa := Blk.new W7 28 #[.int .u16 e.am.rc, .bool false, .slice e.am.an.a e.am.an.n e.am.an.c, .slice e.am.au.a e.am.au.n e.am.au.c, .slice e.am.ex.a e.am.ex.n e.am.ex.c]
      have hbal := below_new W7 (.cells #[.int .u16 e.am.rc, .bool false, .slice e.am.an.a e.am.an.n e.am.an.c, .slice e.am.au.a e.am.au.n e.am.au.c, .slice e.am.ex.a e.am.ex.n e.am.ex.c] 28)
      have hF8 := hF7.alloc (.cells #[.int .u16 e.am.rc, .bool false, .slice e.am.an.a e.am.an.n e.am.an.c, .slice e.am.au.a e.am.au.n e.am.au.c, .slice e.am.ex.a e.am.ex.n e.am.ex.c] 28)
      have hK8 := Fr.refl (fun k => k = W7.heap.size) (W7.alloc (.cells #[.int .u16 e.am.rc, .bool false, .slice e.am.an.a e.am.an.n e.am.an.c, .slice e.am.au.a e.am.au.n e.am.au.c, .slice e.am.ex.a e.am.ex.n e.am.ex.c] 28))
      have R7a := R7.below hbal
      have hA7a := hA7.below hbal
      have hwg : W.heap.size ≤ W7.heap.size := hF7.size
      have hu7 := R7.rb
      have hu8 : ∀ i, RB u i → i < W7.heap.size := fun i hi => R7.ref.rb_lt i hi
      have hM7 : M < W7.heap.size := R7.hd.lt
      have hg7 : g + 1 < W7.heap.size := hA7.lt
      obtain ⟨gA, hgA⟩ : ∃ x, W7.heap.size = x := ⟨_, rfl⟩
      obtain ⟨W8, hW8⟩ : ∃ x, W7.alloc (.cells #[.int .u16 e.am.rc, .bool false, .slice e.am.an.a e.am.an.n e.am.an.c, .slice e.am.au.a e.am.au.n e.am.au.c, .slice e.am.ex.a e.am.ex.n e.am.ex.c] 28) = x := ⟨_, rfl⟩
      rw [hW8] at hBa hF8 hK8 R7a hA7a ⊢
      rw [hgA] at hBa hK8 hwg hu8 hM7 hg7 ⊢
      have HFIN := Lib.hid (And.intro R7a (And.intro hA7a (And.intro hu7 (And.intro hu8 hg7))))
      have HF7 := Lib.hid (And.intro hF7 hbal)
      clear R7a hA7a R7 hA7 hX7 hW8 hgA hF7 hbal p3 p4 p5 p6 p7 hu7 hu8
      have hag1 := fun (W' : World) (s : Sl) (hk : s.ok W') (hn : s.n ≤ 30) (hm : ∀ r ∈ s.l, r.nm.size ≤ 2000) => aged_ W' s.a s.n s.c s.l hk.r hk.ok (by omega) (fun r hr => by have := hm r hr; omega) ag HAG.out.1 HAG.out.2.1
      have y0 := hBa.cell 2 _ rfl
      have hk0 := hag1 W8 e.am.an (hea.fr hF8 heap).an hes.an hes.na
      go_upto_region 11 with (first | (go_at_call 46; refine hk0.mono ?_; clear hk0; rintro e9 W9 ⟨v0, rfl, o0, hb0⟩; obtain ⟨D0, d0, rfl, -⟩ := own_rd o0; have hC0 := hBa.below hb0; have f0 := hC0.free 2; have x0 := hC0.cell 2 _ rfl))
      have hD0 : Blk (W9.setCell ⟨gA, 2, none⟩ (.slice D0 e.am.an.n d0)) gA 28 [.int .u16 e.am.rc, .bool false, .slice D0 e.am.an.n d0, .slice e.am.au.a e.am.au.n e.am.au.c, .slice e.am.ex.a e.am.ex.n e.am.ex.c] := hC0.set 2 (.slice D0 e.am.an.n d0)
      have hFs0 := fr_set W9 gA 2 (.slice D0 e.am.an.n d0)
      have hF90 := (hF8.trans' (Fr.of_below hb0)).trans (hFs0.mono (fun i _ hi => .inr (by have e9 : i = gA := hi; omega)))
      have hK90 := (hK8.trans' (Fr.of_below hb0)).trans' hFs0
      have hs0 : W.heap.size ≤ W8.heap.size := hF8.size
      have p00 := own_fr o0 hFs0 (fun i hi e9 => own_ne_blk o0 hC0 (by decide) (by rw [← (show i = gA from e9)]; exact hi))
      obtain ⟨X1, hX0⟩ : ∃ x, W9.setCell ⟨gA, 2, none⟩ (.slice D0 e.am.an.n d0) = x := ⟨_, rfl⟩
      rw [hX0] at hD0 hF90 hK90 p00 ⊢
      clear hX0 hC0 f0 x0 y0 hBa hF8 hK8 hFs0 o0
      have y1 := hD0.cell 3 _ rfl
      have hk1 := hag1 X1 e.am.au (hea.fr hF90 heap).au hes.au hes.nu
      go_upto_region 12 with (first | (go_at_call 46; refine hk1.mono ?_; clear hk1; rintro e9 W10 ⟨v1, rfl, o1, hb1⟩; obtain ⟨D1, d1, rfl, -⟩ := own_rd o1; have hC1 := hD0.below hb1; have f1 := hC1.free 3; have x1 := hC1.cell 3 _ rfl))
      have hD1 : Blk (W10.setCell ⟨gA, 3, none⟩ (.slice D1 e.am.au.n d1)) gA 28 [.int .u16 e.am.rc, .bool false, .slice D0 e.am.an.n d0, .slice D1 e.am.au.n d1, .slice e.am.ex.a e.am.ex.n e.am.ex.c] := hC1.set 3 (.slice D1 e.am.au.n d1)
      have hFs1 := fr_set W10 gA 3 (.slice D1 e.am.au.n d1)
      have hF91 := (hF90.trans' (Fr.of_below hb1)).trans (hFs1.mono (fun i _ hi => .inr (by have e9 : i = gA := hi; omega)))
      have hK91 := (hK90.trans' (Fr.of_below hb1)).trans' hFs1
      have hs1 : W.heap.size ≤ X1.heap.size := hF90.size
      have p01 := own_fr (own_below p00 hb1) hFs1 (fun i hi e9 => own_ne_blk (own_below p00 hb1) hC1 (by decide) (by rw [← (show i = gA from e9)]; exact hi))
      have p11 := own_fr o1 hFs1 (fun i hi e9 => own_ne_blk o1 hC1 (by decide) (by rw [← (show i = gA from e9)]; exact hi))
      obtain ⟨X2, hX1⟩ : ∃ x, W10.setCell ⟨gA, 3, none⟩ (.slice D1 e.am.au.n d1) = x := ⟨_, rfl⟩
      rw [hX1] at hD1 hF91 hK91 p01 p11 ⊢
      clear hX1 hC1 f1 x1 y1 hD0 hF90 hK90 hFs1 p00 o1
      have y2 := hD1.cell 4 _ rfl
      have hk2 := hag1 X2 e.am.ex (hea.fr hF91 heap).ex hes.ex hes.nx
      go_upto_region 13 with (first | (go_at_call 46; refine hk2.mono ?_; clear hk2; rintro e9 W11 ⟨v2, rfl, o2, hb2⟩; obtain ⟨D2, d2, rfl, -⟩ := own_rd o2; have hC2 := hD1.below hb2; have f2 := hC2.free 4; have x2 := hC2.cell 4 _ rfl))
      have hD2 : Blk (W11.setCell ⟨gA, 4, none⟩ (.slice D2 e.am.ex.n d2)) gA 28 [.int .u16 e.am.rc, .bool false, .slice D0 e.am.an.n d0, .slice D1 e.am.au.n d1, .slice D2 e.am.ex.n d2] := hC2.set 4 (.slice D2 e.am.ex.n d2)
      have hFs2 := fr_set W11 gA 4 (.slice D2 e.am.ex.n d2)
      have hF92 := (hF91.trans' (Fr.of_below hb2)).trans (hFs2.mono (fun i _ hi => .inr (by have e9 : i = gA := hi; omega)))
      have hK92 := (hK91.trans' (Fr.of_below hb2)).trans' hFs2
      have hs2 : W.heap.size ≤ X2.heap.size := hF91.size
      have p02 := own_fr (own_below p01 hb2) hFs2 (fun i hi e9 => own_ne_blk (own_below p01 hb2) hC2 (by decide) (by rw [← (show i = gA from e9)]; exact hi))
      have p12 := own_fr (own_below p11 hb2) hFs2 (fun i hi e9 => own_ne_blk (own_below p11 hb2) hC2 (by decide) (by rw [← (show i = gA from e9)]; exact hi))
      have p22 := own_fr o2 hFs2 (fun i hi e9 => own_ne_blk o2 hC2 (by decide) (by rw [← (show i = gA from e9)]; exact hi))
      obtain ⟨X3, hX2⟩ : ∃ x, W11.setCell ⟨gA, 4, none⟩ (.slice D2 e.am.ex.n d2) = x := ⟨_, rfl⟩
      rw [hX2] at hD2 hF92 hK92 p02 p12 p22 ⊢
      clear hX2 hC2 f2 x2 y2 hD1 hF91 hK91 hFs2 p01 p11 o2
      have hAF := HFIN.out.2.1.fr hK92 (by have := HFIN.out.2.2.2.2; show ¬ g + 1 = gA; omega)
      have HRES := Lib.hid (And.intro p02 (And.intro p12 (And.intro p22 (And.intro hF92 hK92))))
      clear p02 p12 p22 hF92 hK92 hag1
      go_wp2_with (first | (refine wpList_get rfl 28 (.tmp 11) rfl gA rfl 28 [.int .u16 e.am.rc, .bool false, .slice D0 e.am.an.n d0, .slice D1 e.am.au.n d1, .slice D2 e.am.ex.n d2] _ hD2 Try.underlying28 rfl sizeAns ?_) | (refine wpList_put rfl 28 (.tmp 6) (.tmp 61) rfl (g + 1) #[.int .u16 e.am.rc, .bool false, .slice D0 e.am.an.n d0, .slice D1 e.am.au.n d1, .slice D2 e.am.ex.n d2] rfl rfl 28 _ hAF sizeAns rfl rfl ?_))
      refine bodyPost_ret (results_rec rfl _ _ _ _ _ rfl (hAF.row #[.int .u16 e.am.rc, .bool false, .slice D0 e.am.an.n d0, .slice D1 e.am.au.n d1, .slice D2 e.am.ex.n d2]) Try.underlying28 rfl sizeAns) rfl ?_
      obtain ⟨hR7, _, hu7, hu8, hg7⟩ := HFIN.out
      obtain ⟨p02, p12, p22, hF92, hK92⟩ := HRES.out
      have hgG := HG.out
      have hfz := (Fr.refl (fun i => i = g + 1) X3).setRow (g + 1) #[.int .u16 e.am.rc, .bool false, .slice D0 e.am.an.n d0, .slice D1 e.am.au.n d1, .slice D2 e.am.ex.n d2] (.inl rfl)
      have hRf := (hR7.ref.fr hK92 (by show ¬ M = gA; omega) (fun i hi e9 => by have := hu8 i hi; have e9' : i = gA := e9; omega)).fr hfz (by show ¬ M = g + 1; omega) (fun i hi e9 => by have := hu7 i hi; have e9' : i = g + 1 := e9; omega)
      have hfin : ∀ (v : Value) (n : Nat) (cs : List Value) (B : Nat), W.heap.size ≤ B → X3.ownsRow B 46 12 v n cs → (X3.setRow (g + 1) #[.int .u16 e.am.rc, .bool false, .slice D0 e.am.an.n d0, .slice D1 e.am.au.n d1, .slice D2 e.am.ex.n d2]).ownsRow W.heap.size 46 12 v n cs := fun v n cs B hB ho => own_lower (own_fr ho hfz (fun i hi e9 => own_ne_blk ho hAF (by decide) (by rw [← (show i = g + 1 from e9)]; exact hi))) hB
      have q1 := hfin _ _ _ _ hs0 p02
      have q2 := hfin _ _ _ _ hs1 p12
      have q3 := hfin _ _ _ _ hs2 p22
      rw [← hP]
      refine ⟨u, rN, by rw [HRO.out, List.map_append]; rfl, hRf, hF92.setRow (g + 1) _ (.inr (by omega)), fun i hi => by have := hu7 i hi; omega, fun e' he' => ?_, _, _, _, rfl, ?_, ?_, ?_⟩
      · rw [HRO.out] at he'
        rcases List.mem_append.1 he' with h9 | h9
        · exact HSM.out e' (HM5.out e' h9)
        · obtain rfl : e' = e := by simpa using h9
          exact HSM.out _ (HFM.out _ rfl)
      · rw [HAG.out.2.2]
        show World.ownsRow _ _ _ _ _ e.am.an.l.length (rcs (e.am.an.l.map (agedR ag)))
        rw [hea.an.len]
        exact q1
      · rw [HAG.out.2.2]
        show World.ownsRow _ _ _ _ _ e.am.au.l.length (rcs (e.am.au.l.map (agedR ag)))
        rw [hea.au.len]
        exact q2
      · rw [HAG.out.2.2]
        show World.ownsRow _ _ _ _ _ e.am.ex.l.length (rcs (e.am.ex.l.map (agedR ag)))
        rw [hea.ex.len]
        exact q3
end Go.Proofs.Ytioehogncgloiaa
