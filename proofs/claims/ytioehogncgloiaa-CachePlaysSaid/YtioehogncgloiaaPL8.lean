/- The law CachePlays. -/
import Derived.Test.YtioehogncgloiaaPL7
namespace Go.Proofs.Ytioehogncgloiaa
open Go.RowKit Go.HL Go.Maps Go.WideShapes
set_option linter.unusedVariables false
set_option linter.unusedSimpArgs false
def kc (C M : Nat) (v : Value) (m : Nat) : List (Option Value) := [some (.pointer (some ⟨C, 0, none⟩)), some (.int .i64 (m : Int)), some (.pointer (some ⟨M, 0, none⟩)), some (.pointer (some ⟨M, 0, none⟩)), some (.pointer (some ⟨M, 0, none⟩)), some v, some (.int .i64 (m : Int)), some (.bool false), some (.bool false), some (.pointer (some ⟨C, 0, none⟩)), none, some (.pointer (some ⟨M, 0, none⟩)), none, some (.bool true), some (.bool false), some (.bool false)]
def kG (B m : Nat) (ks : List Qn) : Nat → Value → World → Prop
  | 10, u, W => W.ownsRow B 25 3 u m (qns ks)
  | 12, u, W => W.ownsRow B 25 3 u m (qns ks)
  | _, _, _ => True
theorem kG_st (B m : Nat) (ks : List Qn) : ∀ j u W W', Below W.heap.size W W' → kG B m ks j u W → kG B m ks j u W' := by
  intro j u W W' hb h
  unfold kG at h ⊢
  split at h
  · exact own_below h hb
  · exact own_below h hb
  · trivial
theorem putV_len1 {room : Int} {l : List Ae} {q : Qn} {rc : Int} {an au ex : List Rc} {now : Int} : (putV room l q rc an au ex now).1.length ≤ l.length + 1 := by
  have h2 := sweepV_len (clockV now) l
  have h3 := rmV_len (foldQ q) (sweepV (clockV now) l)
  unfold putV
  split
  · simp only; omega
  · split
    · simp only [List.length_drop, List.length_append, List.length_cons, List.length_nil]; omega
    · simp only [List.length_append, List.length_cons, List.length_nil]; omega
theorem blk_mid {P : Program} {w : World} {g : Nat} {t : TypeId} {cs : List Value} (h : Blk w g t cs) (o : Nat) (vs : List Value) (ho : o + vs.length ≤ cs.length) (h1 : ∀ v ∈ vs, v.oneCell' = true) :
    ∃ w', (storeCells ⟨g, o, none⟩ vs 0).run P w = .ok () w' ∧ (∃ cs', Blk w' g t cs' ∧ cs'.length = cs.length) ∧ Fr (fun k => k = g) w w' := by
  have hst := run_storeCells_at P g o t vs 0 cs.toArray w h (by simpa using ho) h1
  refine ⟨_, hst, ⟨_, h.row _, ?_⟩, (Fr.refl _ w).setRow g _ (.inl rfl)⟩
  simp only [List.length_append, List.length_take, List.length_drop, Array.length_toList]
  simp
  omega
section
variable {P : Program} {ops : Array Oper} {rest : List Oper} {o : Oper} {a : Act} {w : World} {Q : Exit → Act → World → Prop}
theorem wpList_putAt (hgd : o.guard = none) (ty : TypeId) (x y : Operand) (ho : o.op = .store ty x y) (ad : Addr) (vs : List Value) (hx : a.eval x = .pointer (some ad)) (hy : a.eval y = .agg vs.toArray)
    (hi : (P.info? ty).map (·.size) = some vs.length) (w' : World) (hst : (storeCells ad vs 0).run P w = .ok () w') (h : wpList P ops Q rest (a.put o.dst undef) w') : wpList P ops Q (o :: rest) a w := by
  have hrun : (storeVar ty ad (.agg vs.toArray)).run P w = .ok () w' := by
    cases hq : P.info? ty with
    | none => simp [hq] at hi
    | some i =>
      have hs : vs.length = i.size := by simp [hq] at hi; omega
      simp [storeVar, sizeOf, typeInfo, hq, Value.cells, hs, hst]
  refine wpList_plain hgd fun K hK => ?_
  unfold Oper.wp execOp
  simp only [ho, hx, hy, Instr.storeAt, Instr.sureAddr, Sem.run_bind, Sem.run_pure, Result.andThen_ok, hrun]
  exact hK _ _ h
end
theorem rs_of {W : World} {s : Sl} (h : s.ok W) (hn : s.n ≤ 30) : RsW W (.slice s.a s.n s.c) s.l := ⟨s.a, s.n, s.c, rfl, h.r, by omega⟩
set_option maxRecDepth 8000 in
set_option maxHeartbeats 30000000 in
theorem cachePlays_walk (w : World) (en : Int) (A : Option Addr) (n c : Nat) (L : List St) (e0 : -9223372036854775808 ≤ en) (e1 : en ≤ 9223372036854775807) (hS : Sts w A n c L) : Calls Try.prog 5 #[.int .i64 en, .slice A n c] w (Tells w (.bool true)) := by
  have hhv := heavy_ w A n c L hS
  have hhs : Calls Try.prog 15 #[.slice A n c] w fun e w' => (e = .returned (.bool true) ∧ Below w.heap.size w w') ∨ (e = .returned (.bool false) ∧ SmallS n L ∧ Below w.heap.size w w') := hhv.mono (by rintro e w' ⟨b, h, h', hb⟩; cases b; exact .inr ⟨h, h' rfl, hb⟩; exact .inl ⟨h, hb⟩)
  clear hhv
  go_enter Try.func5, Try.ntmps5
  by_cases hbad : en < 1 ∨ 4096 < en
  · have n1 := fun W => new_bad W en hbad
    have n2 := fun W => rnew_bad W en hbad
    unfold ptr at n1 n2
    simp only [Option.map] at n1 n2
    clear hbad
    go_wp2_with (first | (go_at_call 15; refine hhs.mono ?_; clear hhs; rintro e W0 (⟨rfl, hb0⟩ | ⟨rfl, hsm, hb0⟩)) | (go_at_call 9; refine (n1 _).mono ?_; clear n1; rintro e W1 ⟨rfl, rfl⟩) | (go_at_call 18; refine (n2 _).mono ?_; clear n2; rintro e W2 ⟨rfl, rfl⟩) | (go_at_call 13; refine (keeps_ _).mono ?_; rintro e W3 ⟨rfl, hb3⟩))
    · go_ret
      exact ⟨rfl, hb0⟩
    · go_ret
      exact ⟨rfl, below_trans hb0 hb3⟩
  have hn1 : 1 ≤ en := by omega
  have hn2 : en ≤ 4096 := by omega
  clear hbad e0 e1
  go_upto_region 3 with (first | (go_at_call 15; refine hhs.mono ?_; clear hhs; rintro e W0 (⟨rfl, hb0⟩ | ⟨rfl, hsm, hb0⟩)))
  · go_wp2
    go_ret
    exact ⟨rfl, hb0⟩
  have hnew := new_ W0 en hn1 hn2
  obtain ⟨lo, hlo⟩ : ∃ x, W0.heap.size = x := ⟨_, rfl⟩
  obtain ⟨C, hC⟩ : ∃ x, lo + 1 = x := ⟨_, rfl⟩
  have hwb : w.heap.size ≤ lo := by rw [← hlo]; exact hb0.size
  rw [hlo, hC] at hnew
  have hrn := fun W => rnew_ W en hn1 hn2
  unfold ptr at hnew hrn
  simp only [Option.map] at hnew hrn
  go_upto_region 9 with (first | (go_at_call 9; refine hnew.mono ?_; clear hnew; rintro e W1 ⟨rfl, hc1, hb1⟩) | (go_at_call 18; refine (hrn _).mono ?_; clear hrn; rintro e W2 ⟨rfl, hr2, hb2⟩))
  have hB1 : Below w.heap.size w W1 := by rw [← hlo] at hb1; exact below_trans hb0 hb1
  have hCH1 : ∀ x, CH C lo [] x → lo ≤ x ∧ x < W1.heap.size := fun x hx => ⟨(by
    rcases hx with (hx | hx | hx) | ⟨c, hc, _⟩
    · omega
    · omega
    · cases hx
    · cases hc), CH.lt hc1 x hx⟩
  have hz1 : lo ≤ W1.heap.size := by rw [← hlo]; exact hb1.size
  obtain ⟨M, hM⟩ : ∃ x, W1.heap.size = x := ⟨_, rfl⟩
  have hz2 := hb2.size
  have P0 : PI w lo C M en 0 [] (.slice none 0 0) [] W2 := ⟨hc1.below hb2, by rw [← hM]; exact hr2, rfl, by simp; omega, Nat.le_refl _, fun x hx => ⟨(hCH1 x hx).1, by have := (hCH1 x hx).2; omega, fun h => by obtain ⟨A, n, c, h, _⟩ := h; cases h⟩, by omega, fun x h => (by obtain ⟨A, n, c, h, _⟩ := h; cases h), fun e he => (by cases he), below_trans hB1 hb2, hwb, by omega⟩
  rw [hM]
  have hlen := hS.len
  have hn150 := hsm.1
  have HS := Lib.hid hS
  have HSM := Lib.hid hsm
  clear hc1 hr2 hb1 hb2 hB1 hCH1 hM hz1 hz2 hlo hC hb0 hS hsm
  go_wp2
  go_loopw [9] (fun i wr => ∃ (k : Nat) (row : List Ce) (v : Value) (rrow : List Re), k ≤ n ∧ i = .int .i64 k ∧ PI w lo C M en k row v rrow wr) (fun i _ => n - (intOf i).toNat)
  case atStart => exact ⟨0, [], _, [], Nat.zero_le _, rfl, P0⟩
  case round =>
    clear P0
    obtain ⟨k, row, v, rrow, hk, rfl, P⟩ := hrel
    by_cases hlt : k < n
    · obtain ⟨s, hsk⟩ : ∃ s, L[k]? = some s := ⟨_, List.getElem?_eq_getElem (show k < L.length by omega)⟩
      have hsin := List.mem_of_getElem? hsk
      have hso := HS.out.ok s hsin
      have hss := HSM.out.2 s hsin
      cases A with
      | none => have := (HS.out.r.nil_ rfl).1; omega
      | some ad =>
      have hcs : Cells wr (ad.add (k * 10)) [.bool s.put, .string s.q.nm, .int .u16 s.q.ty, .int .u16 s.q.cl, .int .u16 s.a.rc, .bool s.a.aa, .slice s.a.an.a s.a.an.n s.a.an.c, .slice s.a.au.a s.a.au.n s.a.au.c, .slice s.a.ex.a s.a.ex.n s.a.ex.c, .int .i64 s.now] := (HS.out.below P.b).at k s hsk
      have hki : (k : Int) < (n : Int) := by omega
      go_upto_region 13 with (first | (refine wpList_getAt rfl 51 (.tmp 52) rfl (ad.add (k * 10)) rfl [.bool s.put, .string s.q.nm, .int .u16 s.q.ty, .int .u16 s.q.cl, .int .u16 s.a.rc, .bool s.a.aa, .slice s.a.an.a s.a.an.n s.a.an.c, .slice s.a.au.a s.a.au.n s.a.au.c, .slice s.a.ex.a s.a.ex.n s.a.ex.c, .int .i64 s.now] _ hcs Try.underlying51 rfl sizeStep ?_))
      have hX := Blk.new wr 51 #[.bool s.put, .string s.q.nm, .int .u16 s.q.ty, .int .u16 s.q.cl, .int .u16 s.a.rc, .bool s.a.aa, .slice s.a.an.a s.a.an.n s.a.an.c, .slice s.a.au.a s.a.au.n s.a.au.c, .slice s.a.ex.a s.a.ex.n s.a.ex.c, .int .i64 s.now]
      have b1 := below_new wr (.cells #[.bool s.put, .string s.q.nm, .int .u16 s.q.ty, .int .u16 s.q.cl, .int .u16 s.a.rc, .bool s.a.aa, .slice s.a.an.a s.a.an.n s.a.an.c, .slice s.a.au.a s.a.au.n s.a.au.c, .slice s.a.ex.a s.a.ex.n s.a.ex.c, .int .i64 s.now] 51)
      have P3 := P.below b1
      have hgx := P.held wr.heap.size (Nat.le_refl _)
      obtain ⟨gx, hgxe⟩ : ∃ x, wr.heap.size = x := ⟨_, rfl⟩
      obtain ⟨W3, hW3⟩ : ∃ x, wr.alloc (.cells #[.bool s.put, .string s.q.nm, .int .u16 s.q.ty, .int .u16 s.q.cl, .int .u16 s.a.rc, .bool s.a.aa, .slice s.a.an.a s.a.an.n s.a.an.c, .slice s.a.au.a s.a.au.n s.a.au.c, .slice s.a.ex.a s.a.ex.n s.a.ex.c, .int .i64 s.now] 51) = x := ⟨_, rfl⟩
      rw [hW3] at hX P3 ⊢
      rw [hgxe] at hX hgx ⊢
      clear hcs hW3 hgxe b1 P
      obtain ⟨sp, sq, sa, sn⟩ := s
      dsimp only at hX ⊢
      have hsqo : sq.ok := hso.q
      have hsq20 : sq.nm.size ≤ 2000 := hss.2
      have hsas : sa.small := hss.1
      have hsao : sa.ok w := hso.a
      clear hso hss hsin hsk
      have HX := Lib.hid hX
      have x0 := hX.cell 0 _ rfl
      have x1 := hX.cell 1 _ rfl
      have x2 := hX.cell 2 _ rfl
      have x3 := hX.cell 3 _ rfl
      have x4 := hX.cell 4 _ rfl
      have x5 := hX.cell 5 _ rfl
      have x6 := hX.cell 6 _ rfl
      have x7 := hX.cell 7 _ rfl
      have x8 := hX.cell 8 _ rfl
      have x9 := hX.cell 9 _ rfl
      clear hX
      cases sp
      · skip
        have hget := get_ W3 C lo en row P3.c sq hsqo hsq20 sn
        have hrl : rrow.length = row.length := by have := congrArg List.length P3.eq; rw [List.length_map, List.length_map] at this; exact this
        have hrget := fun W (h : RefW W M v en rrow) (hb : Below w.heap.size w W) => rget_ W M v en rrow h (fun e he => ⟨(P3.ok e he).below hb, (P3.ok e he).am.low.mono (fun i hi => by have e9 : i = M := hi; have := P3.lm; have := P3.z; omega)⟩) (by have := P3.lk; omega) sq hsq20 sn
        rw [P3.eq] at hrget
        have hgl := getV_len (l := row.map Ce.e) (q := sq) (now := sn)
        rw [List.length_map] at hgl
        have hgs : ∀ e, (getV (row.map Ce.e) sq sn).2 = some e → e.an.length ≤ 30 ∧ e.au.length ≤ 30 ∧ e.ex.length ≤ 30 := fun e he => by
          have h1 := (getV_some he).2.2
          unfold sweepV at h1
          obtain ⟨c, hc, rfl⟩ := List.mem_map.1 (List.mem_filter.1 h1).1
          have := (P3.c.ok c hc).e
          exact ⟨this.na, this.nu, this.nx⟩
        obtain ⟨GV, hGV⟩ : ∃ x, getV (row.map Ce.e) sq sn = x := ⟨_, rfl⟩
        rw [hGV] at hget hrget hgl hgs
        clear hGV
        obtain ⟨GL, GO⟩ := GV
        simp only at hget hrget hgl hgs
        have hrm := fun (Y1 Y2 Y3 : World) (row' : List Ce) (v' : Value) (rrow' : List Re) (he' : row'.map Ce.e = GL) (hl' : Left W3 C lo en row row' Y1) (hb : Below Y1.heap.size Y1 Y2) (h1 : rrow'.map Re.e = GL) (h2 : RefW Y3 M v' en rrow') (h3 : Fr (fun k => k = M) Y2 Y3) (h4 : ∀ i, RB v' i → Y2.heap.size ≤ i) (h5 : ∀ e ∈ rrow', e ∈ rrow) => P3.step hl' hb h2 h3 h4 (k' := k + 1) (h1.trans he'.symm) (by have := congrArg List.length he'; rw [List.length_map] at this; have := P3.len; omega) (by have := congrArg List.length he'; rw [List.length_map] at this; have := P3.lk; omega) (fun e he => P3.ok e (h5 e he))
        unfold ptr Qn.val at hget hrget
        simp only [Option.map] at hget hrget
        have HRM := Lib.hid hrm
        have HGL := Lib.hid (And.intro hgl hrl)
        clear hrm hgl hrl
        cases GO with
        | none =>
          go_upto_region 27 with (first | (go_at_call 11; refine hget.mono ?_; clear hget; rintro e9 Y1 ⟨row', he', hl', hh', hgp⟩; obtain rfl : e9 = .returned (.tuple #[.agg #[.int .u16 0, .bool false, .slice none 0 0, .slice none 0 0, .slice none 0 0], .bool false]) := hgp))
          have hGA := Blk.new Y1 28 #[.int .u16 0, .bool false, .slice none 0 0, .slice none 0 0, .slice none 0 0]
          have b2 := below_new Y1 (.cells #[.int .u16 0, .bool false, .slice none 0 0, .slice none 0 0, .slice none 0 0] 28 )
          have hr2 := (P3.refW hl').below b2
          have hw2 := below_trans (P3.belowW hl') b2
          have hMa : M < Y1.heap.size := by have := P3.r.hd.lt; have := hl'.f.size; omega
          have hXY := (HX.out.fr hl'.f (fun h => hgx.2.1 (.inl h))).below b2
          obtain ⟨ga, hga⟩ : ∃ x, Y1.heap.size = x := ⟨_, rfl⟩
          obtain ⟨Y2, hY2⟩ : ∃ x, Y1.alloc (.cells #[.int .u16 0, .bool false, .slice none 0 0, .slice none 0 0, .slice none 0 0] 28 ) = x := ⟨_, rfl⟩
          have hb2' : Below Y1.heap.size Y1 Y2 := by rw [← hY2]; exact b2
          rw [hY2] at hGA hr2 hw2 hXY ⊢
          rw [hga] at hGA hMa ⊢
          have hrY := hrget Y2 hr2 hw2
          have w1 := hXY.cell 1 _ rfl
          have w2 := hXY.cell 2 _ rfl
          have w3 := hXY.cell 3 _ rfl
          have w9 := hXY.cell 9 _ rfl
          clear hrget x0 x1 x2 x3 x4 x5 x6 x7 x8 x9 hr2 hw2 hXY hY2 b2
          go_upto_region 28 with (first | (go_at_call 22; refine hrY.mono ?_; clear hrY; rintro e9 Y3 ⟨v', rrow', hr1, hr2, hr3, hr4, hr5, hgp⟩; obtain rfl : e9 = .returned (.tuple #[.agg #[.int .u16 0, .bool false, .slice none 0 0, .slice none 0 0, .slice none 0 0], .bool false]) := hgp))
          have P6 := HRM.out Y1 Y2 Y3 row' v' rrow' he' hl' hb2' hr1 hr2 hr3 hr4 hr5
          have hGA3 := hGA.fr hr3 (show ¬ ga = M by omega)
          have b4 := below_new Y3 (.cells #[.int .u16 0, .bool false, .slice none 0 0, .slice none 0 0, .slice none 0 0] 28 )
          have hGB := Blk.new Y3 28 #[.int .u16 0, .bool false, .slice none 0 0, .slice none 0 0, .slice none 0 0]
          have P7 := P6.below b4
          have hGA4 := hGA3.below b4
          obtain ⟨gb, hgb⟩ : ∃ x, Y3.heap.size = x := ⟨_, rfl⟩
          obtain ⟨Y4, hY4⟩ : ∃ x, Y3.alloc (.cells #[.int .u16 0, .bool false, .slice none 0 0, .slice none 0 0, .slice none 0 0] 28 ) = x := ⟨_, rfl⟩
          rw [hY4] at hGB P7 hGA4 ⊢
          rw [hgb] at hGB ⊢
          have R : ∀ W, RsW W (.slice none 0 0) [] := fun W => ⟨none, 0, 0, rfl, Rd.nil _ _, by omega⟩
          have hsame := same_ Y4 0 false (.slice none 0 0) (.slice none 0 0) (.slice none 0 0) (.slice none 0 0) (.slice none 0 0) (.slice none 0 0) [] [] [] (R _) (R _) (R _) (R _) (R _) (R _)
          have a0 := hGA4.cell 0 _ rfl
          have a1 := hGA4.cell 1 _ rfl
          have a2 := hGA4.cell 2 _ rfl
          have a3 := hGA4.cell 3 _ rfl
          have a4 := hGA4.cell 4 _ rfl
          have c0 := hGB.cell 0 _ rfl
          have c1 := hGB.cell 1 _ rfl
          have c2 := hGB.cell 2 _ rfl
          have c3 := hGB.cell 3 _ rfl
          have c4 := hGB.cell 4 _ rfl
          clear R hY4 b4 P6 hGA3 hGA hr1 hr2 hr3 hr4 hr5 w1 w2 w3 w9
          go_upto_region 30 with (first | (go_at_call 17; refine hsame.mono ?_; clear hsame; rintro e9 Y5 ⟨rfl, hb5⟩))
          have P8 := P7.below hb5
          have a2' := (hGA4.below hb5).cell 2 _ rfl
          have HGA5 := Lib.hid (hGA4.below hb5)
          have HP8 := Lib.hid P8
          clear a0 a1 a2 a3 a4 c0 c1 c2 c3 c4 P7 P8 hGA4 hGB
          go_wp2
          go_loopw [18] (fun i wr => i = .int .i64 0 ∧ wr = Y5) (fun i _ => 0)
          case atStart => exact ⟨rfl, rfl⟩
          case round =>
            obtain ⟨rfl, hwy⟩ := hrel
            have PJ := HP8.out
            rw [← hwy] at PJ a2'
            clear hwy
            go_upto_region 34 with fail
            obtain ⟨AV, cv, rfl, -⟩ := PJ.r.rd
            have hmm : rrow'.length = row'.length := by have := congrArg List.length PJ.eq; rw [List.length_map, List.length_map] at this; exact this
            have hks : rrow'.map Re.key = row'.map (fun c => c.e.key) := by have := congrArg (List.map Ae.key) PJ.eq; rw [List.map_map, List.map_map] at this; exact this
            have hl5 : row'.length ≤ 5000 := by have := PJ.lk; omega
            have hlenK := fun (W : World) (h : Below wr.heap.size wr W) => len_ W C lo en row' (PJ.below h).c
            have hkeyK := fun (W : World) (h : Below wr.heap.size wr W) => keys_ W C lo en row' (PJ.below h).c hl5
            have hrkeyK := fun (W : World) (h : Below wr.heap.size wr W) => rkeys_ W M _ en rrow' (PJ.below h).r (by omega)
            rw [hks, hmm] at hrkeyK
            obtain ⟨m4, hm4⟩ : ∃ x, row'.length = x := ⟨_, rfl⟩
            obtain ⟨ks, hks'⟩ : ∃ x, row'.map (fun c => c.e.key) = x := ⟨_, rfl⟩
            rw [hm4] at hlenK hkeyK hrkeyK hl5
            rw [hmm, hm4] at PJ
            rw [hks'] at hkeyK hrkeyK
            have HPJ := Lib.hid PJ
            have c34 := fun (W : World) (h : Below wr.heap.size wr W) => (PJ.below h).r.hd.cell 0 _ rfl
            unfold ptr at hlenK hkeyK hrkeyK
            simp only [Option.map] at hlenK hkeyK hrkeyK
            clear hks hmm hm4 hks' PJ
            refine wp_region_grow (by kernel_rfl) (by kernel_rfl) ?frN ?hfrN (VV (kc C M (.slice AV m4 cv) m4) (kG wr.heap.size m4 ks)) (VV.stable (kG_st wr.heap.size m4 ks)) ?hobN ?hqN
            case hfrN =>
              intro xs
              simp only [fillL]
              go_simp
              exact rfl
            case hobN =>
              refine ⟨?_, ?_, ?_, ?_, ?_, ?_, ?_, ?_, ?_, ?_, ?_, ?_, ?_, ?_, ?_, ?_, trivial⟩
              · -- 0
                intro xs W hb hA
                clear hA
                go_simp
                exact ⟨Below.refl _ _, rfl⟩
              · -- 1
                intro xs W hb hA
                have x0 : xs 0 = .pointer (some ⟨C, 0, none⟩) := hA 0 (by decide)
                clear hA
                go_simp
                refine (hlenK W hb).mono ?_
                rintro e9 W9 ⟨rfl, rfl⟩
                exact ⟨_, rfl, Below.refl _ _, rfl⟩
              · -- 2
                intro xs W hb hA
                clear hA
                go_simp
                exact ⟨Below.refl _ _, rfl⟩
              · -- 3
                intro xs W hb hA
                have x2 : xs 2 = .pointer (some ⟨M, 0, none⟩) := hA 2 (by decide)
                clear hA
                go_simp
                exact ⟨Below.refl _ _, rfl⟩
              · -- 4
                intro xs W hb hA
                have x3 : xs 3 = .pointer (some ⟨M, 0, none⟩) := hA 3 (by decide)
                clear hA
                go_simp
                exact ⟨Below.refl _ _, rfl⟩
              · -- 5
                intro xs W hb hA
                have x4 : xs 4 = .pointer (some ⟨M, 0, none⟩) := hA 4 (by decide)
                have c0 := c34 W hb
                clear hA
                go_simp
                exact ⟨Below.refl _ _, rfl⟩
              · -- 6
                intro xs W hb hA
                have x5 : xs 5 = .slice AV m4 cv := hA 5 (by decide)
                clear hA
                go_simp
                exact ⟨Below.refl _ _, rfl⟩
              · -- 7
                intro xs W hb hA
                have x1 : xs 1 = .int .i64 (m4 : Int) := hA 1 (by decide)
                have x6 : xs 6 = .int .i64 (m4 : Int) := hA 6 (by decide)
                clear hA
                go_simp
                exact ⟨Below.refl _ _, rfl⟩
              · -- 8
                intro xs W hb hA
                have x7 : xs 7 = .bool false := hA 7 (by decide)
                clear hA
                go_simp
                exact ⟨Below.refl _ _, rfl⟩
              · -- 9
                intro xs W hb hA
                have x8 : xs 8 = .bool false := hA 8 (by decide)
                clear hA
                go_simp
                exact ⟨Below.refl _ _, rfl⟩
              · -- 10
                intro xs W hb hA
                have x9 : xs 9 = .pointer (some ⟨C, 0, none⟩) := hA 9 (by decide)
                have x8 : xs 8 = .bool false := hA 8 (by decide)
                clear hA
                go_simp
                refine (hkeyK W hb).mono ?_
                rintro e9 W9 ⟨u, rfl, ho, hb9⟩
                exact ⟨_, rfl, hb9, own_lower ho hb.size⟩
              · -- 11
                intro xs W hb hA
                have x8 : xs 8 = .bool false := hA 8 (by decide)
                clear hA
                go_simp
                exact ⟨Below.refl _ _, rfl⟩
              · -- 12
                intro xs W hb hA
                have x11 : xs 11 = .pointer (some ⟨M, 0, none⟩) := hA 11 (by decide)
                have x8 : xs 8 = .bool false := hA 8 (by decide)
                clear hA
                go_simp
                refine (hrkeyK W hb).mono ?_
                rintro e9 W9 ⟨u, rfl, ho, hb9⟩
                exact ⟨_, rfl, hb9, own_lower ho hb.size⟩
              · -- 13
                intro xs W hb hA
                have g10 : W.ownsRow wr.heap.size 25 3 (xs 10) m4 (qns ks) := hA 10 (by decide)
                have g12 : W.ownsRow wr.heap.size 25 3 (xs 12) m4 (qns ks) := hA 12 (by decide)
                have x8 : xs 8 = .bool false := hA 8 (by decide)
                clear hA
                obtain ⟨A1, c1, e1, r1⟩ := own_rd g10
                obtain ⟨A2, c2, e2, r2⟩ := own_rd g12
                have hkl := keysL_ W ks A1 m4 c1 r1 A2 m4 c2 r2 hl5
                clear g10 g12 r1 r2
                go_simp
                refine hkl.mono ?_
                rintro e9 W9 ⟨rfl, hb9⟩
                exact ⟨_, rfl, hb9, rfl⟩
              · -- 14
                intro xs W hb hA
                have x13 : xs 13 = .bool true := hA 13 (by decide)
                have x8 : xs 8 = .bool false := hA 8 (by decide)
                clear hA
                go_simp
                exact ⟨Below.refl _ _, rfl⟩
              · -- 15
                intro xs W hb hA
                have x8 : xs 8 = .bool false := hA 8 (by decide)
                have x14 : xs 14 = .bool false := hA 14 (by decide)
                clear hA
                go_simp
                exact ⟨Below.refl _ _, rfl⟩
            case hqN =>
              intro xs W hb hV
              have y15 : xs 15 = .bool false := hV 15 (by decide)
              have PK := HPJ.out.below hb
              clear hV hlenK hkeyK hrkeyK c34
              rw [y15]
              go_wp2
              go_roundw
              case rel => exact ⟨k + 1, row', _, rrow', by omega, by go_num, PK⟩
              case measure => simp [intOf]; omega
        | some e =>
          obtain ⟨en1, en2, en3⟩ := hgs e rfl
          go_upto_region 27 with (first | (go_at_call 11; refine hget.mono ?_; clear hget; rintro e9 Y1 ⟨row', he', hl', hh', v1, v2, v3, rfl, o1, o2, o3⟩; obtain ⟨D1, d1, rfl, -⟩ := own_rd o1; obtain ⟨D2, d2, rfl, -⟩ := own_rd o2; obtain ⟨D3, d3, rfl, -⟩ := own_rd o3))
          have hGA := Blk.new Y1 28 #[.int .u16 e.rc, .bool false, .slice D1 e.an.length d1, .slice D2 e.au.length d2, .slice D3 e.ex.length d3]
          have b2 := below_new Y1 (.cells #[.int .u16 e.rc, .bool false, .slice D1 e.an.length d1, .slice D2 e.au.length d2, .slice D3 e.ex.length d3] 28 )
          have hr2 := (P3.refW hl').below b2
          have hw2 := below_trans (P3.belowW hl') b2
          have hMa : M < W3.heap.size := P3.r.hd.lt
          have hz31 := hl'.f.size
          have hXY := (HX.out.fr hl'.f (fun h => hgx.2.1 (.inl h))).below b2
          have q1 := own_below o1 b2
          have q2 := own_below o2 b2
          have q3 := own_below o3 b2
          obtain ⟨ga, hga⟩ : ∃ x, Y1.heap.size = x := ⟨_, rfl⟩
          obtain ⟨Y2, hY2⟩ : ∃ x, Y1.alloc (.cells #[.int .u16 e.rc, .bool false, .slice D1 e.an.length d1, .slice D2 e.au.length d2, .slice D3 e.ex.length d3] 28 ) = x := ⟨_, rfl⟩
          have hb2' : Below Y1.heap.size Y1 Y2 := by rw [← hY2]; exact b2
          have hz12 := hb2'.size
          rw [hY2] at hGA hr2 hw2 hXY q1 q2 q3 ⊢
          rw [hga] at hGA hz12 hz31 ⊢
          have hrY := hrget Y2 hr2 hw2
          have w1 := hXY.cell 1 _ rfl
          have w2 := hXY.cell 2 _ rfl
          have w3 := hXY.cell 3 _ rfl
          have w9 := hXY.cell 9 _ rfl
          clear hrget x0 x1 x2 x3 x4 x5 x6 x7 x8 x9 hr2 hw2 hXY hY2 b2
          go_upto_region 28 with (first | (go_at_call 22; refine hrY.mono ?_; clear hrY; rintro e9 Y3 ⟨v', rrow', hr1, hr2, hr3, hr4, hr5, u1, u2, u3, rfl, p1, p2, p3⟩; obtain ⟨E1, k1, rfl, -⟩ := own_rd p1; obtain ⟨E2, k2, rfl, -⟩ := own_rd p2; obtain ⟨E3, k3, rfl, -⟩ := own_rd p3))
          have P6 := HRM.out Y1 Y2 Y3 row' v' rrow' he' hl' hb2' hr1 hr2 hr3 hr4 hr5
          have hGA3 := hGA.fr hr3 (show ¬ ga = M by omega)
          have t1 := own_fr q1 hr3 (fun i hi h => by have := own_base q1 i hi; have h' : i = M := h; omega)
          have t2 := own_fr q2 hr3 (fun i hi h => by have := own_base q2 i hi; have h' : i = M := h; omega)
          have t3 := own_fr q3 hr3 (fun i hi h => by have := own_base q3 i hi; have h' : i = M := h; omega)
          have b4 := below_new Y3 (.cells #[.int .u16 e.rc, .bool false, .slice E1 e.an.length k1, .slice E2 e.au.length k2, .slice E3 e.ex.length k3] 28 )
          have hGB := Blk.new Y3 28 #[.int .u16 e.rc, .bool false, .slice E1 e.an.length k1, .slice E2 e.au.length k2, .slice E3 e.ex.length k3]
          have P7 := P6.below b4
          have hGA4 := hGA3.below b4
          have r1 := own_below t1 b4
          have hRs : ∀ (B : Nat) (u : Value) (l : List Rc), l.length ≤ 30 → Y3.ownsRow B 46 12 u l.length (rcs (l.map (agedR (ageV (clockV sn) e)))) → RsW (Y3.alloc (.cells #[.int .u16 e.rc, .bool false, .slice E1 e.an.length k1, .slice E2 e.au.length k2, .slice E3 e.ex.length k3] 28 )) u (l.map (agedR (ageV (clockV sn) e))) := fun B u l hl ho => by
            obtain ⟨A, c, rfl, hr⟩ := own_rd (own_below ho b4)
            exact ⟨A, _, c, rfl, hr, by omega⟩
          have hsame := same_ _ e.rc false _ _ _ _ _ _ _ _ _ (hRs _ _ _ en1 t1) (hRs _ _ _ en2 t2) (hRs _ _ _ en3 t3) (hRs _ _ _ en1 p1) (hRs _ _ _ en2 p2) (hRs _ _ _ en3 p3)
          have hb1 : ∀ b cx, D1 = some ⟨b, 0, none⟩ → 0 < e.an.length → Y3.heap[b]? = some cx → lo ≤ b ∧ ¬ CH C lo row' b ∧ b ≠ M ∧ ¬ RB v' b := fun b cx hD h0 hcx => by
            have e1 : W3.heap.size ≤ b := own_base q1 b (by rw [hD]; rfl)
            have e2 : b < Y1.heap.size := by
              obtain ⟨_, _, hx⟩ := own_blk o1 (show (Value.slice D1 e.an.length d1).ownBlock = some b by rw [hD]; rfl)
              exact (Array.getElem?_eq_some_iff.1 hx).1
            have e3 := P3.zz
            exact ⟨by omega, fun h => by have := CH.lt P3.c b (hh' b h); omega, by omega, fun h => by have := hr4 b h; omega⟩
          obtain ⟨gb, hgb⟩ : ∃ x, Y3.heap.size = x := ⟨_, rfl⟩
          have hgagb : ga < gb := by have := hGA3.lt; omega
          obtain ⟨Y4, hY4⟩ : ∃ x, Y3.alloc (.cells #[.int .u16 e.rc, .bool false, .slice E1 e.an.length k1, .slice E2 e.au.length k2, .slice E3 e.ex.length k3] 28 ) = x := ⟨_, rfl⟩
          rw [hY4] at hGB P7 hGA4 r1 hsame ⊢
          rw [hgb] at hGB ⊢
          have a0 := hGA4.cell 0 _ rfl
          have a1 := hGA4.cell 1 _ rfl
          have a2 := hGA4.cell 2 _ rfl
          have a3 := hGA4.cell 3 _ rfl
          have a4 := hGA4.cell 4 _ rfl
          have c0 := hGB.cell 0 _ rfl
          have c1 := hGB.cell 1 _ rfl
          have c2 := hGB.cell 2 _ rfl
          have c3 := hGB.cell 3 _ rfl
          have c4 := hGB.cell 4 _ rfl
          have HB1 := Lib.hid hb1
          clear hRs hb1 hY4 b4 P6 hGA3 hGA hr1 hr2 hr3 hr4 hr5 w1 w2 w3 w9 t1 t2 t3 q1 q2 q3 p1 p2 p3 o2 o3
          go_upto_region 30 with (first | (go_at_call 17; refine hsame.mono ?_; clear hsame; rintro e9 Y5 ⟨rfl, hb5⟩))
          have P8 := P7.below hb5
          have hG5 := hGA4.below hb5
          have s1 := own_below r1 hb5
          obtain ⟨m, hm⟩ : ∃ x, e.an.length = x := ⟨_, rfl⟩
          rw [hm] at HB1 s1 hG5 en1
          rw [hm]
          have HO1 := Lib.hid o1
          clear a0 a1 a2 a3 a4 c0 c1 c2 c3 c4 P7 hGA4 hGB r1 o1
          have hblk : ∃ b, (0 < m → D1 = some ⟨b, 0, none⟩ ∧ (∃ cs, Blk Y5 b 46 cs ∧ m * 12 ≤ cs.length) ∧ lo ≤ b ∧ ¬ CH C lo row' b ∧ b ≠ M ∧ ¬ RB v' b) := by
            rcases s1.2 with ⟨_, h0⟩ | ⟨g9, cap, cur, h1, h2, h3, h4, h5, h6, h7⟩
            · exact ⟨0, fun h => by omega⟩
            · refine ⟨g9, fun h0 => ?_⟩
              simp only [Value.slice.injEq] at h1
              have hx := (own_blk HO1.out (show (Value.slice D1 e.an.length d1).ownBlock = some g9 by rw [h1.1]; rfl))
              obtain ⟨cx, fx, hx⟩ := hx
              refine ⟨h1.1, ⟨cur.toList, h3, ?_⟩, ?_⟩
              · have h8 := h6
                simp only [Array.size] at h8
                rw [h8]
                exact Nat.mul_le_mul_right _ h4
              · have hlt9 : g9 < Y1.heap.size := (Array.getElem?_eq_some_iff.1 hx).1
                obtain ⟨cy, hcy⟩ : ∃ cy, Y3.heap[g9]? = some cy := ⟨_, Array.getElem?_eq_getElem (show g9 < Y3.heap.size by omega)⟩
                exact HB1.out g9 cy h1.1 h0 hcy
          obtain ⟨b, hbk⟩ := hblk
          have hgab : 0 < m → ga ≠ b := fun h => by
            obtain ⟨h1, ⟨cs, h2, _⟩, _⟩ := hbk h
            intro e9
            have := h2
            have h3 : Y5.heap[ga]? = _ := hG5
            rw [e9] at h3
            have h4 : Y5.heap[b]? = _ := h2
            rw [h3] at h4
            simp at h4
          have HG5 := Lib.hid hG5
          have HP8 := Lib.hid P8
          have HBK := Lib.hid hbk
          have HGAB := Lib.hid hgab
          have a2 := hG5.cell 2 _ rfl
          clear hG5 P8 hbk hgab s1
          go_wp2
          go_loopw [18] (fun i wr => ∃ j : Nat, j ≤ m ∧ i = .int .i64 j ∧ Fr (fun k => 0 < m ∧ k = b) Y5 wr ∧ (0 < m → ∃ cs, Blk wr b 46 cs ∧ m * 12 ≤ cs.length)) (fun i _ => m - (intOf i).toNat)
          case atStart => exact ⟨0, Nat.zero_le _, rfl, Fr.refl _ _, fun h => (HBK.out h).2.1⟩
          case round =>
            clear a2
            obtain ⟨j, hj, rfl, hfj, hBj⟩ := hrel
            have hGj := HG5.out.fr hfj (fun h => HGAB.out h.1 h.2)
            have a2 := hGj.cell 2 _ rfl
            by_cases hjm : j < m
            · have hjmi : (j : Int) < (m : Int) := by omega
              have hm0 : 0 < m := by omega
              obtain ⟨hD1, -, -⟩ := HBK.out hm0
              obtain ⟨csj, hBj, hlj⟩ := hBj hm0
              rw [hD1] at a2
              obtain ⟨y7, hy7⟩ : ∃ y, csj[j * 12 + 3]? = some y := ⟨_, List.getElem?_eq_getElem (show j * 12 + 3 < csj.length by omega)⟩
              have s3 := hBj.cell (j * 12 + 3) _ hy7
              have s4 := hBj.free (j * 12 + 3)
              have hBn := hBj.set (j * 12 + 3) (.int .u32 9)
              have hFn := (fr_set wr b (j * 12 + 3) (.int .u32 9))
              clear hGj hBj
              go_wp2
              go_roundw
              case rel => exact ⟨j + 1, by omega, by go_num, hfj.trans' (hFn.mono (fun i _ hi => ⟨hm0, hi⟩)), fun _ => ⟨_, hBn, by rw [List.length_set]; exact hlj⟩⟩
              case measure => simp [intOf]; omega
            · obtain rfl : j = m := by omega
              have PJ := HP8.out.fr hfj (fun x hx => by have e9 : x = b := hx.2; rw [e9]; exact (HBK.out hx.1).2.2)
              clear hGj hBj
              go_upto_region 34 with fail
              obtain ⟨AV, cv, rfl, -⟩ := PJ.r.rd
              have hmm : rrow'.length = row'.length := by have := congrArg List.length PJ.eq; rw [List.length_map, List.length_map] at this; exact this
              have hks : rrow'.map Re.key = row'.map (fun c => c.e.key) := by have := congrArg (List.map Ae.key) PJ.eq; rw [List.map_map, List.map_map] at this; exact this
              have hl5 : row'.length ≤ 5000 := by have := PJ.lk; omega
              have hlenK := fun (W : World) (h : Below wr.heap.size wr W) => len_ W C lo en row' (PJ.below h).c
              have hkeyK := fun (W : World) (h : Below wr.heap.size wr W) => keys_ W C lo en row' (PJ.below h).c hl5
              have hrkeyK := fun (W : World) (h : Below wr.heap.size wr W) => rkeys_ W M _ en rrow' (PJ.below h).r (by omega)
              rw [hks, hmm] at hrkeyK
              obtain ⟨m4, hm4⟩ : ∃ x, row'.length = x := ⟨_, rfl⟩
              obtain ⟨ks, hks'⟩ : ∃ x, row'.map (fun c => c.e.key) = x := ⟨_, rfl⟩
              rw [hm4] at hlenK hkeyK hrkeyK hl5
              rw [hmm, hm4] at PJ
              rw [hks'] at hkeyK hrkeyK
              have HPJ := Lib.hid PJ
              have c34 := fun (W : World) (h : Below wr.heap.size wr W) => (PJ.below h).r.hd.cell 0 _ rfl
              unfold ptr at hlenK hkeyK hrkeyK
              simp only [Option.map] at hlenK hkeyK hrkeyK
              clear hks hmm hm4 hks' PJ
              refine wp_region_grow (by kernel_rfl) (by kernel_rfl) ?frS ?hfrS (VV (kc C M (.slice AV m4 cv) m4) (kG wr.heap.size m4 ks)) (VV.stable (kG_st wr.heap.size m4 ks)) ?hobS ?hqS
              case hfrS =>
                intro xs
                simp only [fillL]
                go_simp
                exact rfl
              case hobS =>
                refine ⟨?_, ?_, ?_, ?_, ?_, ?_, ?_, ?_, ?_, ?_, ?_, ?_, ?_, ?_, ?_, ?_, trivial⟩
                · -- 0
                  intro xs W hb hA
                  clear hA
                  go_simp
                  exact ⟨Below.refl _ _, rfl⟩
                · -- 1
                  intro xs W hb hA
                  have x0 : xs 0 = .pointer (some ⟨C, 0, none⟩) := hA 0 (by decide)
                  clear hA
                  go_simp
                  refine (hlenK W hb).mono ?_
                  rintro e9 W9 ⟨rfl, rfl⟩
                  exact ⟨_, rfl, Below.refl _ _, rfl⟩
                · -- 2
                  intro xs W hb hA
                  clear hA
                  go_simp
                  exact ⟨Below.refl _ _, rfl⟩
                · -- 3
                  intro xs W hb hA
                  have x2 : xs 2 = .pointer (some ⟨M, 0, none⟩) := hA 2 (by decide)
                  clear hA
                  go_simp
                  exact ⟨Below.refl _ _, rfl⟩
                · -- 4
                  intro xs W hb hA
                  have x3 : xs 3 = .pointer (some ⟨M, 0, none⟩) := hA 3 (by decide)
                  clear hA
                  go_simp
                  exact ⟨Below.refl _ _, rfl⟩
                · -- 5
                  intro xs W hb hA
                  have x4 : xs 4 = .pointer (some ⟨M, 0, none⟩) := hA 4 (by decide)
                  have c0 := c34 W hb
                  clear hA
                  go_simp
                  exact ⟨Below.refl _ _, rfl⟩
                · -- 6
                  intro xs W hb hA
                  have x5 : xs 5 = .slice AV m4 cv := hA 5 (by decide)
                  clear hA
                  go_simp
                  exact ⟨Below.refl _ _, rfl⟩
                · -- 7
                  intro xs W hb hA
                  have x1 : xs 1 = .int .i64 (m4 : Int) := hA 1 (by decide)
                  have x6 : xs 6 = .int .i64 (m4 : Int) := hA 6 (by decide)
                  clear hA
                  go_simp
                  exact ⟨Below.refl _ _, rfl⟩
                · -- 8
                  intro xs W hb hA
                  have x7 : xs 7 = .bool false := hA 7 (by decide)
                  clear hA
                  go_simp
                  exact ⟨Below.refl _ _, rfl⟩
                · -- 9
                  intro xs W hb hA
                  have x8 : xs 8 = .bool false := hA 8 (by decide)
                  clear hA
                  go_simp
                  exact ⟨Below.refl _ _, rfl⟩
                · -- 10
                  intro xs W hb hA
                  have x9 : xs 9 = .pointer (some ⟨C, 0, none⟩) := hA 9 (by decide)
                  have x8 : xs 8 = .bool false := hA 8 (by decide)
                  clear hA
                  go_simp
                  refine (hkeyK W hb).mono ?_
                  rintro e9 W9 ⟨u, rfl, ho, hb9⟩
                  exact ⟨_, rfl, hb9, own_lower ho hb.size⟩
                · -- 11
                  intro xs W hb hA
                  have x8 : xs 8 = .bool false := hA 8 (by decide)
                  clear hA
                  go_simp
                  exact ⟨Below.refl _ _, rfl⟩
                · -- 12
                  intro xs W hb hA
                  have x11 : xs 11 = .pointer (some ⟨M, 0, none⟩) := hA 11 (by decide)
                  have x8 : xs 8 = .bool false := hA 8 (by decide)
                  clear hA
                  go_simp
                  refine (hrkeyK W hb).mono ?_
                  rintro e9 W9 ⟨u, rfl, ho, hb9⟩
                  exact ⟨_, rfl, hb9, own_lower ho hb.size⟩
                · -- 13
                  intro xs W hb hA
                  have g10 : W.ownsRow wr.heap.size 25 3 (xs 10) m4 (qns ks) := hA 10 (by decide)
                  have g12 : W.ownsRow wr.heap.size 25 3 (xs 12) m4 (qns ks) := hA 12 (by decide)
                  have x8 : xs 8 = .bool false := hA 8 (by decide)
                  clear hA
                  obtain ⟨A1, c1, e1, r1⟩ := own_rd g10
                  obtain ⟨A2, c2, e2, r2⟩ := own_rd g12
                  have hkl := keysL_ W ks A1 m4 c1 r1 A2 m4 c2 r2 hl5
                  clear g10 g12 r1 r2
                  go_simp
                  refine hkl.mono ?_
                  rintro e9 W9 ⟨rfl, hb9⟩
                  exact ⟨_, rfl, hb9, rfl⟩
                · -- 14
                  intro xs W hb hA
                  have x13 : xs 13 = .bool true := hA 13 (by decide)
                  have x8 : xs 8 = .bool false := hA 8 (by decide)
                  clear hA
                  go_simp
                  exact ⟨Below.refl _ _, rfl⟩
                · -- 15
                  intro xs W hb hA
                  have x8 : xs 8 = .bool false := hA 8 (by decide)
                  have x14 : xs 14 = .bool false := hA 14 (by decide)
                  clear hA
                  go_simp
                  exact ⟨Below.refl _ _, rfl⟩
              case hqS =>
                intro xs W hb hV
                have y15 : xs 15 = .bool false := hV 15 (by decide)
                have PK := HPJ.out.below hb
                clear hV hlenK hkeyK hrkeyK c34
                rw [y15]
                go_wp2
                go_roundw
                case rel => exact ⟨k + 1, row', _, rrow', by omega, by go_num, PK⟩
                case measure => simp [intOf]; omega
      · skip
        go_upto_region 15 with fail
        have hI := Blk.new W3 28 #[.int .u16 sa.rc, .bool sa.aa, .slice sa.an.a sa.an.n sa.an.c, .slice sa.au.a sa.au.n sa.au.c, .slice sa.ex.a sa.ex.n sa.ex.c]
        have b4 := below_new W3 (.cells #[.int .u16 sa.rc, .bool sa.aa, .slice sa.an.a sa.an.n sa.an.c, .slice sa.au.a sa.au.n sa.au.c, .slice sa.ex.a sa.ex.n sa.ex.c] 28 )
        have P4 := P3.below b4
        have hgi := P3.held W3.heap.size (Nat.le_refl _)
        have hgxi : gx < W3.heap.size := HX.out.lt
        have hX4 := HX.out.below b4
        have hz4 := World.size_alloc W3 (.cells #[.int .u16 sa.rc, .bool sa.aa, .slice sa.an.a sa.an.n sa.an.c, .slice sa.au.a sa.au.n sa.au.c, .slice sa.ex.a sa.ex.n sa.ex.c] 28 )
        obtain ⟨gi, hgie⟩ : ∃ x, W3.heap.size = x := ⟨_, rfl⟩
        obtain ⟨W4, hW4⟩ : ∃ x, W3.alloc (.cells #[.int .u16 sa.rc, .bool sa.aa, .slice sa.an.a sa.an.n sa.an.c, .slice sa.au.a sa.au.n sa.au.c, .slice sa.ex.a sa.ex.n sa.ex.c] 28 ) = x := ⟨_, rfl⟩
        rw [hW4] at hI P4 hX4 hz4 ⊢
        rw [hgie] at hI hgi hgxi hz4 ⊢
        clear hW4 hgie b4 x0 x1 x2 x3 x4 x5 x6 x7 x8 x9 P3
        have hown := fun (W : World) (s : Sl) (h : s.ok W) (hn : s.n ≤ 30) => own_ W s.a s.n s.c s.l h.r (by omega)
        have hK4 := Fr.refl (fun i => i = gi) W4
        have y0 := hX4.cell 6 _ rfl
        have hk0 := hown W4 sa.an ((hsao.an.below (below_of_K P4 hK4 hgi))) hsas.an
        go_upto_region 16 with (first | (go_at_call 19; refine hk0.mono ?_; clear hk0; rintro e9 V0 ⟨u0, b0, rfl, o0, hb0⟩; obtain ⟨d0, rfl, -, -⟩ := o0.ex; have hC0 := hI.below hb0; have f0 := hC0.free 2; have c0 := hC0.cell 2 _ rfl))
        have hD0 : Blk (V0.setCell ⟨gi, 2, none⟩ (.slice (some ⟨b0, 0, none⟩) sa.an.l.length d0)) gi 28 [.int .u16 sa.rc, .bool sa.aa, .slice (some ⟨b0, 0, none⟩) sa.an.l.length d0, .slice sa.au.a sa.au.n sa.au.c, .slice sa.ex.a sa.ex.n sa.ex.c] := hC0.set 2 (.slice (some ⟨b0, 0, none⟩) sa.an.l.length d0)
        have hFs0 := fr_set V0 gi 2 (.slice (some ⟨b0, 0, none⟩) sa.an.l.length d0)
        have hK0' := (hK4.trans' (Fr.of_below hb0)).trans' hFs0
        have hs0 : gi + 1 ≤ W4.heap.size := by rw [← hz4]; exact hK4.size
        have p00 := (o0.low hs0).fr hFs0 (show ¬ b0 = gi by have := o0.blk.1; omega)
        obtain ⟨X0, hX0n⟩ : ∃ x, V0.setCell ⟨gi, 2, none⟩ (.slice (some ⟨b0, 0, none⟩) sa.an.l.length d0) = x := ⟨_, rfl⟩
        rw [hX0n] at hD0 hK0' p00 ⊢
        have hXX0 := hX4.fr hK0' (show ¬ gx = gi by omega)
        clear hX0n hC0 f0 c0 y0 hI hFs0 hs0 o0
        have y1 := hXX0.cell 7 _ rfl
        have hk1 := hown X0 sa.au ((hsao.au.below (below_of_K P4 hK0' hgi))) hsas.au
        go_upto_region 17 with (first | (go_at_call 19; refine hk1.mono ?_; clear hk1; rintro e9 V1 ⟨u1, b1, rfl, o1, hb1⟩; obtain ⟨d1, rfl, -, -⟩ := o1.ex; have hC1 := hD0.below hb1; have f1 := hC1.free 3; have c1 := hC1.cell 3 _ rfl))
        have hD1 : Blk (V1.setCell ⟨gi, 3, none⟩ (.slice (some ⟨b1, 0, none⟩) sa.au.l.length d1)) gi 28 [.int .u16 sa.rc, .bool sa.aa, .slice (some ⟨b0, 0, none⟩) sa.an.l.length d0, .slice (some ⟨b1, 0, none⟩) sa.au.l.length d1, .slice sa.ex.a sa.ex.n sa.ex.c] := hC1.set 3 (.slice (some ⟨b1, 0, none⟩) sa.au.l.length d1)
        have hFs1 := fr_set V1 gi 3 (.slice (some ⟨b1, 0, none⟩) sa.au.l.length d1)
        have hK1' := (hK0'.trans' (Fr.of_below hb1)).trans' hFs1
        have hs1 : gi + 1 ≤ X0.heap.size := by rw [← hz4]; exact hK0'.size
        have p01 := (p00.below hb1).fr hFs1 (show ¬ b0 = gi by have := p00.blk.1; omega)
        have p11 := (o1.low hs1).fr hFs1 (show ¬ b1 = gi by have := o1.blk.1; omega)
        obtain ⟨X1, hX1n⟩ : ∃ x, V1.setCell ⟨gi, 3, none⟩ (.slice (some ⟨b1, 0, none⟩) sa.au.l.length d1) = x := ⟨_, rfl⟩
        rw [hX1n] at hD1 hK1' p01 p11 ⊢
        have hXX1 := hX4.fr hK1' (show ¬ gx = gi by omega)
        clear hX1n hC1 f1 c1 y1 hD0 hFs1 hs1 p00 o1
        have y2 := hXX1.cell 8 _ rfl
        have hk2 := hown X1 sa.ex ((hsao.ex.below (below_of_K P4 hK1' hgi))) hsas.ex
        go_upto_region 18 with (first | (go_at_call 19; refine hk2.mono ?_; clear hk2; rintro e9 V2 ⟨u2, b2, rfl, o2, hb2⟩; obtain ⟨d2, rfl, -, -⟩ := o2.ex; have hC2 := hD1.below hb2; have f2 := hC2.free 4; have c2 := hC2.cell 4 _ rfl))
        have hD2 : Blk (V2.setCell ⟨gi, 4, none⟩ (.slice (some ⟨b2, 0, none⟩) sa.ex.l.length d2)) gi 28 [.int .u16 sa.rc, .bool sa.aa, .slice (some ⟨b0, 0, none⟩) sa.an.l.length d0, .slice (some ⟨b1, 0, none⟩) sa.au.l.length d1, .slice (some ⟨b2, 0, none⟩) sa.ex.l.length d2] := hC2.set 4 (.slice (some ⟨b2, 0, none⟩) sa.ex.l.length d2)
        have hFs2 := fr_set V2 gi 4 (.slice (some ⟨b2, 0, none⟩) sa.ex.l.length d2)
        have hK2' := (hK1'.trans' (Fr.of_below hb2)).trans' hFs2
        have hs2 : gi + 1 ≤ X1.heap.size := by rw [← hz4]; exact hK1'.size
        have p02 := (p01.below hb2).fr hFs2 (show ¬ b0 = gi by have := p01.blk.1; omega)
        have p12 := (p11.below hb2).fr hFs2 (show ¬ b1 = gi by have := p11.blk.1; omega)
        have p22 := (o2.low hs2).fr hFs2 (show ¬ b2 = gi by have := o2.blk.1; omega)
        obtain ⟨X2, hX2n⟩ : ∃ x, V2.setCell ⟨gi, 4, none⟩ (.slice (some ⟨b2, 0, none⟩) sa.ex.l.length d2) = x := ⟨_, rfl⟩
        rw [hX2n] at hD2 hK2' p02 p12 p22 ⊢
        have hXX2 := hX4.fr hK2' (show ¬ gx = gi by omega)
        clear hX2n hC2 f2 c2 y2 hD1 hFs2 hs2 p01 p11 o2

        have P5 := P4.fr hK2' (fun x hx => by have e : x = gi := hx; rw [e]; exact hgi)
        have hIn : InA X2 (gi + 1) sa ⟨sa.rc, sa.aa, ⟨some ⟨b0, 0, none⟩, sa.an.l.length, d0, sa.an.l⟩, ⟨some ⟨b1, 0, none⟩, sa.au.l.length, d1, sa.au.l⟩, ⟨some ⟨b2, 0, none⟩, sa.ex.l.length, d2, sa.ex.l⟩⟩ b0 b1 b2 := ⟨rfl, p02, p12, p22, rfl, rfl, rfl⟩
        have hCHl : ∀ x, CH C lo row x → x < gi + 1 := fun x hx => by have := CH.lt P4.c x hx; omega
        have hMl : M < gi + 1 := by have := P4.r.hd.lt; omega
        have hput := put_ X2 C lo en row P5.c hn1 hn2 P5.len sq hsqo hsq20 _ (hIn.ok hsao) (hIn.small hsao hsas) (hIn.ap hsao (fun x hx => hCHl x (.inl hx))) sn
        have hrl : rrow.length = row.length := by have := congrArg List.length P5.eq; rw [List.length_map, List.length_map] at this; exact this
        have hrput := fun W (h : RefW W M v en rrow) (hb : Below w.heap.size w W) => rput_ W M v en rrow h (fun e he => ⟨(P5.ok e he).put, (P5.ok e he).life⟩) (by have := P5.lk; omega) hn1 sq hsq20 sa (hsao.below hb) hsas (hsao.low.mono (fun i hi => by have e : i = M := hi; have := P5.lm; have := P5.z; omega)) sn
        rw [P5.eq] at hrput
        have hpl := putV_len (l := row.map Ce.e) (q := sq) (rc := sa.rc) (an := sa.an.l) (au := sa.au.l) (ex := sa.ex.l) (now := sn) hn1 (by rw [List.length_map]; exact P5.len)
        have hpl1 := putV_len1 (room := en) (l := row.map Ce.e) (q := sq) (rc := sa.rc) (an := sa.an.l) (au := sa.au.l) (ex := sa.ex.l) (now := sn)
        rw [List.length_map] at hpl1
        have hlk5 := P5.lk
        dsimp only at hput
        obtain ⟨PV, hPV⟩ : ∃ x, putV en (row.map Ce.e) sq sa.rc sa.an.l sa.au.l sa.ex.l sn = x := ⟨_, rfl⟩
        rw [hPV] at hput hrput hpl hpl1
        clear hPV
        obtain ⟨PL, D⟩ := PV
        simp only at hput hrput hpl hpl1
        unfold ptr Qn.val Am.val at hput hrput
        simp only [Option.map] at hput hrput
        have z1 := hXX2.cell 1 _ rfl
        have z2 := hXX2.cell 2 _ rfl
        have z3 := hXX2.cell 3 _ rfl
        have z9 := hXX2.cell 9 _ rfl
        have i0 := hD2.cell 0 _ rfl
        have i1 := hD2.cell 1 _ rfl
        have i2 := hD2.cell 2 _ rfl
        have i3 := hD2.cell 3 _ rfl
        have i4 := hD2.cell 4 _ rfl
        have HIN := Lib.hid hIn
        have HRL := Lib.hid (And.intro hrl (And.intro hpl (And.intro hpl1 hlk5)))
        have HCM := Lib.hid (And.intro hCHl hMl)
        clear hIn hrl hpl hpl1 hlk5 hCHl hMl p02 p12 p22 hXX0 hXX1 hK0' hK1' hK2' hK4 hown P4 hX4 hz4
        go_upto_region 19 with (first | (go_at_call 10; refine hput.mono ?_; clear hput; rintro e9 Y1 ⟨row', rfl, he', hl'⟩))
        have hXY := hXX2.fr hl'.f (fun h => hgx.2.1 (.inl h))
        have hDY := hD2.fr hl'.f (fun h => hgi.2.1 (.inl h))
        have hInY := HIN.out.fr hl'.f (fun x hx => HCM.out.1 x (.inl hx))
        have hrputY := hrput Y1 (P5.refW hl') (P5.belowW hl')
        have w1 := hXY.cell 1 _ rfl
        have w2 := hXY.cell 2 _ rfl
        have w3 := hXY.cell 3 _ rfl
        have w4 := hXY.cell 4 _ rfl
        have w5 := hXY.cell 5 _ rfl
        have w6 := hXY.cell 6 _ rfl
        have w7 := hXY.cell 7 _ rfl
        have w8 := hXY.cell 8 _ rfl
        have w9 := hXY.cell 9 _ rfl
        clear hrput z1 z2 z3 z9 i0 i1 i2 i3 i4 hXX2 hD2
        have hmk := fun (W : World) (u : Value) (l : List Rc) (b : Nat) (h : Owned W (gi + 1) u l b) (hn : l.length ≤ 30) => marked_ W (gi + 1) u l b h (by omega)
        have hl30 : sa.an.l.length ≤ 30 ∧ sa.au.l.length ≤ 30 ∧ sa.ex.l.length ≤ 30 := ⟨by rw [hsao.an.len]; exact hsas.an, by rw [hsao.au.len]; exact hsas.au, by rw [hsao.ex.len]; exact hsas.ex⟩
        have HL30 := Lib.hid hl30
        have hstep := fun (Y2 : World) (v' : Value) (rrow' : List Re) (h1 : rrow'.map Re.e = PL) (h2 : RefW Y2 M v' en rrow') (h3 : Fr (fun k => k = M) Y1 Y2) (h4 : ∀ i, RB v' i → Y1.heap.size ≤ i) (h5 : ∀ e ∈ rrow', e ∈ rrow ∨ e = ⟨foldQ sq, sa, clockV sn, sa.life⟩) => P5.step hl' (Below.refl _ _) h2 h3 h4 (k' := k + 1) (h1.trans he'.symm) (by have := congrArg List.length he'; rw [List.length_map] at this; have := HRL.out.2.1; omega) (by have := congrArg List.length he'; rw [List.length_map] at this; have := HRL.out.2.2; omega) (fun e he => by
          rcases h5 e he with h | h
          · exact P5.ok e h
          · rw [h]
            exact ⟨foldQ_ok hsqo, hsao, hsas, clockV_bd _, Am.life_nn hsao⟩)
        clear hl30
        go_upto_region 21 with (first | (go_at_call 20; refine hrputY.mono ?_; clear hrputY; rintro e9 Y2 ⟨v', rrow', rfl, hr1, hr2, hr3, hr4, hr5⟩; have P6 := hstep Y2 v' rrow' hr1 hr2 hr3 hr4 hr5; have hX6 := hXY.fr hr3 (show ¬ gx = M from hgx.2.2.1); have hD6 := hDY.fr hr3 (show ¬ gi = M from hgi.2.2.1); have hI6 := hInY.fr hr3 (fun x hx => by have e : x = M := hx; rw [e]; exact HCM.out.2); have q0 := hD6.cell 0 _ rfl; have q1 := hD6.cell 1 _ rfl; have q2 := hD6.cell 2 _ rfl; have q3 := hD6.cell 3 _ rfl; have q4 := hD6.cell 4 _ rfl; have v4 := hX6.cell 4 _ rfl; have v5 := hX6.cell 5 _ rfl; have v6 := hX6.cell 6 _ rfl; have v7 := hX6.cell 7 _ rfl; have v8 := hX6.cell 8 _ rfl; have ha6 := hsao.below P6.b; have hsame := same_ Y2 sa.rc sa.aa _ _ _ _ _ _ sa.an.l sa.au.l sa.ex.l (hI6.an.rs (by have := HL30.out; omega)) (hI6.au.rs (by have := HL30.out; omega)) (hI6.ex.rs (by have := HL30.out; omega)) (rs_of ha6.an hsas.an) (rs_of ha6.au hsas.au) (rs_of ha6.ex hsas.ex)) | (go_at_call 17; refine hsame.mono ?_; clear hsame; rintro e9 Y3 ⟨rfl, hb3⟩; have m2 := (hD6.below hb3).cell 2 _ rfl; have hm1 := hmk Y3 _ _ b0 (hI6.an.below hb3) HL30.out.1) | (go_at_call 21; refine hm1.mono ?_; clear hm1; rintro e9 Y4 ⟨rfl, hb4⟩; have hb34 := below_trans hb3 hb4; have m3 := (hD6.below hb34).cell 3 _ rfl; have hm2 := hmk Y4 _ _ b1 (hI6.au.below hb34) HL30.out.2.1) | (go_at_call 21; refine hm2.mono ?_; clear hm2; rintro e9 Y5 ⟨rfl, hb5⟩; have hb35 := below_trans hb34 hb5; have m4 := (hD6.below hb35).cell 4 _ rfl; have hm3 := hmk Y5 _ _ b2 (hI6.ex.below hb35) HL30.out.2.2) | (go_at_call 21; refine hm3.mono ?_; clear hm3; rintro e9 Y6 ⟨rfl, hb6⟩))
        have hb36 := below_trans hb35 hb6
        have P7 := P6.below hb36
        have hD7 := hD6.below hb36
        have ho7 := hI6.an.below hb36
        have hbb0 : lo ≤ b0 ∧ ¬ CH C lo row' b0 ∧ b0 ≠ M ∧ ¬ RB v' b0 := by
          have e1 := HIN.out.an.blk
          have e2 := HCM.out
          have e3 := hgi.1
          have e4 := hl'.f.size
          refine ⟨by omega, fun h => ?_, by omega, fun h => by have := hr4 _ h; omega⟩
          rcases hl'.h _ h with h | h
          · have := e2.1 _ h; omega
          · omega
        have hgb : gi ≠ b0 := by have := HIN.out.an.blk.1; omega
        obtain ⟨_, _, cs7, hB7, hl7⟩ := ho7.blk
        have hd7 : ∃ c, d0 = c ∧ sa.an.l.length + 1 ≤ c := by obtain ⟨c, h1, _, h3⟩ := ho7.ex; simp only [Sl.val, Value.slice.injEq] at h1; exact ⟨c, h1.2.2, h3⟩
        have hd8 : sa.an.l.length + 1 ≤ d0 := by obtain ⟨c, rfl, h⟩ := hd7; exact h
        have hn30 := HL30.out.1
        obtain ⟨m, hm⟩ : ∃ x, sa.an.l.length = x := ⟨_, rfl⟩
        rw [hm] at hl7 hd8 hD7 hn30 ⊢
        obtain ⟨y7, hy7⟩ : ∃ y, cs7[m * 12 + 3]? = some y := ⟨_, List.getElem?_eq_getElem (show m * 12 + 3 < cs7.length by omega)⟩
        have hdw : Below Y6.heap.size Y6 Y6.drew := ⟨rfl, rfl, rfl, Nat.le_refl _, fun _ _ => rfl⟩
        have P8 := P7.below hdw
        have hD8 := hD7.below hdw
        have hB8 := hB7.below hdw
        have s2 : Y6.drew.cell? ⟨gi, 2, none⟩ = some (.slice (some ⟨b0, 0, none⟩) m d0) := hD8.cell 2 _ rfl
        have s3 := hB8.cell (m * 12 + 3) _ hy7
        have s4 := hB8.free (m * 12 + 3)
        have hi1 : (m : Int) + 1 ≤ (d0 : Int) := by omega
        clear hmk hstep hInY hXY hDY hX6 hD6 hI6 q0 q1 q2 q3 q4 v4 v5 v6 v7 v8 ha6 P6 P7 hD7 hB7 w1 w2 w3 w4 w5 w6 w7 w8 w9 m2 m3 m4 hb34 hb35 hb36 hb3 hb4 hb5 hb6
        go_region
        have hf9 : Fr (fun i => i = b0) Y6.drew (Y6.setCell ⟨b0, m * 12 + 3, none⟩ (.int .u32 1)).drew := fr_set Y6.drew b0 (m * 12 + 3) (.int .u32 1)
        have hB9 : Blk (Y6.setCell ⟨b0, m * 12 + 3, none⟩ (.int .u32 1)).drew b0 46 (cs7.set (m * 12 + 3) (.int .u32 1)) := hB8.set (m * 12 + 3) (.int .u32 1)
        have P9 := P8.fr hf9 (fun x hx => by have e : x = b0 := hx; rw [e]; exact hbb0)
        have hD9 := hD8.fr hf9 hgb
        obtain ⟨Z0, hZ0⟩ : ∃ x, (Y6.setCell ⟨b0, m * 12 + 3, none⟩ (.int .u32 1)).drew = x := ⟨_, rfl⟩
        rw [hZ0] at hB9 P9 hD9 ⊢
        have hbz : Blk Z0 b0 46 (cs7.set (m * 12 + 3) (.int .u32 1)) ∧ (m + 1) * 12 ≤ (cs7.set (m * 12 + 3) (.int .u32 1)).length := ⟨hB9, by rw [List.length_set]; exact hl7⟩
        have HD9 := Lib.hid hD9
        have HP9 := Lib.hid P9
        clear hf9 hB9 hB8 hD8 P8 s2 s3 s4 hZ0 hy7 hl7 hd7 P9
        go_wp2
        go_loopw [13] (fun i wr => ∃ j : Nat, j ≤ m ∧ i = .int .i64 j ∧ Fr (fun k => k = b0) Z0 wr ∧ ∃ cs, Blk wr b0 46 cs ∧ (m + 1) * 12 ≤ cs.length) (fun i _ => m - (intOf i).toNat)
        case atStart => exact ⟨0, Nat.zero_le _, rfl, Fr.refl _ _, _, hbz.1, hbz.2⟩
        case round =>
          clear hbz hD9
          obtain ⟨j, hj, rfl, hfj, csj, hBj, hlj⟩ := hrel
          have hDj := HD9.out.fr hfj hgb
          have s2 := hDj.cell 2 _ rfl
          by_cases hjm : j < m
          · have hjmi : (j : Int) < (m : Int) := by omega
            obtain ⟨w9, hst9, ⟨cs9, hB9, hl9⟩, hf9⟩ := blk_mid (P := Try.prog) hBj (j * 12) Rc.zero.cells (by show j * 12 + 12 ≤ _; omega) (rc_one _)
            clear hDj hBj
            go_wp2_with (first | (refine wpList_putAt rfl 46 (.tmp 138) (.tmp 137) rfl ⟨b0, j * 12, none⟩ Rc.zero.cells rfl rfl sizeRec w9 hst9 ?_))
            go_roundw
            case rel => exact ⟨j + 1, by omega, by go_num, hfj.trans' hf9, cs9, hB9, by omega⟩
            case measure => simp [intOf]; omega
          · obtain rfl : j = m := by omega
            have PJ := HP9.out.fr hfj (fun x hx => by have e : x = b0 := hx; rw [e]; exact hbb0)
            clear hDj hBj
            go_upto_region 34 with fail
            obtain ⟨AV, cv, rfl, -⟩ := PJ.r.rd
            have hmm : rrow'.length = row'.length := by have := congrArg List.length PJ.eq; rw [List.length_map, List.length_map] at this; exact this
            have hks : rrow'.map Re.key = row'.map (fun c => c.e.key) := by have := congrArg (List.map Ae.key) PJ.eq; rw [List.map_map, List.map_map] at this; exact this
            have hl5 : row'.length ≤ 5000 := by have := PJ.lk; omega
            have hlenK := fun (W : World) (h : Below wr.heap.size wr W) => len_ W C lo en row' (PJ.below h).c
            have hkeyK := fun (W : World) (h : Below wr.heap.size wr W) => keys_ W C lo en row' (PJ.below h).c hl5
            have hrkeyK := fun (W : World) (h : Below wr.heap.size wr W) => rkeys_ W M _ en rrow' (PJ.below h).r (by omega)
            rw [hks, hmm] at hrkeyK
            obtain ⟨m4, hm4⟩ : ∃ x, row'.length = x := ⟨_, rfl⟩
            obtain ⟨ks, hks'⟩ : ∃ x, row'.map (fun c => c.e.key) = x := ⟨_, rfl⟩
            rw [hm4] at hlenK hkeyK hrkeyK hl5
            rw [hmm, hm4] at PJ
            rw [hks'] at hkeyK hrkeyK
            have HPJ := Lib.hid PJ
            have c34 := fun (W : World) (h : Below wr.heap.size wr W) => (PJ.below h).r.hd.cell 0 _ rfl
            unfold ptr at hlenK hkeyK hrkeyK
            simp only [Option.map] at hlenK hkeyK hrkeyK
            clear hks hmm hm4 hks' PJ
            refine wp_region_grow (by kernel_rfl) (by kernel_rfl) ?frA ?hfrA (VV (kc C M (.slice AV m4 cv) m4) (kG wr.heap.size m4 ks)) (VV.stable (kG_st wr.heap.size m4 ks)) ?hobA ?hqA
            case hfrA =>
              intro xs
              simp only [fillL]
              go_simp
              exact rfl
            case hobA =>
              refine ⟨?_, ?_, ?_, ?_, ?_, ?_, ?_, ?_, ?_, ?_, ?_, ?_, ?_, ?_, ?_, ?_, trivial⟩
              · -- 0
                intro xs W hb hA
                clear hA
                go_simp
                exact ⟨Below.refl _ _, rfl⟩
              · -- 1
                intro xs W hb hA
                have x0 : xs 0 = .pointer (some ⟨C, 0, none⟩) := hA 0 (by decide)
                clear hA
                go_simp
                refine (hlenK W hb).mono ?_
                rintro e9 W9 ⟨rfl, rfl⟩
                exact ⟨_, rfl, Below.refl _ _, rfl⟩
              · -- 2
                intro xs W hb hA
                clear hA
                go_simp
                exact ⟨Below.refl _ _, rfl⟩
              · -- 3
                intro xs W hb hA
                have x2 : xs 2 = .pointer (some ⟨M, 0, none⟩) := hA 2 (by decide)
                clear hA
                go_simp
                exact ⟨Below.refl _ _, rfl⟩
              · -- 4
                intro xs W hb hA
                have x3 : xs 3 = .pointer (some ⟨M, 0, none⟩) := hA 3 (by decide)
                clear hA
                go_simp
                exact ⟨Below.refl _ _, rfl⟩
              · -- 5
                intro xs W hb hA
                have x4 : xs 4 = .pointer (some ⟨M, 0, none⟩) := hA 4 (by decide)
                have c0 := c34 W hb
                clear hA
                go_simp
                exact ⟨Below.refl _ _, rfl⟩
              · -- 6
                intro xs W hb hA
                have x5 : xs 5 = .slice AV m4 cv := hA 5 (by decide)
                clear hA
                go_simp
                exact ⟨Below.refl _ _, rfl⟩
              · -- 7
                intro xs W hb hA
                have x1 : xs 1 = .int .i64 (m4 : Int) := hA 1 (by decide)
                have x6 : xs 6 = .int .i64 (m4 : Int) := hA 6 (by decide)
                clear hA
                go_simp
                exact ⟨Below.refl _ _, rfl⟩
              · -- 8
                intro xs W hb hA
                have x7 : xs 7 = .bool false := hA 7 (by decide)
                clear hA
                go_simp
                exact ⟨Below.refl _ _, rfl⟩
              · -- 9
                intro xs W hb hA
                have x8 : xs 8 = .bool false := hA 8 (by decide)
                clear hA
                go_simp
                exact ⟨Below.refl _ _, rfl⟩
              · -- 10
                intro xs W hb hA
                have x9 : xs 9 = .pointer (some ⟨C, 0, none⟩) := hA 9 (by decide)
                have x8 : xs 8 = .bool false := hA 8 (by decide)
                clear hA
                go_simp
                refine (hkeyK W hb).mono ?_
                rintro e9 W9 ⟨u, rfl, ho, hb9⟩
                exact ⟨_, rfl, hb9, own_lower ho hb.size⟩
              · -- 11
                intro xs W hb hA
                have x8 : xs 8 = .bool false := hA 8 (by decide)
                clear hA
                go_simp
                exact ⟨Below.refl _ _, rfl⟩
              · -- 12
                intro xs W hb hA
                have x11 : xs 11 = .pointer (some ⟨M, 0, none⟩) := hA 11 (by decide)
                have x8 : xs 8 = .bool false := hA 8 (by decide)
                clear hA
                go_simp
                refine (hrkeyK W hb).mono ?_
                rintro e9 W9 ⟨u, rfl, ho, hb9⟩
                exact ⟨_, rfl, hb9, own_lower ho hb.size⟩
              · -- 13
                intro xs W hb hA
                have g10 : W.ownsRow wr.heap.size 25 3 (xs 10) m4 (qns ks) := hA 10 (by decide)
                have g12 : W.ownsRow wr.heap.size 25 3 (xs 12) m4 (qns ks) := hA 12 (by decide)
                have x8 : xs 8 = .bool false := hA 8 (by decide)
                clear hA
                obtain ⟨A1, c1, e1, r1⟩ := own_rd g10
                obtain ⟨A2, c2, e2, r2⟩ := own_rd g12
                have hkl := keysL_ W ks A1 m4 c1 r1 A2 m4 c2 r2 hl5
                clear g10 g12 r1 r2
                go_simp
                refine hkl.mono ?_
                rintro e9 W9 ⟨rfl, hb9⟩
                exact ⟨_, rfl, hb9, rfl⟩
              · -- 14
                intro xs W hb hA
                have x13 : xs 13 = .bool true := hA 13 (by decide)
                have x8 : xs 8 = .bool false := hA 8 (by decide)
                clear hA
                go_simp
                exact ⟨Below.refl _ _, rfl⟩
              · -- 15
                intro xs W hb hA
                have x8 : xs 8 = .bool false := hA 8 (by decide)
                have x14 : xs 14 = .bool false := hA 14 (by decide)
                clear hA
                go_simp
                exact ⟨Below.refl _ _, rfl⟩
            case hqA =>
              intro xs W hb hV
              have y15 : xs 15 = .bool false := hV 15 (by decide)
              have PK := HPJ.out.below hb
              clear hV hlenK hkeyK hrkeyK c34
              rw [y15]
              go_wp2
              go_roundw
              case rel => exact ⟨k + 1, row', _, rrow', by omega, by go_num, PK⟩
              case measure => simp [intOf]; omega
    · obtain rfl : k = n := by omega
      have HB := Lib.hid P.b
      clear P
      go_wp2_with (first | (go_at_call 13; refine (keeps_ _).mono ?_; rintro e W3 ⟨rfl, hb3⟩))
      go_ret
      exact ⟨rfl, below_trans HB.out hb3⟩
end Go.Proofs.Ytioehogncgloiaa
