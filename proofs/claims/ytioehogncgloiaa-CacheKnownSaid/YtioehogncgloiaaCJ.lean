/- cache.Get: contract. -/
import Derived.Test.YtioehogncgloiaaCI
namespace Go.Proofs.Ytioehogncgloiaa
open Go.RowKit Go.HL Go.Maps
set_option linter.unusedVariables false
set_option linter.unusedSimpArgs false
theorem agedR_two (age : Int) (r : Rc) : agedR age (agedR 0 r) = agedR age r := by
  unfold agedR
  simp only [foldS_idem]
  congr 1
  omega
theorem aged_two (age : Int) (l : List Rc) : (l.map (agedR 0)).map (agedR age) = l.map (agedR age) := by
  rw [List.map_map]
  apply List.map_congr_left
  intro r _
  exact agedR_two age r
theorem MapR.perm {W : World} {bm : Nat} {r r' : List Ce} (h : MapR W bm r) (hp : ∀ c, c ∈ r ↔ c ∈ r') (hl : r.length = r'.length) : MapR W bm r' := by
  obtain ⟨D, n, h1, h2, h3, h4⟩ := h
  refine ⟨D, n, h1, by rw [h2, hl], fun c hc => h3 c ((hp c).2 hc), fun k hk => ?_⟩
  obtain ⟨c, hc, e⟩ := h4 k hk
  exact ⟨c, (hp c).1 hc, e⟩
def zeroAns : Value := .agg #[.int .u16 0, .bool false, .slice none 0 0, .slice none 0 0, .slice none 0 0]
/-- What a Get tells. -/
def GotP (W W' : World) (now : Int) (en : Ending) : Option Ae → Prop
  | none => en = .returned (.tuple #[zeroAns, .bool false])
  | some e => ∃ v1 v2 v3, en = .returned (.tuple #[.agg #[.int .u16 e.rc, .bool false, v1, v2, v3], .bool true]) ∧
      W'.ownsRow W.heap.size 46 12 v1 e.an.length (rcs (e.an.map (agedR (ageV now e)))) ∧ W'.ownsRow W.heap.size 46 12 v2 e.au.length (rcs (e.au.map (agedR (ageV now e)))) ∧ W'.ownsRow W.heap.size 46 12 v3 e.ex.length (rcs (e.ex.map (agedR (ageV now e))))
theorem fromCell (W : World) (g : Nat) (o : Obj) : True := trivial
def getG (B : Nat) (l1 l2 l3 : List Rc) : Nat → Value → World → Prop
  | 3, u, W => W.ownsRow B 46 12 u l1.length (rcs l1)
  | 7, u, W => W.ownsRow B 46 12 u l2.length (rcs l2)
  | 11, u, W => W.ownsRow B 46 12 u l3.length (rcs l3)
  | _, _, _ => True
def getc (g : Nat) (v1 v2 v3 : Value) (age : Int) : List (Option Value) := [some (.pointer (some ⟨g, 2, none⟩)), some v1, some (.int .i64 age), none, some (.pointer (some ⟨g, 3, none⟩)), some v2, some (.int .i64 age), none, some (.pointer (some ⟨g, 4, none⟩)), some v3, some (.int .i64 age), none, some (.pointer (some ⟨g, 2, none⟩)), some undef, some (.pointer (some ⟨g, 3, none⟩)), some undef, some (.pointer (some ⟨g, 4, none⟩)), some undef]
theorem getG_keep {B : Nat} {l1 l2 l3 : List Rc} {j : Nat} {u : Value} {W W' : World} (h : getG B l1 l2 l3 j u W) (hk : ∀ (l : List Rc), W.ownsRow B 46 12 u l.length (rcs l) → W'.ownsRow B 46 12 u l.length (rcs l)) : getG B l1 l2 l3 j u W' := by
  unfold getG at *
  split at h
  · exact hk l1 h
  · exact hk l2 h
  · exact hk l3 h
  · trivial
set_option maxRecDepth 8000 in
set_option maxHeartbeats 4000000 in
theorem get_ (W : World) (C bm : Nat) (room : Int) (row : List Ce) (h : CacheW W C bm room row) (q : Qn) (hq : q.ok) (hqs : q.nm.size ≤ 2000) (now : Int) :
    Calls Try.prog 11 #[ptr (some C), q.val, .int .i64 now] W fun en W' => ∃ row', row'.map Ce.e = (getV (row.map Ce.e) q now).1 ∧ Left W C bm room row row' W' ∧ (∀ k, CH C bm row' k → CH C bm row k) ∧ GotP W W' (clockV now) en (getV (row.map Ce.e) q now).2 := by
  obtain ⟨n, hn⟩ : ∃ n, clockV now = n := ⟨_, rfl⟩
  have hnb := clockV_bd now
  rw [hn] at hnb ⊢
  have hclk := fun W => clock_ W now
  rw [hn] at hclk
  have b1 := below_new W (.cells #[.string q.nm, .int .u16 q.ty, .int .u16 q.cl] 25)
  have b2 := below_alloc b1 (.cells #[.int .u16 0, .bool false, .slice none 0 0, .slice none 0 0, .slice none 0 0] 28)
  have hQ := (Blk.new W 25 #[.string q.nm, .int .u16 q.ty, .int .u16 q.cl]).alloc (.cells #[.int .u16 0, .bool false, .slice none 0 0, .slice none 0 0, .slice none 0 0] 28)
  have hA := Blk.new (W.alloc (.cells #[.string q.nm, .int .u16 q.ty, .int .u16 q.cl] 25)) 28 #[.int .u16 0, .bool false, .slice none 0 0, .slice none 0 0, .slice none 0 0]
  rw [World.size_alloc] at hA
  have hz : ((W.alloc (.cells #[.string q.nm, .int .u16 q.ty, .int .u16 q.cl] 25)).alloc (.cells #[.int .u16 0, .bool false, .slice none 0 0, .slice none 0 0, .slice none 0 0] 28)).heap.size = W.heap.size + 2 := by rw [World.size_alloc, World.size_alloc]
  have HB2 := Lib.hid (Fr.of_below (S := CS C bm row) b2)
  have hsw := sweep_ ((W.alloc (.cells #[.string q.nm, .int .u16 q.ty, .int .u16 q.cl] 25)).alloc (.cells #[.int .u16 0, .bool false, .slice none 0 0, .slice none 0 0, .slice none 0 0] 28)) C bm room n row (h.below b2)
  obtain ⟨W0, hW0⟩ : ∃ x, (W.alloc (.cells #[.string q.nm, .int .u16 q.ty, .int .u16 q.cl] 25)).alloc (.cells #[.int .u16 0, .bool false, .slice none 0 0, .slice none 0 0, .slice none 0 0] 28) = x := ⟨_, rfl⟩
  rw [hW0] at b2 hQ hA hz hsw HB2
  obtain ⟨r1, hr1e⟩ : ∃ x, sweepC n row = x := ⟨_, rfl⟩
  have hr1V : r1.map Ce.e = sweepV n (row.map Ce.e) := by rw [← hr1e]; exact sweepC_e n row
  have hr1s : ∀ c ∈ r1, c ∈ row := fun c hc => by rw [← hr1e] at hc; exact (List.mem_filter.1 hc).1
  rw [hr1e] at hsw
  have hg5 : ¬ CS C bm row W.heap.size := fun x => by have := CH.lt h _ (.inl x); omega
  have hg6 : ¬ CS C bm row (W.heap.size + 1) := fun x => by have := CH.lt h _ (.inl x); omega
  have hfold := fun W => fold_ W q.nm (by omega)
  have hCl : C < W.heap.size := CH.lt h _ (.inl (.inl rfl))
  have hgetV : getV (row.map Ce.e) q now = match findV (foldQ q) (r1.map Ce.e) with | none => (r1.map Ce.e, none) | some e => (rmV (foldQ q) (r1.map Ce.e) ++ [e], some e) := by unfold getV; rw [hn, ← hr1V]; cases findV (foldQ q) (r1.map Ce.e) <;> rfl
  have HGV := Lib.hid hgetV
  obtain ⟨g5, hg5e⟩ : ∃ x, W.heap.size = x := ⟨_, rfl⟩
  rw [hg5e] at hQ hA hz hg5 hg6 b2 hCl
  have HG5 := Lib.hid hg5e
  clear hgetV hn b1 hr1e
  unfold ptr Qn.val at *
  simp only [Option.map] at hsw
  go_enter Try.func11, Try.ntmps11
  go_upto_region 6 with (first | (go_at_call 29; refine (hclk _).mono ?_; rintro en w1 ⟨rfl, rfl⟩) | (go_at_call 30; refine hsw.mono ?_; clear hsw; rintro en W1 ⟨rfl, hc1, hf1⟩; have hQ1 := hQ.fr hf1 hg5; have hA1 := hA.fr hf1 hg6; have hF1 := Lib.hid (HB2.out.trans' hf1); have k0 := hQ1.cell 0 _ rfl) | (go_at_call 33; refine (hfold _).mono ?_; rintro en W4 ⟨rfl, hb4⟩; have hQ4 := hQ1.below hb4; have f04 := hQ4.free 0; have n04 := hQ4.cell 0 _ rfl))
  have hc4 := hc1.below hb4
  have hA4 := hA1.below hb4
  have hF4 := hF1.out.trans (Fr.of_below hb4)
  have hz4 : g5 + 2 ≤ W4.heap.size := by have := hf1.size; have := hb4.size; omega
  have hst := fr_set W4 g5 0 (.string (foldS q.nm))
  have hne : ∀ i, CH C bm row i → i ≠ g5 ∧ i ≠ g5 + 1 := fun i hi => by have := CH.lt h _ hi; omega
  have hc5 := hc4.fr hst (fun i hi e => (hne i (CH.sub hr1s i hi)).1 e)
  have hQ5 := hQ4.set 0 (.string (foldS q.nm))
  have hA5 := hA4.set_other 0 (.string (foldS q.nm)) (show g5 + 1 ≠ g5 by omega)
  have hF5 := hF4.setCell g5 0 (.string (foldS q.nm)) (.inr (by omega))
  clear k0 f04 n04 hQ1 hQ4 hA1 hA4 hA hQ hc4 hst hF1 hb4 hc1 hf1 hF4
  obtain ⟨W5, hW5⟩ : ∃ x, W4.setCell ⟨g5, 0, none⟩ (.string (foldS q.nm)) = x := ⟨_, rfl⟩
  have hz5 : g5 + 2 ≤ W5.heap.size := by rw [← hW5, size_setCell]; exact hz4
  rw [hW5] at hc5 hQ5 hA5 hF5 ⊢
  clear hW5 hz4
  have hfo := foldQ_ok hq
  have c2 : W5.cell? ⟨C, 2, none⟩ = some (.map (some bm)) := hc5.hd.cell 2 _ rfl
  have q0 : W5.cell? ⟨g5, 0, none⟩ = some (.string (foldS q.nm)) := hQ5.cell 0 _ rfl
  have q1 : W5.cell? ⟨g5, 1, none⟩ = some (.int .u16 q.ty) := hQ5.cell 1 _ rfl
  have q2 : W5.cell? ⟨g5, 2, none⟩ = some (.int .u16 q.cl) := hQ5.cell 2 _ rfl
  have hlk := fun k => MapR.look (W := W5.drewN k) (show MapR (W5.drewN k) bm r1 from hc5.mp.fr ((Fr.refl (fun _ => False) W5).drewN k) (fun h => h)) hc5.keys hc5.nk (foldQ q) hfo
  rcases split_key r1 (foldQ q) hc5.nk with ⟨l1, e0, l2, hsp, hek, hl1⟩ | hno
  · have hlook := fun k => (hlk k).1 l1 e0 l2 hsp hek
    unfold Qn.val foldQ ptr at hlook
    simp only [Option.map] at hlook
    clear hlk
    go_quiet (fail)
    have hcq := hc5.fr ((Fr.refl (fun _ => False) W5).drewN nq) (fun _ _ h => h)
    have hAq := hA5.fr ((Fr.refl (fun _ => False) W5).drewN nq) (fun h => h)
    have hFq := hF5.drewN nq
    have hzq : g5 + 2 ≤ (W5.drewN nq).heap.size := by rw [drewN_heap]; exact hz5
    obtain ⟨Wq, hWq⟩ : ∃ x, W5.drewN nq = x := ⟨_, rfl⟩
    rw [hWq] at hcq hAq hFq hzq ⊢
    have hsubq : ∀ c ∈ l1 ++ e0 :: l2, c ∈ row := fun c hc => hr1s c (by rw [hsp]; exact hc)
    have hrm := rmV_mid (l2 := l2) hl1 hek
    have HGV2 : Hid (getV (row.map Ce.e) q now = ((l1 ++ l2 ++ [e0]).map Ce.e, some e0.e)) := Lib.hid (by rw [HGV.out, hsp, hrm.2]; simp only; rw [hrm.1, List.map_append (l₁ := l1 ++ l2)]; rfl)
    rw [hsp] at hcq
    clear hc5 hQ5 hA5 hF5 hz5 c2 q0 q1 q2 hlook hr1s hWq HGV hr1V hsp hl1 hrm
    have hout := out_ Wq C bm room l1 l2 e0 hcq.hd hcq.lk hcq.nb
    have hperm : ∀ c, c ∈ l1 ++ e0 :: l2 ↔ c ∈ l1 ++ l2 ++ [e0] := fun c => by simp; grind
    have hnb2 : ((l1 ++ l2 ++ [e0]).map Ce.b).Nodup := by
      have := hcq.nb
      simp [List.nodup_append] at this ⊢
      grind
    have hnk2 : ((l1 ++ l2 ++ [e0]).map fun c => kl c.e.key).Nodup := by
      have := hcq.nk
      simp [List.nodup_append] at this ⊢
      grind
    have hSq : ∀ k, (k = C ∨ k ∈ (l1 ++ e0 :: l2).map Ce.b) → CS C bm row k := fun k hk => by
      rcases hk with hk | hk
      · exact .inl hk
      · obtain ⟨c, hc, rfl⟩ := List.mem_map.1 hk
        exact .inr (.inr (List.mem_map.2 ⟨c, hsubq c hc, rfl⟩))
    have hla := fun W' hC hL hE => last_ W' C bm room (l1 ++ l2) e0 hC hL hE hnb2
    unfold ptr at hout
    simp only [Option.map] at hout
    go_upto_region 11 with (first | (go_at_call 37; refine hout.mono ?_; clear hout; rintro en W6 ⟨rfl, hC6, hL6, hE6, hF6⟩; have hla6 := hla W6 hC6 hL6 hE6; clear hla; unfold ptr at hla6; simp only [Option.map] at hla6) | (go_at_call 36; refine hla6.mono ?_; clear hla6; rintro en W7 ⟨rfl, hC7, hL7, hF7⟩))
    have hbmC := hcq.mp.noblk hcq.hd
    have hFoL : Fr (CS C bm row) Wq W7 := (hF6.mono (fun k _ hk => hSq k hk)).trans' (hF7.mono (fun k _ hk => hSq k (by
      rcases hk with hk | hk
      · exact .inl hk
      · obtain ⟨c, hc, rfl⟩ := List.mem_map.1 hk
        exact .inr (List.mem_map.2 ⟨c, (hperm c).2 hc, rfl⟩))))
    have hbm7 : ¬ (fun k => k = C ∨ k ∈ (l1 ++ e0 :: l2).map Ce.b) bm := by
      rintro (x | x)
      · exact hbmC x.symm
      · obtain ⟨c, hc, hx⟩ := List.mem_map.1 x
        obtain ⟨ds, hd⟩ := Lk.blk_of hcq.lk c hc
        exact hcq.mp.noblk hd hx
    have hF7' : Fr (fun k => k = C ∨ k ∈ (l1 ++ e0 :: l2).map Ce.b) W6 W7 := hF7.mono (fun k _ hk => by
      rcases hk with hk | hk
      · exact .inl hk
      · obtain ⟨c, hc, rfl⟩ := List.mem_map.1 hk
        exact .inr (List.mem_map.2 ⟨c, (hperm c).2 hc, rfl⟩))
    have hF67 := hF6.trans' hF7'
    have hM7 := (hcq.mp.fr hF67 hbm7).perm hperm (by simp)
    have hnr : ∀ {m : Nat} {v : Value} {cs : List Value}, Wq.ownsRow 0 46 12 v m cs → W7.ownsRow 0 46 12 v m cs := fun ho => own_fr ho hF67 (fun i hi x => by
      rcases x with x | x
      · exact own_ne_blk ho hcq.hd (by decide) (by rw [← x]; exact hi)
      · obtain ⟨c, hc, hx⟩ := List.mem_map.1 x
        obtain ⟨ds, hd⟩ := Lk.blk_of hcq.lk c hc
        exact own_ne_blk ho hd (by decide) (by rw [hx]; exact hi))
    have hok7 : ∀ c ∈ l1 ++ l2 ++ [e0], CeOk W7 c := fun c hc => ⟨(hcq.ok c ((hperm c).2 hc)).e, hnr (hcq.ok c ((hperm c).2 hc)).o1, hnr (hcq.ok c ((hperm c).2 hc)).o2, hnr (hcq.ok c ((hperm c).2 hc)).o3⟩
    have hc7 : CacheW W7 C bm room (l1 ++ l2 ++ [e0]) := ⟨hC7, hL7, hM7, hnb2, hnk2, hok7⟩
    have hA7 := hAq.fr hFoL hg6
    have hF7o := hFq.trans' hFoL
    have hz7 : g5 + 2 ≤ W7.heap.size := Nat.le_trans hzq hFoL.size
    have hsub7 : ∀ c ∈ l1 ++ l2 ++ [e0], c ∈ row := fun c hc => hsubq c ((hperm c).2 hc)
    have heo := hok7 e0 (by simp)
    obtain ⟨pp, hE7⟩ : ∃ pp, Blk W7 e0.b 86 (pp :: ptr none :: e0.pay) := by
      have := hL7
      rw [Lk.append] at this
      exact ⟨_, this.2.1⟩
    clear hcq hAq hFq hzq hC6 hL6 hE6 hF6 hC7 hL7 hF7 hF7' hF67 hM7 hbm7 hFoL hnr hok7 hperm hSq hsubq hbmC hnb2 hnk2
    obtain ⟨heok, o1, o2, o3⟩ := heo
    have e10 : W7.cell? ⟨e0.b, 10, none⟩ = some (.int .i64 e0.e.put) := hE7.cell 10 _ rfl
    have hpb := heok.put
    have hagd : ageV n e0.e = (if 0 < n - e0.e.put then n - e0.e.put else 0) / 10 := rfl
    obtain ⟨P, hP⟩ : ∃ x, e0.e.put = x := ⟨_, rfl⟩
    rw [hP] at e10 hpb hagd
    clear hP
    by_cases hgt : 0 < n - P
    · rw [if_pos hgt] at hagd
      go_upto_region 12 with fail
      have ha0 : 0 ≤ (n - P) / 10 := by omega
      have ha1 : (n - P) / 10 ≤ 4611686018427387904 := by omega
      obtain ⟨age, hage⟩ : ∃ x, (n - P) / 10 = x := ⟨_, rfl⟩
      rw [hage] at hagd ha0 ha1 ⊢
      clear hage
      have HAG := Lib.hid hagd
      clear hagd e10 hgt
      obtain ⟨A1, cc1, ee1, rr1⟩ := own_rd o1
      obtain ⟨A2, cc2, ee2, rr2⟩ := own_rd o2
      obtain ⟨A3, cc3, ee3, rr3⟩ := own_rd o3
      obtain ⟨m1, hm1⟩ : ∃ m, e0.e.an.length = m := ⟨_, rfl⟩
      obtain ⟨m2, hm2⟩ : ∃ m, e0.e.au.length = m := ⟨_, rfl⟩
      obtain ⟨m3, hm3⟩ : ∃ m, e0.e.ex.length = m := ⟨_, rfl⟩
      rw [hm1] at ee1 rr1
      rw [hm2] at ee2 rr2
      rw [hm3] at ee3 rr3
      have hn1 : m1 ≤ 30 := by rw [← hm1]; exact heok.na
      have hn2 : m2 ≤ 30 := by rw [← hm2]; exact heok.nu
      have hn3 : m3 ≤ 30 := by rw [← hm3]; exact heok.nx
      have HM1 := Lib.hid hm1
      have HM2 := Lib.hid hm2
      have HM3 := Lib.hid hm3
      clear hm1 hm2 hm3
      have t0 : W7.cell? ⟨e0.b, 5, none⟩ = some (.int .u16 e0.e.rc) := hE7.cell 5 _ rfl
      have t1 : W7.cell? ⟨e0.b, 6, none⟩ = some (.bool false) := hE7.cell 6 _ rfl
      have t2 : W7.cell? ⟨e0.b, 7, none⟩ = some (.slice A1 m1 cc1) := by rw [← ee1]; exact hE7.cell 7 _ rfl
      have t3 : W7.cell? ⟨e0.b, 8, none⟩ = some (.slice A2 m2 cc2) := by rw [← ee2]; exact hE7.cell 8 _ rfl
      have t4 : W7.cell? ⟨e0.b, 9, none⟩ = some (.slice A3 m3 cc3) := by rw [← ee3]; exact hE7.cell 9 _ rfl
      have hob1 : ∀ ad, A1 = some ad → ad.block < W7.heap.size := fun ad had => by
        obtain ⟨cur, fr, hb⟩ := own_blk o1 (i := ad.block) (by rw [ee1, had]; rcases o1.2 with ⟨x, _⟩ | ⟨g, cap, cur, x, _⟩; (rw [ee1, had] at x; cases x); (rw [ee1, had] at x; cases x; rfl))
        exact (Array.getElem?_eq_some_iff.1 hb).1
      have hob2 : ∀ ad, A2 = some ad → ad.block < W7.heap.size := fun ad had => by
        obtain ⟨cur, fr, hb⟩ := own_blk o2 (i := ad.block) (by rw [ee2, had]; rcases o2.2 with ⟨x, _⟩ | ⟨g, cap, cur, x, _⟩; (rw [ee2, had] at x; cases x); (rw [ee2, had] at x; cases x; rfl))
        exact (Array.getElem?_eq_some_iff.1 hb).1
      have hob3 : ∀ ad, A3 = some ad → ad.block < W7.heap.size := fun ad had => by
        obtain ⟨cur, fr, hb⟩ := own_blk o3 (i := ad.block) (by rw [ee3, had]; rcases o3.2 with ⟨x, _⟩ | ⟨g, cap, cur, x, _⟩; (rw [ee3, had] at x; cases x); (rw [ee3, had] at x; cases x; rfl))
        exact (Array.getElem?_eq_some_iff.1 hb).1
      clear o1 o2 o3 ee1 ee2 ee3
      go_upto_region 13 with fail
      have b8 := below_new W7 (.cells #[.int .u16 e0.e.rc, .bool false, .slice A1 m1 cc1, .slice A2 m2 cc2, .slice A3 m3 cc3] 28)
      have HB := Blk.new W7 28 #[.int .u16 e0.e.rc, .bool false, .slice A1 m1 cc1, .slice A2 m2 cc2, .slice A3 m3 cc3]
      have hz8 := World.size_alloc W7 (.cells #[.int .u16 e0.e.rc, .bool false, .slice A1 m1 cc1, .slice A2 m2 cc2, .slice A3 m3 cc3] 28)
      have hc8 := hc7.below b8
      have hA8 := hA7.below b8
      have hF8 := hF7o.trans (Fr.of_below b8)
      have rr1' := rr1.below b8
      have rr2' := rr2.below b8
      have rr3' := rr3.below b8
      obtain ⟨W8, hW8⟩ : ∃ x, W7.alloc (.cells #[.int .u16 e0.e.rc, .bool false, .slice A1 m1 cc1, .slice A2 m2 cc2, .slice A3 m3 cc3] 28) = x := ⟨_, rfl⟩
      rw [hW8] at HB hz8 hc8 hA8 hF8 rr1' rr2' rr3' ⊢
      clear hW8 b8 t0 t1 t2 t3 t4 hc7 hA7 hF7o rr1 rr2 rr3 hE7
      obtain ⟨g10, hg10⟩ : ∃ x, W7.heap.size = x := ⟨_, rfl⟩
      rw [hg10] at HB hz8 hob1 hob2 hob3 hz7 ⊢
      have HLen1 := Lib.hid (show ((e0.e.an.map (agedR 0)).map (agedR age)).length = m1 by rw [List.length_map, List.length_map]; exact HM1.out)
      have HLen2 := Lib.hid (show ((e0.e.au.map (agedR 0)).map (agedR age)).length = m2 by rw [List.length_map, List.length_map]; exact HM2.out)
      have HLen3 := Lib.hid (show ((e0.e.ex.map (agedR 0)).map (agedR age)).length = m3 by rw [List.length_map, List.length_map]; exact HM3.out)
      have hrec1 := fun (W : World) (hf : Fr (fun k => k = g10) W8 W) => records_ W A1 m1 cc1 (e0.e.an.map (agedR 0)) (rr1'.fr hf (fun ad had => by have := hob1 ad had; omega)) (fun r hr => by obtain ⟨x, hx, rfl⟩ := List.mem_map.1 hr; exact agedR_ok (heok.an x hx).1) (by omega) (fun r hr => by obtain ⟨x, hx, rfl⟩ := List.mem_map.1 hr; show (foldS x.nm).size ≤ _; rw [foldS_size]; have := (heok.an x hx).2; omega) age (by omega) (by omega)
      have hrec2 := fun (W : World) (hf : Fr (fun k => k = g10) W8 W) => records_ W A2 m2 cc2 (e0.e.au.map (agedR 0)) (rr2'.fr hf (fun ad had => by have := hob2 ad had; omega)) (fun r hr => by obtain ⟨x, hx, rfl⟩ := List.mem_map.1 hr; exact agedR_ok (heok.au x hx).1) (by omega) (fun r hr => by obtain ⟨x, hx, rfl⟩ := List.mem_map.1 hr; show (foldS x.nm).size ≤ _; rw [foldS_size]; have := (heok.au x hx).2; omega) age (by omega) (by omega)
      have hrec3 := fun (W : World) (hf : Fr (fun k => k = g10) W8 W) => records_ W A3 m3 cc3 (e0.e.ex.map (agedR 0)) (rr3'.fr hf (fun ad had => by have := hob3 ad had; omega)) (fun r hr => by obtain ⟨x, hx, rfl⟩ := List.mem_map.1 hr; exact agedR_ok (heok.ex x hx).1) (by omega) (fun r hr => by obtain ⟨x, hx, rfl⟩ := List.mem_map.1 hr; show (foldS x.nm).size ≤ _; rw [foldS_size]; have := (heok.ex x hx).2; omega) age (by omega) (by omega)
      obtain ⟨K1, hK1⟩ : ∃ x, (e0.e.an.map (agedR 0)).map (agedR age) = x := ⟨_, rfl⟩
      rw [hK1] at HLen1
      simp only [hK1] at hrec1
      have HK1 := Lib.hid hK1
      clear hK1
      obtain ⟨K2, hK2⟩ : ∃ x, (e0.e.au.map (agedR 0)).map (agedR age) = x := ⟨_, rfl⟩
      rw [hK2] at HLen2
      simp only [hK2] at hrec2
      have HK2 := Lib.hid hK2
      clear hK2
      obtain ⟨K3, hK3⟩ : ∃ x, (e0.e.ex.map (agedR 0)).map (agedR age) = x := ⟨_, rfl⟩
      rw [hK3] at HLen3
      simp only [hK3] at hrec3
      have HK3 := Lib.hid hK3
      clear hK3
      have HZ8 := Lib.hid hz8
      clear hz8
      refine wp_region_loud (by kernel_rfl) (by kernel_rfl) ?fr_gA ?hfr_gA [3, 7, 11, 13, 15, 17] (VV (getc g10 (.slice A1 m1 cc1) (.slice A2 m2 cc2) (.slice A3 m3 cc3) age) (getG W8.heap.size K1 K2 K3)) (fun q => R3 W8 g10 e0.e.rc false (.slice A1 m1 cc1) (.slice A2 m2 cc2) (.slice A3 m3 cc3) K1 K2 K3 (q.getD 3 false) (q.getD 4 false) (q.getD 5 false)) ?h0_gA ?hob_gA ?hQ_gA (by decide)
      case hfr_gA =>
        intro xs
        simp only [fillL]
        go_simp
        exact rfl
      case h0_gA => exact ⟨(Fr.refl _ W8).drew, _, _, _, HB, fun _ => rfl, fun _ => rfl, fun _ => rfl, (fun h => by cases h), (fun h => by cases h), (fun h => by cases h)⟩
      case hob_gA =>
        refine ⟨?_, ?_, ?_, ?_, ?_, ?_, ?_, ?_, ?_, ?_, ?_, ?_, ?_, ?_, ?_, ?_, ?_, ?_, trivial⟩
        · intro xs d W hd hno hI hV
          have hI' : R3 W8 g10 e0.e.rc false (.slice A1 m1 cc1) (.slice A2 m2 cc2) (.slice A3 m3 cc3) K1 K2 K3 (d 13) (d 15) (d 17) W := hI
          rw [if_neg (by decide)]
          clear hV hd hno hI hI'
          go_simp
          exact rfl
        · intro xs d W hd hno hI hV
          have hI' : R3 W8 g10 e0.e.rc false (.slice A1 m1 cc1) (.slice A2 m2 cc2) (.slice A3 m3 cc3) K1 K2 K3 (d 13) (d 15) (d 17) W := hI
          have x0 : xs 0 = .pointer (some ⟨g10, 2, none⟩) := hV 0 (hd 0 (by decide))
          have dS : d 13 = false := hno 13 _ rfl (by decide)
          rw [dS] at hI'
          have hc := hI'.c1
          rw [if_neg (by decide)]
          clear hV hd hno hI hI' dS
          go_simp
          exact rfl
        · intro xs d W hd hno hI hV
          have hI' : R3 W8 g10 e0.e.rc false (.slice A1 m1 cc1) (.slice A2 m2 cc2) (.slice A3 m3 cc3) K1 K2 K3 (d 13) (d 15) (d 17) W := hI
          rw [if_neg (by decide)]
          clear hV hd hno hI hI'
          go_simp
          exact rfl
        · intro xs d W hd hno hI hV
          have hI' : R3 W8 g10 e0.e.rc false (.slice A1 m1 cc1) (.slice A2 m2 cc2) (.slice A3 m3 cc3) K1 K2 K3 (d 13) (d 15) (d 17) W := hI
          have x1 : xs 1 = (.slice A1 m1 cc1) := hV 1 (hd 1 (by decide))
          have x2 : xs 2 = .int .i64 age := hV 2 (hd 2 (by decide))
          have hV' := hV
          rw [if_pos (by decide)]
          intro dc
          clear hV hd hno hI
          go_simp
          refine (hrec1 W hI'.fr).mono ?_
          rintro e W' ⟨v, rfl, ho, hb⟩
          have hz := hI'.fr.size
          exact ⟨_, rfl, hI'.below hb, (by have ho' := own_lower ho hz; rw [← HLen1.out] at ho'; exact ho'), fun j hj => VV.any2 (hV' j hj) (fun h => getG_keep h (fun l h => own_below h hb))⟩
        · intro xs d W hd hno hI hV
          have hI' : R3 W8 g10 e0.e.rc false (.slice A1 m1 cc1) (.slice A2 m2 cc2) (.slice A3 m3 cc3) K1 K2 K3 (d 13) (d 15) (d 17) W := hI
          rw [if_neg (by decide)]
          clear hV hd hno hI hI'
          go_simp
          exact rfl
        · intro xs d W hd hno hI hV
          have hI' : R3 W8 g10 e0.e.rc false (.slice A1 m1 cc1) (.slice A2 m2 cc2) (.slice A3 m3 cc3) K1 K2 K3 (d 13) (d 15) (d 17) W := hI
          have x0 : xs 4 = .pointer (some ⟨g10, 3, none⟩) := hV 4 (hd 4 (by decide))
          have dS : d 15 = false := hno 15 _ rfl (by decide)
          rw [dS] at hI'
          have hc := hI'.c2
          rw [if_neg (by decide)]
          clear hV hd hno hI hI' dS
          go_simp
          exact rfl
        · intro xs d W hd hno hI hV
          have hI' : R3 W8 g10 e0.e.rc false (.slice A1 m1 cc1) (.slice A2 m2 cc2) (.slice A3 m3 cc3) K1 K2 K3 (d 13) (d 15) (d 17) W := hI
          rw [if_neg (by decide)]
          clear hV hd hno hI hI'
          go_simp
          exact rfl
        · intro xs d W hd hno hI hV
          have hI' : R3 W8 g10 e0.e.rc false (.slice A1 m1 cc1) (.slice A2 m2 cc2) (.slice A3 m3 cc3) K1 K2 K3 (d 13) (d 15) (d 17) W := hI
          have x1 : xs 5 = (.slice A2 m2 cc2) := hV 5 (hd 5 (by decide))
          have x2 : xs 6 = .int .i64 age := hV 6 (hd 6 (by decide))
          have hV' := hV
          rw [if_pos (by decide)]
          intro dc
          clear hV hd hno hI
          go_simp
          refine (hrec2 W hI'.fr).mono ?_
          rintro e W' ⟨v, rfl, ho, hb⟩
          have hz := hI'.fr.size
          exact ⟨_, rfl, hI'.below hb, (by have ho' := own_lower ho hz; rw [← HLen2.out] at ho'; exact ho'), fun j hj => VV.any2 (hV' j hj) (fun h => getG_keep h (fun l h => own_below h hb))⟩
        · intro xs d W hd hno hI hV
          have hI' : R3 W8 g10 e0.e.rc false (.slice A1 m1 cc1) (.slice A2 m2 cc2) (.slice A3 m3 cc3) K1 K2 K3 (d 13) (d 15) (d 17) W := hI
          rw [if_neg (by decide)]
          clear hV hd hno hI hI'
          go_simp
          exact rfl
        · intro xs d W hd hno hI hV
          have hI' : R3 W8 g10 e0.e.rc false (.slice A1 m1 cc1) (.slice A2 m2 cc2) (.slice A3 m3 cc3) K1 K2 K3 (d 13) (d 15) (d 17) W := hI
          have x0 : xs 8 = .pointer (some ⟨g10, 4, none⟩) := hV 8 (hd 8 (by decide))
          have dS : d 17 = false := hno 17 _ rfl (by decide)
          rw [dS] at hI'
          have hc := hI'.c3
          rw [if_neg (by decide)]
          clear hV hd hno hI hI' dS
          go_simp
          exact rfl
        · intro xs d W hd hno hI hV
          have hI' : R3 W8 g10 e0.e.rc false (.slice A1 m1 cc1) (.slice A2 m2 cc2) (.slice A3 m3 cc3) K1 K2 K3 (d 13) (d 15) (d 17) W := hI
          rw [if_neg (by decide)]
          clear hV hd hno hI hI'
          go_simp
          exact rfl
        · intro xs d W hd hno hI hV
          have hI' : R3 W8 g10 e0.e.rc false (.slice A1 m1 cc1) (.slice A2 m2 cc2) (.slice A3 m3 cc3) K1 K2 K3 (d 13) (d 15) (d 17) W := hI
          have x1 : xs 9 = (.slice A3 m3 cc3) := hV 9 (hd 9 (by decide))
          have x2 : xs 10 = .int .i64 age := hV 10 (hd 10 (by decide))
          have hV' := hV
          rw [if_pos (by decide)]
          intro dc
          clear hV hd hno hI
          go_simp
          refine (hrec3 W hI'.fr).mono ?_
          rintro e W' ⟨v, rfl, ho, hb⟩
          have hz := hI'.fr.size
          exact ⟨_, rfl, hI'.below hb, (by have ho' := own_lower ho hz; rw [← HLen3.out] at ho'; exact ho'), fun j hj => VV.any2 (hV' j hj) (fun h => getG_keep h (fun l h => own_below h hb))⟩
        · intro xs d W hd hno hI hV
          have hI' : R3 W8 g10 e0.e.rc false (.slice A1 m1 cc1) (.slice A2 m2 cc2) (.slice A3 m3 cc3) K1 K2 K3 (d 13) (d 15) (d 17) W := hI
          rw [if_neg (by decide)]
          clear hV hd hno hI hI'
          go_simp
          exact rfl
        · intro xs d W hd hno hI hV
          have hI' : R3 W8 g10 e0.e.rc false (.slice A1 m1 cc1) (.slice A2 m2 cc2) (.slice A3 m3 cc3) K1 K2 K3 (d 13) (d 15) (d 17) W := hI
          have x9 : xs 12 = .pointer (some ⟨g10, 2, none⟩) := hV 12 (hd 12 (by decide))
          have g2 : W.ownsRow W8.heap.size 46 12 (xs 3) (K1).length (rcs K1) := hV 3 (hd 3 (by decide))
          obtain ⟨A2, c2, e2, hr2⟩ := own_rd g2
          rw [e2] at g2
          obtain ⟨m2, hm2⟩ : ∃ m, (K1).length = m := ⟨_, rfl⟩
          rw [hm2] at e2 g2
          have HM2 := Lib.hid hm2
          clear hm2 hr2
          have hV' := hV
          rw [if_pos (by decide)]
          intro dS
          have hB' := hI'.ex
          obtain ⟨x1', x2', x3', hB', _⟩ := hB'
          have hc := hB'.cell 2 _ rfl
          have hf := hB'.free 2
          have hnk := fun (u : Value) (l : List Rc) (h : W.ownsRow W8.heap.size 46 12 u l.length (rcs l)) => own_ne_blk h hB' (by decide)
          clear hV hd hno hI hB'
          go_simp
          refine ⟨hI'.store1 (by rw [HM2.out]; exact g2), rfl, fun j hj => VV.any2 (hV' j hj) (fun h => getG_keep h (fun l h => own_setCell h g10 2 (hnk _ l h)))⟩
        · intro xs d W hd hno hI hV
          have hI' : R3 W8 g10 e0.e.rc false (.slice A1 m1 cc1) (.slice A2 m2 cc2) (.slice A3 m3 cc3) K1 K2 K3 (d 13) (d 15) (d 17) W := hI
          rw [if_neg (by decide)]
          clear hV hd hno hI hI'
          go_simp
          exact rfl
        · intro xs d W hd hno hI hV
          have hI' : R3 W8 g10 e0.e.rc false (.slice A1 m1 cc1) (.slice A2 m2 cc2) (.slice A3 m3 cc3) K1 K2 K3 (d 13) (d 15) (d 17) W := hI
          have x9 : xs 14 = .pointer (some ⟨g10, 3, none⟩) := hV 14 (hd 14 (by decide))
          have g2 : W.ownsRow W8.heap.size 46 12 (xs 7) (K2).length (rcs K2) := hV 7 (hd 7 (by decide))
          obtain ⟨A2, c2, e2, hr2⟩ := own_rd g2
          rw [e2] at g2
          obtain ⟨m2, hm2⟩ : ∃ m, (K2).length = m := ⟨_, rfl⟩
          rw [hm2] at e2 g2
          have HM2 := Lib.hid hm2
          clear hm2 hr2
          have hV' := hV
          rw [if_pos (by decide)]
          intro dS
          have hB' := hI'.ex
          obtain ⟨x1', x2', x3', hB', _⟩ := hB'
          have hc := hB'.cell 3 _ rfl
          have hf := hB'.free 3
          have hnk := fun (u : Value) (l : List Rc) (h : W.ownsRow W8.heap.size 46 12 u l.length (rcs l)) => own_ne_blk h hB' (by decide)
          clear hV hd hno hI hB'
          go_simp
          refine ⟨hI'.store2 (by rw [HM2.out]; exact g2), rfl, fun j hj => VV.any2 (hV' j hj) (fun h => getG_keep h (fun l h => own_setCell h g10 3 (hnk _ l h)))⟩
        · intro xs d W hd hno hI hV
          have hI' : R3 W8 g10 e0.e.rc false (.slice A1 m1 cc1) (.slice A2 m2 cc2) (.slice A3 m3 cc3) K1 K2 K3 (d 13) (d 15) (d 17) W := hI
          rw [if_neg (by decide)]
          clear hV hd hno hI hI'
          go_simp
          exact rfl
        · intro xs d W hd hno hI hV
          have hI' : R3 W8 g10 e0.e.rc false (.slice A1 m1 cc1) (.slice A2 m2 cc2) (.slice A3 m3 cc3) K1 K2 K3 (d 13) (d 15) (d 17) W := hI
          have x9 : xs 16 = .pointer (some ⟨g10, 4, none⟩) := hV 16 (hd 16 (by decide))
          have g2 : W.ownsRow W8.heap.size 46 12 (xs 11) (K3).length (rcs K3) := hV 11 (hd 11 (by decide))
          obtain ⟨A2, c2, e2, hr2⟩ := own_rd g2
          rw [e2] at g2
          obtain ⟨m2, hm2⟩ : ∃ m, (K3).length = m := ⟨_, rfl⟩
          rw [hm2] at e2 g2
          have HM2 := Lib.hid hm2
          clear hm2 hr2
          have hV' := hV
          rw [if_pos (by decide)]
          intro dS
          have hB' := hI'.ex
          obtain ⟨x1', x2', x3', hB', _⟩ := hB'
          have hc := hB'.cell 4 _ rfl
          have hf := hB'.free 4
          have hnk := fun (u : Value) (l : List Rc) (h : W.ownsRow W8.heap.size 46 12 u l.length (rcs l)) => own_ne_blk h hB' (by decide)
          clear hV hd hno hI hB'
          go_simp
          refine ⟨hI'.store3 (by rw [HM2.out]; exact g2), rfl, fun j hj => VV.any2 (hV' j hj) (fun h => getG_keep h (fun l h => own_setCell h g10 4 (hnk _ l h)))⟩
      case hQ_gA =>
        intro xs Wr hI hV
        have y0 : xs 0 = .pointer (some ⟨g10, 2, none⟩) := hV 0 (by decide)
        have y1 : xs 1 = (.slice A1 m1 cc1) := hV 1 (by decide)
        have y2 : xs 2 = .int .i64 age := hV 2 (by decide)
        obtain ⟨z3, y3⟩ : ∃ z, xs 3 = z := ⟨_, rfl⟩
        have y4 : xs 4 = .pointer (some ⟨g10, 3, none⟩) := hV 4 (by decide)
        have y5 : xs 5 = (.slice A2 m2 cc2) := hV 5 (by decide)
        have y6 : xs 6 = .int .i64 age := hV 6 (by decide)
        obtain ⟨z7, y7⟩ : ∃ z, xs 7 = z := ⟨_, rfl⟩
        have y8 : xs 8 = .pointer (some ⟨g10, 4, none⟩) := hV 8 (by decide)
        have y9 : xs 9 = (.slice A3 m3 cc3) := hV 9 (by decide)
        have y10 : xs 10 = .int .i64 age := hV 10 (by decide)
        obtain ⟨z11, y11⟩ : ∃ z, xs 11 = z := ⟨_, rfl⟩
        have y12 : xs 12 = .pointer (some ⟨g10, 2, none⟩) := hV 12 (by decide)
        have y13 : xs 13 = undef := hV 13 (by decide)
        have y14 : xs 14 = .pointer (some ⟨g10, 3, none⟩) := hV 14 (by decide)
        have y15 : xs 15 = undef := hV 15 (by decide)
        have y16 : xs 16 = .pointer (some ⟨g10, 4, none⟩) := hV 16 (by decide)
        have y17 : xs 17 = undef := hV 17 (by decide)
        have hI' : R3 W8 g10 e0.e.rc false (.slice A1 m1 cc1) (.slice A2 m2 cc2) (.slice A3 m3 cc3) K1 K2 K3 true true true Wr := hI
        clear hV hI
        obtain ⟨hfr9, x1, x2, x3, hB9, _, _, _, p1, p2, p3⟩ := hI'
        replace p1 := p1 rfl
        replace p2 := p2 rfl
        replace p3 := p3 rfl
        rw [HLen1.out] at p1
        rw [HLen2.out] at p2
        rw [HLen3.out] at p3
        have hCH : ∀ i, CH C bm (l1 ++ l2 ++ [e0]) i → i < g5 := fun i hi => by have := CH.lt h _ (CH.sub hsub7 i hi); have := HG5.out; omega
        have hc9 := hc8.fr hfr9 (fun i hi e => by have := hCH i hi; omega)
        have hA9 := hA8.fr hfr9 (show ¬ g5 + 1 = g10 by omega)
        have hF9 := hF8.trans (hfr9.mono (fun i _ hi => .inr (by rw [hi]; have := HG5.out; omega)))
        have hz9 := hfr9.size
        have hz8 := HZ8.out
        clear hrec1 hrec2 hrec3 hc8 hA8 hF8 HB hfr9 hob1 hob2 hob3 rr1' rr2' rr3'
        obtain ⟨B1, k1, rfl, _⟩ := own_rd p1
        obtain ⟨B2, k2, rfl, _⟩ := own_rd p2
        obtain ⟨B3, k3, rfl, _⟩ := own_rd p3
        go_wp2_with (first | (refine wpList_get rfl 28 (.tmp 10) rfl g10 rfl 28 [.int .u16 e0.e.rc, .bool false, .slice B1 m1 k1, .slice B2 m2 k2, .slice B3 m3 k3] _ hB9 Try.underlying28 rfl sizeAns ?_) | (refine wpList_put rfl 28 (.tmp 6) _ rfl (g5 + 1) #[.int .u16 e0.e.rc, .bool false, .slice B1 m1 k1, .slice B2 m2 k2, .slice B3 m3 k3] rfl rfl 28 [.int .u16 0, .bool false, .slice none 0 0, .slice none 0 0, .slice none 0 0] hA9 sizeAns rfl rfl ?_))
        have hfrX : Fr (fun k => k = g5 + 1) Wr (Wr.setRow (g5 + 1) #[.int .u16 e0.e.rc, .bool false, .slice B1 m1 k1, .slice B2 m2 k2, .slice B3 m3 k3]) := (Fr.refl _ _).setRow (g5 + 1) _ (.inl rfl)
        refine bodyPost_ret (results_rec rfl _ _ _ _ _ rfl (hA9.row #[.int .u16 e0.e.rc, .bool false, .slice B1 m1 k1, .slice B2 m2 k2, .slice B3 m3 k3]) Try.underlying28 rfl sizeAns) rfl ?_
        have hgv := HGV2.out
        have hcF := hc9.fr hfrX (fun i hi e => by have := hCH i hi; omega)
        have hFF := hF9.setRow (g5 + 1) #[.int .u16 e0.e.rc, .bool false, .slice B1 m1 k1, .slice B2 m2 k2, .slice B3 m3 k3] (.inr (by have := HG5.out; omega))
        have hbase : W.heap.size ≤ W8.heap.size := by have := HG5.out; have := HZ8.out; omega
        have hw := fun (v : Value) (m : Nat) (cs : List Value) (ho : Wr.ownsRow W8.heap.size 46 12 v m cs) => own_lower (own_fr ho hfrX (fun i hi e => own_ne_blk ho hA9 (by decide) (by rw [← e]; exact hi))) hbase
        have w1 := hw _ _ _ p1
        have w2 := hw _ _ _ p2
        have w3 := hw _ _ _ p3
        rw [← HK1.out, aged_two] at w1
        rw [← HK2.out, aged_two] at w2
        rw [← HK3.out, aged_two] at w3
        refine ⟨l1 ++ l2 ++ [e0], by rw [hgv], ⟨hcF, hFF, fun k hk => .inl (CH.sub hsub7 k hk)⟩, fun k hk => CH.sub hsub7 k hk, ?_⟩
        rw [hgv]
        refine ⟨_, _, _, rfl, ?_, ?_, ?_⟩
        · rw [HAG.out, HM1.out]; exact w1
        · rw [HAG.out, HM2.out]; exact w2
        · rw [HAG.out, HM3.out]; exact w3
    · rw [if_neg hgt] at hagd
      replace hagd : ageV n e0.e = 0 := hagd
      go_upto_region 12 with fail
      rw [show (if n - P < 0 then 0 else n - P) = 0 by split <;> omega, show (0 : Int) / 10 = 0 by decide]
      have HAG := Lib.hid hagd
      clear hagd e10 hgt
      obtain ⟨A1, cc1, ee1, rr1⟩ := own_rd o1
      obtain ⟨A2, cc2, ee2, rr2⟩ := own_rd o2
      obtain ⟨A3, cc3, ee3, rr3⟩ := own_rd o3
      obtain ⟨m1, hm1⟩ : ∃ m, e0.e.an.length = m := ⟨_, rfl⟩
      obtain ⟨m2, hm2⟩ : ∃ m, e0.e.au.length = m := ⟨_, rfl⟩
      obtain ⟨m3, hm3⟩ : ∃ m, e0.e.ex.length = m := ⟨_, rfl⟩
      rw [hm1] at ee1 rr1
      rw [hm2] at ee2 rr2
      rw [hm3] at ee3 rr3
      have hn1 : m1 ≤ 30 := by rw [← hm1]; exact heok.na
      have hn2 : m2 ≤ 30 := by rw [← hm2]; exact heok.nu
      have hn3 : m3 ≤ 30 := by rw [← hm3]; exact heok.nx
      have HM1 := Lib.hid hm1
      have HM2 := Lib.hid hm2
      have HM3 := Lib.hid hm3
      clear hm1 hm2 hm3
      have t0 : W7.cell? ⟨e0.b, 5, none⟩ = some (.int .u16 e0.e.rc) := hE7.cell 5 _ rfl
      have t1 : W7.cell? ⟨e0.b, 6, none⟩ = some (.bool false) := hE7.cell 6 _ rfl
      have t2 : W7.cell? ⟨e0.b, 7, none⟩ = some (.slice A1 m1 cc1) := by rw [← ee1]; exact hE7.cell 7 _ rfl
      have t3 : W7.cell? ⟨e0.b, 8, none⟩ = some (.slice A2 m2 cc2) := by rw [← ee2]; exact hE7.cell 8 _ rfl
      have t4 : W7.cell? ⟨e0.b, 9, none⟩ = some (.slice A3 m3 cc3) := by rw [← ee3]; exact hE7.cell 9 _ rfl
      have hob1 : ∀ ad, A1 = some ad → ad.block < W7.heap.size := fun ad had => by
        obtain ⟨cur, fr, hb⟩ := own_blk o1 (i := ad.block) (by rw [ee1, had]; rcases o1.2 with ⟨x, _⟩ | ⟨g, cap, cur, x, _⟩; (rw [ee1, had] at x; cases x); (rw [ee1, had] at x; cases x; rfl))
        exact (Array.getElem?_eq_some_iff.1 hb).1
      have hob2 : ∀ ad, A2 = some ad → ad.block < W7.heap.size := fun ad had => by
        obtain ⟨cur, fr, hb⟩ := own_blk o2 (i := ad.block) (by rw [ee2, had]; rcases o2.2 with ⟨x, _⟩ | ⟨g, cap, cur, x, _⟩; (rw [ee2, had] at x; cases x); (rw [ee2, had] at x; cases x; rfl))
        exact (Array.getElem?_eq_some_iff.1 hb).1
      have hob3 : ∀ ad, A3 = some ad → ad.block < W7.heap.size := fun ad had => by
        obtain ⟨cur, fr, hb⟩ := own_blk o3 (i := ad.block) (by rw [ee3, had]; rcases o3.2 with ⟨x, _⟩ | ⟨g, cap, cur, x, _⟩; (rw [ee3, had] at x; cases x); (rw [ee3, had] at x; cases x; rfl))
        exact (Array.getElem?_eq_some_iff.1 hb).1
      clear o1 o2 o3 ee1 ee2 ee3
      go_upto_region 13 with fail
      have b8 := below_new W7 (.cells #[.int .u16 e0.e.rc, .bool false, .slice A1 m1 cc1, .slice A2 m2 cc2, .slice A3 m3 cc3] 28)
      have HB := Blk.new W7 28 #[.int .u16 e0.e.rc, .bool false, .slice A1 m1 cc1, .slice A2 m2 cc2, .slice A3 m3 cc3]
      have hz8 := World.size_alloc W7 (.cells #[.int .u16 e0.e.rc, .bool false, .slice A1 m1 cc1, .slice A2 m2 cc2, .slice A3 m3 cc3] 28)
      have hc8 := hc7.below b8
      have hA8 := hA7.below b8
      have hF8 := hF7o.trans (Fr.of_below b8)
      have rr1' := rr1.below b8
      have rr2' := rr2.below b8
      have rr3' := rr3.below b8
      obtain ⟨W8, hW8⟩ : ∃ x, W7.alloc (.cells #[.int .u16 e0.e.rc, .bool false, .slice A1 m1 cc1, .slice A2 m2 cc2, .slice A3 m3 cc3] 28) = x := ⟨_, rfl⟩
      rw [hW8] at HB hz8 hc8 hA8 hF8 rr1' rr2' rr3' ⊢
      clear hW8 b8 t0 t1 t2 t3 t4 hc7 hA7 hF7o rr1 rr2 rr3 hE7
      obtain ⟨g10, hg10⟩ : ∃ x, W7.heap.size = x := ⟨_, rfl⟩
      rw [hg10] at HB hz8 hob1 hob2 hob3 hz7 ⊢
      have HLen1 := Lib.hid (show ((e0.e.an.map (agedR 0)).map (agedR 0)).length = m1 by rw [List.length_map, List.length_map]; exact HM1.out)
      have HLen2 := Lib.hid (show ((e0.e.au.map (agedR 0)).map (agedR 0)).length = m2 by rw [List.length_map, List.length_map]; exact HM2.out)
      have HLen3 := Lib.hid (show ((e0.e.ex.map (agedR 0)).map (agedR 0)).length = m3 by rw [List.length_map, List.length_map]; exact HM3.out)
      have hrec1 := fun (W : World) (hf : Fr (fun k => k = g10) W8 W) => records_ W A1 m1 cc1 (e0.e.an.map (agedR 0)) (rr1'.fr hf (fun ad had => by have := hob1 ad had; omega)) (fun r hr => by obtain ⟨x, hx, rfl⟩ := List.mem_map.1 hr; exact agedR_ok (heok.an x hx).1) (by omega) (fun r hr => by obtain ⟨x, hx, rfl⟩ := List.mem_map.1 hr; show (foldS x.nm).size ≤ _; rw [foldS_size]; have := (heok.an x hx).2; omega) 0 (by omega) (by omega)
      have hrec2 := fun (W : World) (hf : Fr (fun k => k = g10) W8 W) => records_ W A2 m2 cc2 (e0.e.au.map (agedR 0)) (rr2'.fr hf (fun ad had => by have := hob2 ad had; omega)) (fun r hr => by obtain ⟨x, hx, rfl⟩ := List.mem_map.1 hr; exact agedR_ok (heok.au x hx).1) (by omega) (fun r hr => by obtain ⟨x, hx, rfl⟩ := List.mem_map.1 hr; show (foldS x.nm).size ≤ _; rw [foldS_size]; have := (heok.au x hx).2; omega) 0 (by omega) (by omega)
      have hrec3 := fun (W : World) (hf : Fr (fun k => k = g10) W8 W) => records_ W A3 m3 cc3 (e0.e.ex.map (agedR 0)) (rr3'.fr hf (fun ad had => by have := hob3 ad had; omega)) (fun r hr => by obtain ⟨x, hx, rfl⟩ := List.mem_map.1 hr; exact agedR_ok (heok.ex x hx).1) (by omega) (fun r hr => by obtain ⟨x, hx, rfl⟩ := List.mem_map.1 hr; show (foldS x.nm).size ≤ _; rw [foldS_size]; have := (heok.ex x hx).2; omega) 0 (by omega) (by omega)
      obtain ⟨K1, hK1⟩ : ∃ x, (e0.e.an.map (agedR 0)).map (agedR 0) = x := ⟨_, rfl⟩
      rw [hK1] at HLen1
      simp only [hK1] at hrec1
      have HK1 := Lib.hid hK1
      clear hK1
      obtain ⟨K2, hK2⟩ : ∃ x, (e0.e.au.map (agedR 0)).map (agedR 0) = x := ⟨_, rfl⟩
      rw [hK2] at HLen2
      simp only [hK2] at hrec2
      have HK2 := Lib.hid hK2
      clear hK2
      obtain ⟨K3, hK3⟩ : ∃ x, (e0.e.ex.map (agedR 0)).map (agedR 0) = x := ⟨_, rfl⟩
      rw [hK3] at HLen3
      simp only [hK3] at hrec3
      have HK3 := Lib.hid hK3
      clear hK3
      have HZ8 := Lib.hid hz8
      clear hz8
      refine wp_region_loud (by kernel_rfl) (by kernel_rfl) ?fr_gB ?hfr_gB [3, 7, 11, 13, 15, 17] (VV (getc g10 (.slice A1 m1 cc1) (.slice A2 m2 cc2) (.slice A3 m3 cc3) 0) (getG W8.heap.size K1 K2 K3)) (fun q => R3 W8 g10 e0.e.rc false (.slice A1 m1 cc1) (.slice A2 m2 cc2) (.slice A3 m3 cc3) K1 K2 K3 (q.getD 3 false) (q.getD 4 false) (q.getD 5 false)) ?h0_gB ?hob_gB ?hQ_gB (by decide)
      case hfr_gB =>
        intro xs
        simp only [fillL]
        go_simp
        exact rfl
      case h0_gB => exact ⟨(Fr.refl _ W8).drew, _, _, _, HB, fun _ => rfl, fun _ => rfl, fun _ => rfl, (fun h => by cases h), (fun h => by cases h), (fun h => by cases h)⟩
      case hob_gB =>
        refine ⟨?_, ?_, ?_, ?_, ?_, ?_, ?_, ?_, ?_, ?_, ?_, ?_, ?_, ?_, ?_, ?_, ?_, ?_, trivial⟩
        · intro xs d W hd hno hI hV
          have hI' : R3 W8 g10 e0.e.rc false (.slice A1 m1 cc1) (.slice A2 m2 cc2) (.slice A3 m3 cc3) K1 K2 K3 (d 13) (d 15) (d 17) W := hI
          rw [if_neg (by decide)]
          clear hV hd hno hI hI'
          go_simp
          exact rfl
        · intro xs d W hd hno hI hV
          have hI' : R3 W8 g10 e0.e.rc false (.slice A1 m1 cc1) (.slice A2 m2 cc2) (.slice A3 m3 cc3) K1 K2 K3 (d 13) (d 15) (d 17) W := hI
          have x0 : xs 0 = .pointer (some ⟨g10, 2, none⟩) := hV 0 (hd 0 (by decide))
          have dS : d 13 = false := hno 13 _ rfl (by decide)
          rw [dS] at hI'
          have hc := hI'.c1
          rw [if_neg (by decide)]
          clear hV hd hno hI hI' dS
          go_simp
          exact rfl
        · intro xs d W hd hno hI hV
          have hI' : R3 W8 g10 e0.e.rc false (.slice A1 m1 cc1) (.slice A2 m2 cc2) (.slice A3 m3 cc3) K1 K2 K3 (d 13) (d 15) (d 17) W := hI
          rw [if_neg (by decide)]
          clear hV hd hno hI hI'
          go_simp
          exact rfl
        · intro xs d W hd hno hI hV
          have hI' : R3 W8 g10 e0.e.rc false (.slice A1 m1 cc1) (.slice A2 m2 cc2) (.slice A3 m3 cc3) K1 K2 K3 (d 13) (d 15) (d 17) W := hI
          have x1 : xs 1 = (.slice A1 m1 cc1) := hV 1 (hd 1 (by decide))
          have x2 : xs 2 = .int .i64 0 := hV 2 (hd 2 (by decide))
          have hV' := hV
          rw [if_pos (by decide)]
          intro dc
          clear hV hd hno hI
          go_simp
          refine (hrec1 W hI'.fr).mono ?_
          rintro e W' ⟨v, rfl, ho, hb⟩
          have hz := hI'.fr.size
          exact ⟨_, rfl, hI'.below hb, (by have ho' := own_lower ho hz; rw [← HLen1.out] at ho'; exact ho'), fun j hj => VV.any2 (hV' j hj) (fun h => getG_keep h (fun l h => own_below h hb))⟩
        · intro xs d W hd hno hI hV
          have hI' : R3 W8 g10 e0.e.rc false (.slice A1 m1 cc1) (.slice A2 m2 cc2) (.slice A3 m3 cc3) K1 K2 K3 (d 13) (d 15) (d 17) W := hI
          rw [if_neg (by decide)]
          clear hV hd hno hI hI'
          go_simp
          exact rfl
        · intro xs d W hd hno hI hV
          have hI' : R3 W8 g10 e0.e.rc false (.slice A1 m1 cc1) (.slice A2 m2 cc2) (.slice A3 m3 cc3) K1 K2 K3 (d 13) (d 15) (d 17) W := hI
          have x0 : xs 4 = .pointer (some ⟨g10, 3, none⟩) := hV 4 (hd 4 (by decide))
          have dS : d 15 = false := hno 15 _ rfl (by decide)
          rw [dS] at hI'
          have hc := hI'.c2
          rw [if_neg (by decide)]
          clear hV hd hno hI hI' dS
          go_simp
          exact rfl
        · intro xs d W hd hno hI hV
          have hI' : R3 W8 g10 e0.e.rc false (.slice A1 m1 cc1) (.slice A2 m2 cc2) (.slice A3 m3 cc3) K1 K2 K3 (d 13) (d 15) (d 17) W := hI
          rw [if_neg (by decide)]
          clear hV hd hno hI hI'
          go_simp
          exact rfl
        · intro xs d W hd hno hI hV
          have hI' : R3 W8 g10 e0.e.rc false (.slice A1 m1 cc1) (.slice A2 m2 cc2) (.slice A3 m3 cc3) K1 K2 K3 (d 13) (d 15) (d 17) W := hI
          have x1 : xs 5 = (.slice A2 m2 cc2) := hV 5 (hd 5 (by decide))
          have x2 : xs 6 = .int .i64 0 := hV 6 (hd 6 (by decide))
          have hV' := hV
          rw [if_pos (by decide)]
          intro dc
          clear hV hd hno hI
          go_simp
          refine (hrec2 W hI'.fr).mono ?_
          rintro e W' ⟨v, rfl, ho, hb⟩
          have hz := hI'.fr.size
          exact ⟨_, rfl, hI'.below hb, (by have ho' := own_lower ho hz; rw [← HLen2.out] at ho'; exact ho'), fun j hj => VV.any2 (hV' j hj) (fun h => getG_keep h (fun l h => own_below h hb))⟩
        · intro xs d W hd hno hI hV
          have hI' : R3 W8 g10 e0.e.rc false (.slice A1 m1 cc1) (.slice A2 m2 cc2) (.slice A3 m3 cc3) K1 K2 K3 (d 13) (d 15) (d 17) W := hI
          rw [if_neg (by decide)]
          clear hV hd hno hI hI'
          go_simp
          exact rfl
        · intro xs d W hd hno hI hV
          have hI' : R3 W8 g10 e0.e.rc false (.slice A1 m1 cc1) (.slice A2 m2 cc2) (.slice A3 m3 cc3) K1 K2 K3 (d 13) (d 15) (d 17) W := hI
          have x0 : xs 8 = .pointer (some ⟨g10, 4, none⟩) := hV 8 (hd 8 (by decide))
          have dS : d 17 = false := hno 17 _ rfl (by decide)
          rw [dS] at hI'
          have hc := hI'.c3
          rw [if_neg (by decide)]
          clear hV hd hno hI hI' dS
          go_simp
          exact rfl
        · intro xs d W hd hno hI hV
          have hI' : R3 W8 g10 e0.e.rc false (.slice A1 m1 cc1) (.slice A2 m2 cc2) (.slice A3 m3 cc3) K1 K2 K3 (d 13) (d 15) (d 17) W := hI
          rw [if_neg (by decide)]
          clear hV hd hno hI hI'
          go_simp
          exact rfl
        · intro xs d W hd hno hI hV
          have hI' : R3 W8 g10 e0.e.rc false (.slice A1 m1 cc1) (.slice A2 m2 cc2) (.slice A3 m3 cc3) K1 K2 K3 (d 13) (d 15) (d 17) W := hI
          have x1 : xs 9 = (.slice A3 m3 cc3) := hV 9 (hd 9 (by decide))
          have x2 : xs 10 = .int .i64 0 := hV 10 (hd 10 (by decide))
          have hV' := hV
          rw [if_pos (by decide)]
          intro dc
          clear hV hd hno hI
          go_simp
          refine (hrec3 W hI'.fr).mono ?_
          rintro e W' ⟨v, rfl, ho, hb⟩
          have hz := hI'.fr.size
          exact ⟨_, rfl, hI'.below hb, (by have ho' := own_lower ho hz; rw [← HLen3.out] at ho'; exact ho'), fun j hj => VV.any2 (hV' j hj) (fun h => getG_keep h (fun l h => own_below h hb))⟩
        · intro xs d W hd hno hI hV
          have hI' : R3 W8 g10 e0.e.rc false (.slice A1 m1 cc1) (.slice A2 m2 cc2) (.slice A3 m3 cc3) K1 K2 K3 (d 13) (d 15) (d 17) W := hI
          rw [if_neg (by decide)]
          clear hV hd hno hI hI'
          go_simp
          exact rfl
        · intro xs d W hd hno hI hV
          have hI' : R3 W8 g10 e0.e.rc false (.slice A1 m1 cc1) (.slice A2 m2 cc2) (.slice A3 m3 cc3) K1 K2 K3 (d 13) (d 15) (d 17) W := hI
          have x9 : xs 12 = .pointer (some ⟨g10, 2, none⟩) := hV 12 (hd 12 (by decide))
          have g2 : W.ownsRow W8.heap.size 46 12 (xs 3) (K1).length (rcs K1) := hV 3 (hd 3 (by decide))
          obtain ⟨A2, c2, e2, hr2⟩ := own_rd g2
          rw [e2] at g2
          obtain ⟨m2, hm2⟩ : ∃ m, (K1).length = m := ⟨_, rfl⟩
          rw [hm2] at e2 g2
          have HM2 := Lib.hid hm2
          clear hm2 hr2
          have hV' := hV
          rw [if_pos (by decide)]
          intro dS
          have hB' := hI'.ex
          obtain ⟨x1', x2', x3', hB', _⟩ := hB'
          have hc := hB'.cell 2 _ rfl
          have hf := hB'.free 2
          have hnk := fun (u : Value) (l : List Rc) (h : W.ownsRow W8.heap.size 46 12 u l.length (rcs l)) => own_ne_blk h hB' (by decide)
          clear hV hd hno hI hB'
          go_simp
          refine ⟨hI'.store1 (by rw [HM2.out]; exact g2), rfl, fun j hj => VV.any2 (hV' j hj) (fun h => getG_keep h (fun l h => own_setCell h g10 2 (hnk _ l h)))⟩
        · intro xs d W hd hno hI hV
          have hI' : R3 W8 g10 e0.e.rc false (.slice A1 m1 cc1) (.slice A2 m2 cc2) (.slice A3 m3 cc3) K1 K2 K3 (d 13) (d 15) (d 17) W := hI
          rw [if_neg (by decide)]
          clear hV hd hno hI hI'
          go_simp
          exact rfl
        · intro xs d W hd hno hI hV
          have hI' : R3 W8 g10 e0.e.rc false (.slice A1 m1 cc1) (.slice A2 m2 cc2) (.slice A3 m3 cc3) K1 K2 K3 (d 13) (d 15) (d 17) W := hI
          have x9 : xs 14 = .pointer (some ⟨g10, 3, none⟩) := hV 14 (hd 14 (by decide))
          have g2 : W.ownsRow W8.heap.size 46 12 (xs 7) (K2).length (rcs K2) := hV 7 (hd 7 (by decide))
          obtain ⟨A2, c2, e2, hr2⟩ := own_rd g2
          rw [e2] at g2
          obtain ⟨m2, hm2⟩ : ∃ m, (K2).length = m := ⟨_, rfl⟩
          rw [hm2] at e2 g2
          have HM2 := Lib.hid hm2
          clear hm2 hr2
          have hV' := hV
          rw [if_pos (by decide)]
          intro dS
          have hB' := hI'.ex
          obtain ⟨x1', x2', x3', hB', _⟩ := hB'
          have hc := hB'.cell 3 _ rfl
          have hf := hB'.free 3
          have hnk := fun (u : Value) (l : List Rc) (h : W.ownsRow W8.heap.size 46 12 u l.length (rcs l)) => own_ne_blk h hB' (by decide)
          clear hV hd hno hI hB'
          go_simp
          refine ⟨hI'.store2 (by rw [HM2.out]; exact g2), rfl, fun j hj => VV.any2 (hV' j hj) (fun h => getG_keep h (fun l h => own_setCell h g10 3 (hnk _ l h)))⟩
        · intro xs d W hd hno hI hV
          have hI' : R3 W8 g10 e0.e.rc false (.slice A1 m1 cc1) (.slice A2 m2 cc2) (.slice A3 m3 cc3) K1 K2 K3 (d 13) (d 15) (d 17) W := hI
          rw [if_neg (by decide)]
          clear hV hd hno hI hI'
          go_simp
          exact rfl
        · intro xs d W hd hno hI hV
          have hI' : R3 W8 g10 e0.e.rc false (.slice A1 m1 cc1) (.slice A2 m2 cc2) (.slice A3 m3 cc3) K1 K2 K3 (d 13) (d 15) (d 17) W := hI
          have x9 : xs 16 = .pointer (some ⟨g10, 4, none⟩) := hV 16 (hd 16 (by decide))
          have g2 : W.ownsRow W8.heap.size 46 12 (xs 11) (K3).length (rcs K3) := hV 11 (hd 11 (by decide))
          obtain ⟨A2, c2, e2, hr2⟩ := own_rd g2
          rw [e2] at g2
          obtain ⟨m2, hm2⟩ : ∃ m, (K3).length = m := ⟨_, rfl⟩
          rw [hm2] at e2 g2
          have HM2 := Lib.hid hm2
          clear hm2 hr2
          have hV' := hV
          rw [if_pos (by decide)]
          intro dS
          have hB' := hI'.ex
          obtain ⟨x1', x2', x3', hB', _⟩ := hB'
          have hc := hB'.cell 4 _ rfl
          have hf := hB'.free 4
          have hnk := fun (u : Value) (l : List Rc) (h : W.ownsRow W8.heap.size 46 12 u l.length (rcs l)) => own_ne_blk h hB' (by decide)
          clear hV hd hno hI hB'
          go_simp
          refine ⟨hI'.store3 (by rw [HM2.out]; exact g2), rfl, fun j hj => VV.any2 (hV' j hj) (fun h => getG_keep h (fun l h => own_setCell h g10 4 (hnk _ l h)))⟩
      case hQ_gB =>
        intro xs Wr hI hV
        have y0 : xs 0 = .pointer (some ⟨g10, 2, none⟩) := hV 0 (by decide)
        have y1 : xs 1 = (.slice A1 m1 cc1) := hV 1 (by decide)
        have y2 : xs 2 = .int .i64 0 := hV 2 (by decide)
        obtain ⟨z3, y3⟩ : ∃ z, xs 3 = z := ⟨_, rfl⟩
        have y4 : xs 4 = .pointer (some ⟨g10, 3, none⟩) := hV 4 (by decide)
        have y5 : xs 5 = (.slice A2 m2 cc2) := hV 5 (by decide)
        have y6 : xs 6 = .int .i64 0 := hV 6 (by decide)
        obtain ⟨z7, y7⟩ : ∃ z, xs 7 = z := ⟨_, rfl⟩
        have y8 : xs 8 = .pointer (some ⟨g10, 4, none⟩) := hV 8 (by decide)
        have y9 : xs 9 = (.slice A3 m3 cc3) := hV 9 (by decide)
        have y10 : xs 10 = .int .i64 0 := hV 10 (by decide)
        obtain ⟨z11, y11⟩ : ∃ z, xs 11 = z := ⟨_, rfl⟩
        have y12 : xs 12 = .pointer (some ⟨g10, 2, none⟩) := hV 12 (by decide)
        have y13 : xs 13 = undef := hV 13 (by decide)
        have y14 : xs 14 = .pointer (some ⟨g10, 3, none⟩) := hV 14 (by decide)
        have y15 : xs 15 = undef := hV 15 (by decide)
        have y16 : xs 16 = .pointer (some ⟨g10, 4, none⟩) := hV 16 (by decide)
        have y17 : xs 17 = undef := hV 17 (by decide)
        have hI' : R3 W8 g10 e0.e.rc false (.slice A1 m1 cc1) (.slice A2 m2 cc2) (.slice A3 m3 cc3) K1 K2 K3 true true true Wr := hI
        clear hV hI
        obtain ⟨hfr9, x1, x2, x3, hB9, _, _, _, p1, p2, p3⟩ := hI'
        replace p1 := p1 rfl
        replace p2 := p2 rfl
        replace p3 := p3 rfl
        rw [HLen1.out] at p1
        rw [HLen2.out] at p2
        rw [HLen3.out] at p3
        have hCH : ∀ i, CH C bm (l1 ++ l2 ++ [e0]) i → i < g5 := fun i hi => by have := CH.lt h _ (CH.sub hsub7 i hi); have := HG5.out; omega
        have hc9 := hc8.fr hfr9 (fun i hi e => by have := hCH i hi; omega)
        have hA9 := hA8.fr hfr9 (show ¬ g5 + 1 = g10 by omega)
        have hF9 := hF8.trans (hfr9.mono (fun i _ hi => .inr (by rw [hi]; have := HG5.out; omega)))
        have hz9 := hfr9.size
        have hz8 := HZ8.out
        clear hrec1 hrec2 hrec3 hc8 hA8 hF8 HB hfr9 hob1 hob2 hob3 rr1' rr2' rr3'
        obtain ⟨B1, k1, rfl, _⟩ := own_rd p1
        obtain ⟨B2, k2, rfl, _⟩ := own_rd p2
        obtain ⟨B3, k3, rfl, _⟩ := own_rd p3
        go_wp2_with (first | (refine wpList_get rfl 28 (.tmp 10) rfl g10 rfl 28 [.int .u16 e0.e.rc, .bool false, .slice B1 m1 k1, .slice B2 m2 k2, .slice B3 m3 k3] _ hB9 Try.underlying28 rfl sizeAns ?_) | (refine wpList_put rfl 28 (.tmp 6) _ rfl (g5 + 1) #[.int .u16 e0.e.rc, .bool false, .slice B1 m1 k1, .slice B2 m2 k2, .slice B3 m3 k3] rfl rfl 28 [.int .u16 0, .bool false, .slice none 0 0, .slice none 0 0, .slice none 0 0] hA9 sizeAns rfl rfl ?_))
        have hfrX : Fr (fun k => k = g5 + 1) Wr (Wr.setRow (g5 + 1) #[.int .u16 e0.e.rc, .bool false, .slice B1 m1 k1, .slice B2 m2 k2, .slice B3 m3 k3]) := (Fr.refl _ _).setRow (g5 + 1) _ (.inl rfl)
        refine bodyPost_ret (results_rec rfl _ _ _ _ _ rfl (hA9.row #[.int .u16 e0.e.rc, .bool false, .slice B1 m1 k1, .slice B2 m2 k2, .slice B3 m3 k3]) Try.underlying28 rfl sizeAns) rfl ?_
        have hgv := HGV2.out
        have hcF := hc9.fr hfrX (fun i hi e => by have := hCH i hi; omega)
        have hFF := hF9.setRow (g5 + 1) #[.int .u16 e0.e.rc, .bool false, .slice B1 m1 k1, .slice B2 m2 k2, .slice B3 m3 k3] (.inr (by have := HG5.out; omega))
        have hbase : W.heap.size ≤ W8.heap.size := by have := HG5.out; have := HZ8.out; omega
        have hw := fun (v : Value) (m : Nat) (cs : List Value) (ho : Wr.ownsRow W8.heap.size 46 12 v m cs) => own_lower (own_fr ho hfrX (fun i hi e => own_ne_blk ho hA9 (by decide) (by rw [← e]; exact hi))) hbase
        have w1 := hw _ _ _ p1
        have w2 := hw _ _ _ p2
        have w3 := hw _ _ _ p3
        rw [← HK1.out, aged_two] at w1
        rw [← HK2.out, aged_two] at w2
        rw [← HK3.out, aged_two] at w3
        refine ⟨l1 ++ l2 ++ [e0], by rw [hgv], ⟨hcF, hFF, fun k hk => .inl (CH.sub hsub7 k hk)⟩, fun k hk => CH.sub hsub7 k hk, ?_⟩
        rw [hgv]
        refine ⟨_, _, _, rfl, ?_, ?_, ?_⟩
        · rw [HAG.out, HM1.out]; exact w1
        · rw [HAG.out, HM2.out]; exact w2
        · rw [HAG.out, HM3.out]; exact w3
  · have hlook := fun k => (hlk k).2 hno
    unfold Qn.val foldQ ptr at hlook
    simp only [Option.map] at hlook
    clear hlk
    go_quiet (fail)
    have hAq := hA5.fr ((Fr.refl (fun _ => False) W5).drewN nq) (fun h => h)
    have HAQ := Lib.hid hAq
    clear hA5 c2 q0 q1 q2 hlook hQ5
    go_wp2_with (first | (refine wpList_put rfl 28 (.tmp 6) _ rfl (g5 + 1) #[.int .u16 0, .bool false, .slice none 0 0, .slice none 0 0, .slice none 0 0] rfl rfl 28 [.int .u16 0, .bool false, .slice none 0 0, .slice none 0 0, .slice none 0 0] HAQ.out sizeAns rfl rfl ?_))
    refine bodyPost_ret (results_rec rfl _ _ _ _ _ rfl (HAQ.out.row #[.int .u16 0, .bool false, .slice none 0 0, .slice none 0 0, .slice none 0 0]) Try.underlying28 rfl sizeAns) rfl ?_
    have hgv := HGV.out
    rw [(rmV_none hno).2] at hgv
    have hcq := (hc5.fr ((Fr.refl (fun _ => False) W5).drewN nq) (fun _ _ h => h)).fr ((Fr.refl (fun k => k = g5 + 1) _).setRow (g5 + 1) #[.int .u16 0, .bool false, .slice none 0 0, .slice none 0 0, .slice none 0 0] (.inl rfl)) (fun i hi e => (hne i (CH.sub hr1s i hi)).2 e)
    refine ⟨r1, by rw [hgv], ⟨hcq, (hF5.drewN nq).setRow (g5 + 1) #[.int .u16 0, .bool false, .slice none 0 0, .slice none 0 0, .slice none 0 0] (.inr (by have := HG5.out; omega)), fun k hk => .inl (CH.sub hr1s k hk)⟩, fun k hk => CH.sub hr1s k hk, ?_⟩
    rw [hgv]
    rfl
end Go.Proofs.Ytioehogncgloiaa
