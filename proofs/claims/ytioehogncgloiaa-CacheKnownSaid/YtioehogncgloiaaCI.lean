/- cache.Put: contract. -/
import Derived.Test.YtioehogncgloiaaCH
namespace Go.Proofs.Ytioehogncgloiaa
open Go.RowKit Go.HL Go.Maps
set_option linter.unusedVariables false
set_option linter.unusedSimpArgs false
theorem Rd.fr0 {S : Nat → Prop} {w w' : World} {size : Nat} {A : Option Addr} {n c : Nat} {cs : List Value} (h : Rd w size A n c cs) (k : Fr S w w') (hn : ∀ a, A = some a → 0 < n → ¬ S a.block) : Rd w' size A n c cs := by
  refine ⟨h.len, h.nil_, h.le, fun a ha j u hu => ?_⟩
  have hj := (List.getElem?_eq_some_iff.1 hu).1
  rw [h.len] at hj
  have hn0 : 0 < n := by
    rcases Nat.eq_zero_or_pos n with h0 | h0
    · subst h0; omega
    · exact h0
  refine cell_fr k (h.cells a ha j u hu) ?_
  have e : (a.add j).block = a.block := by unfold Addr.add; split <;> rfl
  rw [e]
  exact hn a ha hn0
/-- Rows that lie in none of these blocks. -/
def Sl.apart (S : Nat → Prop) (s : Sl) : Prop := ∀ ad, s.a = some ad → 0 < s.n → ¬ S ad.block
structure Am.apart (S : Nat → Prop) (a : Am) : Prop where
  an : a.an.apart S
  au : a.au.apart S
  ex : a.ex.apart S
theorem Sl.ok.fr {S : Nat → Prop} {W W' : World} {s : Sl} (h : s.ok W) (k : Fr S W W') (hp : s.apart S) : s.ok W' := ⟨Rd.fr0 h.r k hp, h.ok⟩
theorem Am.ok.fr {S : Nat → Prop} {W W' : World} {a : Am} (h : a.ok W) (k : Fr S W W') (hp : a.apart S) : a.ok W' := ⟨h.rc, h.an.fr k hp.an, h.au.fr k hp.au, h.ex.fr k hp.ex⟩
theorem Sl.apart.mono {S T : Nat → Prop} {s : Sl} (h : s.apart S) (hs : ∀ i, T i → S i) : s.apart T := fun ad h1 h2 h3 => h ad h1 h2 (hs _ h3)
theorem Am.apart.mono {S T : Nat → Prop} {a : Am} (h : a.apart S) (hs : ∀ i, T i → S i) : a.apart T := ⟨h.an.mono hs, h.au.mono hs, h.ex.mono hs⟩
theorem Sl.ok.low {W : World} {s : Sl} (h : s.ok W) : s.apart (fun k => W.heap.size ≤ k) := fun ad h1 h2 h3 => by
  have hl := h.len
  obtain ⟨r, hr⟩ : ∃ r, s.l[0]? = some r := ⟨s.l[0], List.getElem?_eq_getElem (by omega)⟩
  have hc := h.r.cells ad h1 0 (.string r.nm) (by
    have := rcs_elem s.l 0 r hr
    rw [Nat.zero_mul, List.drop_zero] at this
    have h2 : ((rcs s.l).take 12)[0]? = some (.string r.nm) := by rw [this]; rfl
    rw [List.getElem?_take] at h2
    simpa using h2)
  have h4 := World.block_lt_of_cell? W _ hc
  have e : (ad.add 0).block = ad.block := by unfold Addr.add; split <;> rfl
  rw [e] at h4
  omega
theorem Am.ok.low {W : World} {a : Am} (h : a.ok W) : a.apart (fun k => W.heap.size ≤ k) := ⟨h.an.low, h.au.low, h.ex.low⟩
theorem CS.sweep {C bm : Nat} {now : Int} {row : List Ce} (k : Nat) (h : CS C bm (sweepC now row) k) : CS C bm row k := CS.sub (fun c hc => (List.mem_filter.1 hc).1) k h
theorem CH.sub {C bm : Nat} {r r' : List Ce} (h : ∀ c ∈ r, c ∈ r') (k : Nat) (hk : CH C bm r k) : CH C bm r' k := by
  rcases hk with hk | ⟨c, hc, hk⟩
  · exact .inl (CS.sub h k hk)
  · exact .inr ⟨c, h c hc, hk⟩
/-- What a call leaves of a cache. -/
structure Left (W : World) (C bm : Nat) (room : Int) (row row' : List Ce) (W' : World) : Prop where
  c : CacheW W' C bm room row'
  f : Fr (CS C bm row) W W'
  h : ∀ k, CH C bm row' k → CH C bm row k ∨ W.heap.size ≤ k
theorem Am.life_nn {W : World} {a : Am} (ha : a.ok W) : 0 ≤ a.life ∧ a.life ≤ 2147483647 := life_bd _ _ _ _ ha.an.ok ha.au.ok ha.ex.ok
def putG (B : Nat) (l1 l2 l3 : List Rc) : Nat → Value → World → Prop
  | 2, u, W => W.ownsRow B 46 12 u l1.length (rcs l1)
  | 5, u, W => W.ownsRow B 46 12 u l2.length (rcs l2)
  | 8, u, W => W.ownsRow B 46 12 u l3.length (rcs l3)
  | _, _, _ => True
def putc (g : Nat) (v1 v2 v3 : Value) (age : Int) : List (Option Value) := [some (.pointer (some ⟨g, 2, none⟩)), some v1, none, some (.pointer (some ⟨g, 3, none⟩)), some v2, none, some (.pointer (some ⟨g, 4, none⟩)), some v3, none, some (.pointer (some ⟨g, 2, none⟩)), some undef, some (.pointer (some ⟨g, 3, none⟩)), some undef, some (.pointer (some ⟨g, 4, none⟩)), some undef]
theorem putG_keep {B : Nat} {l1 l2 l3 : List Rc} {j : Nat} {u : Value} {W W' : World} (h : putG B l1 l2 l3 j u W) (hk : ∀ (l : List Rc), W.ownsRow B 46 12 u l.length (rcs l) → W'.ownsRow B 46 12 u l.length (rcs l)) : putG B l1 l2 l3 j u W' := by
  unfold putG at *
  split at h
  · exact hk l1 h
  · exact hk l2 h
  · exact hk l3 h
  · trivial
set_option maxRecDepth 8000 in
set_option maxHeartbeats 4000000 in
theorem put_ (W : World) (C bm : Nat) (room : Int) (row : List Ce) (h : CacheW W C bm room row) (hr1 : 1 ≤ room) (hr2 : room ≤ 4096) (hlen : (row.length : Int) ≤ room) (q : Qn) (hq : q.ok) (hqs : q.nm.size ≤ 2000) (a : Am) (ha : a.ok W) (hs : a.small) (hap : a.apart (CS C bm row)) (now : Int) :
    Calls Try.prog 10 #[ptr (some C), q.val, a.val, .int .i64 now] W fun en W' => ∃ row', en = .returned (.bool (putV room (row.map Ce.e) q a.rc a.an.l a.au.l a.ex.l now).2) ∧ row'.map Ce.e = (putV room (row.map Ce.e) q a.rc a.an.l a.au.l a.ex.l now).1 ∧ Left W C bm room row row' W' := by
  obtain ⟨n, hn⟩ : ∃ n, clockV now = n := ⟨_, rfl⟩
  have hnb := clockV_bd now
  rw [hn] at hnb
  have hclk := fun W => clock_ W now
  rw [hn] at hclk
  have b1 := below_new W (.cells #[.string q.nm, .int .u16 q.ty, .int .u16 q.cl] 25)
  have b2 := below_alloc b1 (.cells #[.int .u16 a.rc, .bool a.aa, .slice a.an.a a.an.n a.an.c, .slice a.au.a a.au.n a.au.c, .slice a.ex.a a.ex.n a.ex.c] 28)
  have hQ := (Blk.new W 25 #[.string q.nm, .int .u16 q.ty, .int .u16 q.cl]).alloc (.cells #[.int .u16 a.rc, .bool a.aa, .slice a.an.a a.an.n a.an.c, .slice a.au.a a.au.n a.au.c, .slice a.ex.a a.ex.n a.ex.c] 28)
  have hA := Blk.new (W.alloc (.cells #[.string q.nm, .int .u16 q.ty, .int .u16 q.cl] 25)) 28 #[.int .u16 a.rc, .bool a.aa, .slice a.an.a a.an.n a.an.c, .slice a.au.a a.au.n a.au.c, .slice a.ex.a a.ex.n a.ex.c]
  rw [World.size_alloc] at hA
  have hz : ((W.alloc (.cells #[.string q.nm, .int .u16 q.ty, .int .u16 q.cl] 25)).alloc (.cells #[.int .u16 a.rc, .bool a.aa, .slice a.an.a a.an.n a.an.c, .slice a.au.a a.au.n a.au.c, .slice a.ex.a a.ex.n a.ex.c] 28)).heap.size = W.heap.size + 2 := by rw [World.size_alloc, World.size_alloc]
  have HB2 := Lib.hid (Fr.of_below (S := CS C bm row) b2)
  have hsw := sweep_ ((W.alloc (.cells #[.string q.nm, .int .u16 q.ty, .int .u16 q.cl] 25)).alloc (.cells #[.int .u16 a.rc, .bool a.aa, .slice a.an.a a.an.n a.an.c, .slice a.au.a a.au.n a.au.c, .slice a.ex.a a.ex.n a.ex.c] 28)) C bm room n row (h.below b2)
  obtain ⟨W0, hW0⟩ : ∃ x, (W.alloc (.cells #[.string q.nm, .int .u16 q.ty, .int .u16 q.cl] 25)).alloc (.cells #[.int .u16 a.rc, .bool a.aa, .slice a.an.a a.an.n a.an.c, .slice a.au.a a.au.n a.au.c, .slice a.ex.a a.ex.n a.ex.c] 28) = x := ⟨_, rfl⟩
  rw [hW0] at b2 hQ hA hz hsw HB2
  have ha0 := ha.below b2
  obtain ⟨r1, hr1e⟩ : ∃ x, sweepC n row = x := ⟨_, rfl⟩
  have hr1V : r1.map Ce.e = sweepV n (row.map Ce.e) := by rw [← hr1e]; exact sweepC_e n row
  have hr1s : ∀ c ∈ r1, c ∈ row := fun c hc => by rw [← hr1e] at hc; exact (List.mem_filter.1 hc).1
  have hr1l : r1.length ≤ row.length := by rw [← hr1e]; exact List.length_filter_le _ _
  rw [hr1e] at hsw
  have hg5 : ¬ CS C bm row W.heap.size := fun x => by have := CH.lt h _ (.inl x); omega
  have hg6 : ¬ CS C bm row (W.heap.size + 1) := fun x => by have := CH.lt h _ (.inl x); omega
  have hlife := fun W h => life_ W a h hs
  have hchk := fun W => check_ W q.nm (by omega)
  have hfold := fun W => fold_ W q.nm (by omega)
  have hlnn := Am.life_nn ha
  have hput0 : a.life = 0 ∨ isNm q.nm = false → putV room (row.map Ce.e) q a.rc a.an.l a.au.l a.ex.l now = (r1.map Ce.e, false) := fun hx => by
    unfold putV
    rw [hn, ← hr1V]
    exact if_pos hx
  have Hput0 := Lib.hid hput0
  have HN := Lib.hid hn
  obtain ⟨L, hL⟩ : ∃ x, a.life = x := ⟨_, rfl⟩
  have HL := Lib.hid hL
  rw [hL] at hlife hlnn
  obtain ⟨isn, hisn⟩ : ∃ x, isNm q.nm = x := ⟨_, rfl⟩
  have HI := Lib.hid hisn
  rw [hisn] at hchk
  have hCl : C < W.heap.size := CH.lt h _ (.inl (.inl rfl))
  obtain ⟨g5, hg5e⟩ : ∃ x, W.heap.size = x := ⟨_, rfl⟩
  rw [hg5e] at hQ hA hz hg5 hg6 b2 hCl
  have HG5 := Lib.hid hg5e
  clear hput0 hn hL hisn b1 hr1e
  unfold ptr Qn.val Am.val at *
  simp only [Option.map] at hsw
  go_enter Try.func10, Try.ntmps10
  by_cases hL0 : L = 0
  · subst hL0
    go_wp2_with (first | (go_at_call 29; refine (hclk _).mono ?_; rintro en w1 ⟨rfl, rfl⟩) | (go_at_call 30; refine hsw.mono ?_; clear hsw; rintro en W1 ⟨rfl, hc1, hf1⟩; have hQ1 := hQ.fr hf1 hg5; have hA1 := hA.fr hf1 hg6; have ha1 := ha0.fr hf1 hap; have hF1 := Lib.hid (HB2.out.trans' hf1); have k0 := hA1.cell 0 _ rfl; have k1 := hA1.cell 1 _ rfl; have k2 := hA1.cell 2 _ rfl; have k3 := hA1.cell 3 _ rfl; have k4 := hA1.cell 4 _ rfl) | (go_at_call 31; refine (hlife _ ha1).mono ?_; rintro en W2 ⟨rfl, hb2⟩; have hQ2 := hQ1.below hb2; have n0 := hQ2.cell 0 _ rfl))
    go_ret
    have hpv := Hput0.out (.inl HL.out)
    exact ⟨r1, by rw [hpv]; rfl, by rw [hpv], hc1.below hb2, hF1.out.trans (Fr.of_below hb2), fun k hk => .inl (CH.sub hr1s k hk)⟩
  · have hLne : (L == 0) = false := by simp; omega
    cases isn with
    | false =>
      simp only [Bool.false_eq_true, if_false] at hchk
      go_wp2_with (first | (go_at_call 29; refine (hclk _).mono ?_; rintro en w1 ⟨rfl, rfl⟩) | (go_at_call 30; refine hsw.mono ?_; clear hsw; rintro en W1 ⟨rfl, hc1, hf1⟩; have hQ1 := hQ.fr hf1 hg5; have hA1 := hA.fr hf1 hg6; have ha1 := ha0.fr hf1 hap; have hF1 := Lib.hid (HB2.out.trans' hf1); have k0 := hA1.cell 0 _ rfl; have k1 := hA1.cell 1 _ rfl; have k2 := hA1.cell 2 _ rfl; have k3 := hA1.cell 3 _ rfl; have k4 := hA1.cell 4 _ rfl) | (go_at_call 31; refine (hlife _ ha1).mono ?_; rintro en W2 ⟨rfl, hb2⟩; have hQ2 := hQ1.below hb2; have n0 := hQ2.cell 0 _ rfl) | (go_at_call 32; refine (hchk _).mono ?_; rintro en W3 ⟨rfl, hb3⟩; have hQ3 := hQ2.below hb3; have n03 := hQ3.cell 0 _ rfl; have f03 := hQ3.free 0))
      go_ret
      have hpv := Hput0.out (.inr HI.out)
      exact ⟨r1, by rw [hpv]; rfl, by rw [hpv], (hc1.below hb2).below hb3, (hF1.out.trans (Fr.of_below hb2)).trans (Fr.of_below hb3), fun k hk => .inl (CH.sub hr1s k hk)⟩
    | true =>
      simp only [if_true] at hchk
      go_upto_region 9 with (first | (go_at_call 29; refine (hclk _).mono ?_; rintro en w1 ⟨rfl, rfl⟩) | (go_at_call 30; refine hsw.mono ?_; clear hsw; rintro en W1 ⟨rfl, hc1, hf1⟩; have hQ1 := hQ.fr hf1 hg5; have hA1 := hA.fr hf1 hg6; have ha1 := ha0.fr hf1 hap; have hF1 := Lib.hid (HB2.out.trans' hf1); have k0 := hA1.cell 0 _ rfl; have k1 := hA1.cell 1 _ rfl; have k2 := hA1.cell 2 _ rfl; have k3 := hA1.cell 3 _ rfl; have k4 := hA1.cell 4 _ rfl) | (go_at_call 31; refine (hlife _ ha1).mono ?_; rintro en W2 ⟨rfl, hb2⟩; have hQ2 := hQ1.below hb2; have n0 := hQ2.cell 0 _ rfl) | (go_at_call 32; refine (hchk _).mono ?_; rintro en W3 ⟨rfl, hb3⟩; have hQ3 := hQ2.below hb3; have n03 := hQ3.cell 0 _ rfl; have f03 := hQ3.free 0) | (go_at_call 33; refine (hfold _).mono ?_; rintro en W4 ⟨rfl, hb4⟩; have hQ4 := hQ3.below hb4; have f04 := hQ4.free 0; have n04 := hQ4.cell 0 _ rfl))
      have hc4 := ((hc1.below hb2).below hb3).below hb4
      have hA4 := ((hA1.below hb2).below hb3).below hb4
      have ha4 := ((ha1.below hb2).below hb3).below hb4
      have hF4 := ((hF1.out.trans (Fr.of_below hb2)).trans (Fr.of_below hb3)).trans (Fr.of_below hb4)
      have hz4 : g5 + 2 ≤ W4.heap.size := by have := hf1.size; have := hb2.size; have := hb3.size; have := hb4.size; omega
      have hst := fr_set W4 g5 0 (.string (foldS q.nm))
      have hne : ∀ i, CH C bm row i → i ≠ g5 ∧ i ≠ g5 + 1 := fun i hi => by have := CH.lt h _ hi; omega
      have hc5 := hc4.fr hst (fun i hi e => (hne i (CH.sub hr1s i hi)).1 e)
      have hQ5 := hQ4.set 0 (.string (foldS q.nm))
      have hA5 := hA4.set_other 0 (.string (foldS q.nm)) (show g5 + 1 ≠ g5 by omega)
      have hF5 := hF4.setCell g5 0 (.string (foldS q.nm)) (.inr (by omega))
      have ha5 := ha4.fr hst (ha.low.mono (fun i hi => by rw [hi]; exact Nat.le_of_eq HG5.out))
      clear k0 k1 k2 k3 k4 n0 n03 f03 f04 n04 hQ1 hQ2 hQ3 hQ4 hA1 hA4 hA ha1 ha4 ha0 hQ hc4 hst hF1 hb2 hb3 hb4 hc1 hf1 hF4
      obtain ⟨W5, hW5⟩ : ∃ x, W4.setCell ⟨g5, 0, none⟩ (.string (foldS q.nm)) = x := ⟨_, rfl⟩
      have hz5 : g5 + 2 ≤ W5.heap.size := by rw [← hW5, size_setCell]; exact hz4
      rw [hW5] at hc5 hQ5 hA5 hF5 ha5 ⊢
      clear hW5 hz4
      have hfo := foldQ_ok hq
      have hput1 : putV room (row.map Ce.e) q a.rc a.an.l a.au.l a.ex.l now = (if room < ((rmV (foldQ q) (r1.map Ce.e)).length : Int) + 1 then ((rmV (foldQ q) (r1.map Ce.e) ++ [newAe q a.rc a.an.l a.au.l a.ex.l n]).drop 1, true) else (rmV (foldQ q) (r1.map Ce.e) ++ [newAe q a.rc a.an.l a.au.l a.ex.l n], true)) := by
        unfold putV
        rw [HN.out, ← hr1V, if_neg (by rw [HI.out]; intro hx; rcases hx with hx | hx; exact hL0 (HL.out ▸ hx); cases hx)]
      have HP1 := Lib.hid hput1
      clear hput1
      have c2 : W5.cell? ⟨C, 2, none⟩ = some (.map (some bm)) := hc5.hd.cell 2 _ rfl
      have q0 : W5.cell? ⟨g5, 0, none⟩ = some (.string (foldS q.nm)) := hQ5.cell 0 _ rfl
      have q1 : W5.cell? ⟨g5, 1, none⟩ = some (.int .u16 q.ty) := hQ5.cell 1 _ rfl
      have q2 : W5.cell? ⟨g5, 2, none⟩ = some (.int .u16 q.cl) := hQ5.cell 2 _ rfl
      have hlk := fun k => MapR.look (W := W5.drewN k) (show MapR (W5.drewN k) bm r1 from hc5.mp.fr ((Fr.refl (fun _ => False) W5).drewN k) (fun h => h)) hc5.keys hc5.nk (foldQ q) hfo
      rcases split_key r1 (foldQ q) hc5.nk with ⟨l1, e0, l2, hsp, hek, hl1⟩ | hno
      · have hlook := fun k => (hlk k).1 l1 e0 l2 hsp hek
        unfold Qn.val foldQ ptr at hlook
        simp only [Option.map] at hlook
        clear hlk
        go_quiet (fail)
        have hcq := hc5.fr ((Fr.refl (fun _ => False) W5).drewN nq) (fun _ _ h => h)
        have hQq := hQ5.fr ((Fr.refl (fun _ => False) W5).drewN nq) (fun h => h)
        have hAq := hA5.fr ((Fr.refl (fun _ => False) W5).drewN nq) (fun h => h)
        have haq := ha5.below (below_drewN (Below.refl W5.heap.size W5) nq)
        have hFq := hF5.drewN nq
        have hzq : g5 + 2 ≤ (W5.drewN nq).heap.size := by rw [drewN_heap]; exact hz5
        obtain ⟨Wq, hWq⟩ : ∃ x, W5.drewN nq = x := ⟨_, rfl⟩
        rw [hWq] at hcq hQq hAq haq hFq hzq ⊢
        have hsubq : ∀ c ∈ l1 ++ e0 :: l2, c ∈ row := fun c hc => hr1s c (by rw [hsp]; exact hc)
        have HR2 : Hid (rmV (foldQ q) (r1.map Ce.e) = (l1 ++ l2).map Ce.e) := Lib.hid (by rw [hsp]; exact (rmV_mid hl1 hek).1)
        have hl6 : (l1 ++ l2).length ≤ row.length := by rw [hsp] at hr1l; simp at hr1l ⊢; omega
        rw [hsp] at hcq
        have hsub2 : ∀ c ∈ l1 ++ l2, c ∈ l1 ++ e0 :: l2 := by intro c hc; simp at hc ⊢; rcases hc with h | h <;> simp [h]
        have hno2 : ∀ c ∈ l1 ++ l2, c.e.key ≠ foldQ q := by
          intro c hc hk
          rcases List.mem_append.1 hc with hc | hc
          · exact hl1 c hc hk
          · have hnk := hcq.nk
            rw [List.map_append, List.map_cons, List.nodup_append, List.nodup_cons] at hnk
            exact hnk.2.1.1 (List.mem_map.2 ⟨c, hc, by rw [hk, hek]⟩)
        have hsub : ∀ c ∈ l1 ++ l2, c ∈ row := fun c hc => hsubq c (hsub2 c hc)
        have hdr := drop_ Wq C bm room l1 l2 e0 hcq
        unfold ptr at hdr
        simp only [Option.map] at hdr
        clear hc5 hQ5 hA5 ha5 hF5 hz5 c2 q0 q1 q2 hlook hr1s hr1l hWq hcq
        go_upto_region 12 with (first | (go_at_call 34; refine hdr.mono ?_; clear hdr; rintro en W6 ⟨rfl, hc6, hf6⟩))
        have hf6' : Fr (CS C bm row) Wq W6 := hf6.mono (fun k _ hk => CS.sub hsubq k hk)
        have hQ6 := hQq.fr hf6' hg5
        have hA6 := hAq.fr hf6' hg6
        have ha6 := haq.fr hf6' hap
        have hF6 := hFq.trans' hf6'
        have hz6 : g5 + 2 ≤ W6.heap.size := Nat.le_trans hzq hf6.size
        obtain ⟨r2, hr2⟩ : ∃ x, l1 ++ l2 = x := ⟨_, rfl⟩
        rw [hr2] at hc6 hno2 hsub hl6 HR2
        clear hr2 hsp hl1 hsub2 hsubq hf6 hf6' hQq hAq haq hFq hzq
        have hrec1 := fun (W : World) (hf : Fr (fun k => k = g5 + 1) W6 W) => records_ W a.an.a a.an.n a.an.c a.an.l (Rd.fr0 ha6.an.r hf (fun ad h1 h2 h3 => ha.an.low ad h1 h2 (by rw [h3]; have := HG5.out; omega))) ha.an.ok (by have := hs.an; omega) (fun r hr => by have := hs.na r hr; omega) 0 (by omega) (by omega)
        have hrec2 := fun (W : World) (hf : Fr (fun k => k = g5 + 1) W6 W) => records_ W a.au.a a.au.n a.au.c a.au.l (Rd.fr0 ha6.au.r hf (fun ad h1 h2 h3 => ha.au.low ad h1 h2 (by rw [h3]; have := HG5.out; omega))) ha.au.ok (by have := hs.au; omega) (fun r hr => by have := hs.nu r hr; omega) 0 (by omega) (by omega)
        have hrec3 := fun (W : World) (hf : Fr (fun k => k = g5 + 1) W6 W) => records_ W a.ex.a a.ex.n a.ex.c a.ex.l (Rd.fr0 ha6.ex.r hf (fun ad h1 h2 h3 => ha.ex.low ad h1 h2 (by rw [h3]; have := HG5.out; omega))) ha.ex.ok (by have := hs.ex; omega) (fun r hr => by have := hs.nx r hr; omega) 0 (by omega) (by omega)
        have HLen1 := Lib.hid (show (a.an.l.map (agedR 0)).length = a.an.n by rw [List.length_map]; exact ha.an.len)
        have HLen2 := Lib.hid (show (a.au.l.map (agedR 0)).length = a.au.n by rw [List.length_map]; exact ha.au.len)
        have HLen3 := Lib.hid (show (a.ex.l.map (agedR 0)).length = a.ex.n by rw [List.length_map]; exact ha.ex.len)
        have HB := hA6
        go_upto_region 12 with fail
        refine wp_region_loud (by kernel_rfl) (by kernel_rfl) ?fr_Y ?hfr_Y [2, 5, 8, 10, 12, 14] (VV (putc (g5 + 1) (.slice a.an.a a.an.n a.an.c) (.slice a.au.a a.au.n a.au.c) (.slice a.ex.a a.ex.n a.ex.c) 0) (putG W6.heap.size (a.an.l.map (agedR 0)) (a.au.l.map (agedR 0)) (a.ex.l.map (agedR 0)))) (fun q => R3 W6 (g5 + 1) a.rc a.aa (.slice a.an.a a.an.n a.an.c) (.slice a.au.a a.au.n a.au.c) (.slice a.ex.a a.ex.n a.ex.c) (a.an.l.map (agedR 0)) (a.au.l.map (agedR 0)) (a.ex.l.map (agedR 0)) (q.getD 3 false) (q.getD 4 false) (q.getD 5 false)) ?h0_Y ?hob_Y ?hQ_Y (by decide)
        case hfr_Y =>
          intro xs
          simp only [fillL]
          go_simp
          exact rfl
        case h0_Y => exact ⟨(Fr.refl _ W6).drew, _, _, _, HB, fun _ => rfl, fun _ => rfl, fun _ => rfl, (fun h => by cases h), (fun h => by cases h), (fun h => by cases h)⟩
        case hob_Y =>
          refine ⟨?_, ?_, ?_, ?_, ?_, ?_, ?_, ?_, ?_, ?_, ?_, ?_, ?_, ?_, ?_, trivial⟩
          · intro xs d W hd hno hI hV
            have hI' : R3 W6 (g5 + 1) a.rc a.aa (.slice a.an.a a.an.n a.an.c) (.slice a.au.a a.au.n a.au.c) (.slice a.ex.a a.ex.n a.ex.c) (a.an.l.map (agedR 0)) (a.au.l.map (agedR 0)) (a.ex.l.map (agedR 0)) (d 10) (d 12) (d 14) W := hI
            rw [if_neg (by decide)]
            clear hV hd hno hI hI'
            go_simp
            exact rfl
          · intro xs d W hd hno hI hV
            have hI' : R3 W6 (g5 + 1) a.rc a.aa (.slice a.an.a a.an.n a.an.c) (.slice a.au.a a.au.n a.au.c) (.slice a.ex.a a.ex.n a.ex.c) (a.an.l.map (agedR 0)) (a.au.l.map (agedR 0)) (a.ex.l.map (agedR 0)) (d 10) (d 12) (d 14) W := hI
            have x0 : xs 0 = .pointer (some ⟨(g5 + 1), 2, none⟩) := hV 0 (hd 0 (by decide))
            have dS : d 10 = false := hno 10 _ rfl (by decide)
            rw [dS] at hI'
            have hc := hI'.c1
            rw [if_neg (by decide)]
            clear hV hd hno hI hI' dS
            go_simp
            exact rfl
          · intro xs d W hd hno hI hV
            have hI' : R3 W6 (g5 + 1) a.rc a.aa (.slice a.an.a a.an.n a.an.c) (.slice a.au.a a.au.n a.au.c) (.slice a.ex.a a.ex.n a.ex.c) (a.an.l.map (agedR 0)) (a.au.l.map (agedR 0)) (a.ex.l.map (agedR 0)) (d 10) (d 12) (d 14) W := hI
            have x1 : xs 1 = (.slice a.an.a a.an.n a.an.c) := hV 1 (hd 1 (by decide))
            have hV' := hV
            rw [if_pos (by decide)]
            intro dc
            clear hV hd hno hI
            go_simp
            refine (hrec1 W hI'.fr).mono ?_
            rintro e W' ⟨v, rfl, ho, hb⟩
            have hz := hI'.fr.size
            exact ⟨_, rfl, hI'.below hb, (by have ho' := own_lower ho hz; rw [← HLen1.out] at ho'; exact ho'), fun j hj => VV.any2 (hV' j hj) (fun h => putG_keep h (fun l h => own_below h hb))⟩
          · intro xs d W hd hno hI hV
            have hI' : R3 W6 (g5 + 1) a.rc a.aa (.slice a.an.a a.an.n a.an.c) (.slice a.au.a a.au.n a.au.c) (.slice a.ex.a a.ex.n a.ex.c) (a.an.l.map (agedR 0)) (a.au.l.map (agedR 0)) (a.ex.l.map (agedR 0)) (d 10) (d 12) (d 14) W := hI
            rw [if_neg (by decide)]
            clear hV hd hno hI hI'
            go_simp
            exact rfl
          · intro xs d W hd hno hI hV
            have hI' : R3 W6 (g5 + 1) a.rc a.aa (.slice a.an.a a.an.n a.an.c) (.slice a.au.a a.au.n a.au.c) (.slice a.ex.a a.ex.n a.ex.c) (a.an.l.map (agedR 0)) (a.au.l.map (agedR 0)) (a.ex.l.map (agedR 0)) (d 10) (d 12) (d 14) W := hI
            have x0 : xs 3 = .pointer (some ⟨(g5 + 1), 3, none⟩) := hV 3 (hd 3 (by decide))
            have dS : d 12 = false := hno 12 _ rfl (by decide)
            rw [dS] at hI'
            have hc := hI'.c2
            rw [if_neg (by decide)]
            clear hV hd hno hI hI' dS
            go_simp
            exact rfl
          · intro xs d W hd hno hI hV
            have hI' : R3 W6 (g5 + 1) a.rc a.aa (.slice a.an.a a.an.n a.an.c) (.slice a.au.a a.au.n a.au.c) (.slice a.ex.a a.ex.n a.ex.c) (a.an.l.map (agedR 0)) (a.au.l.map (agedR 0)) (a.ex.l.map (agedR 0)) (d 10) (d 12) (d 14) W := hI
            have x1 : xs 4 = (.slice a.au.a a.au.n a.au.c) := hV 4 (hd 4 (by decide))
            have hV' := hV
            rw [if_pos (by decide)]
            intro dc
            clear hV hd hno hI
            go_simp
            refine (hrec2 W hI'.fr).mono ?_
            rintro e W' ⟨v, rfl, ho, hb⟩
            have hz := hI'.fr.size
            exact ⟨_, rfl, hI'.below hb, (by have ho' := own_lower ho hz; rw [← HLen2.out] at ho'; exact ho'), fun j hj => VV.any2 (hV' j hj) (fun h => putG_keep h (fun l h => own_below h hb))⟩
          · intro xs d W hd hno hI hV
            have hI' : R3 W6 (g5 + 1) a.rc a.aa (.slice a.an.a a.an.n a.an.c) (.slice a.au.a a.au.n a.au.c) (.slice a.ex.a a.ex.n a.ex.c) (a.an.l.map (agedR 0)) (a.au.l.map (agedR 0)) (a.ex.l.map (agedR 0)) (d 10) (d 12) (d 14) W := hI
            rw [if_neg (by decide)]
            clear hV hd hno hI hI'
            go_simp
            exact rfl
          · intro xs d W hd hno hI hV
            have hI' : R3 W6 (g5 + 1) a.rc a.aa (.slice a.an.a a.an.n a.an.c) (.slice a.au.a a.au.n a.au.c) (.slice a.ex.a a.ex.n a.ex.c) (a.an.l.map (agedR 0)) (a.au.l.map (agedR 0)) (a.ex.l.map (agedR 0)) (d 10) (d 12) (d 14) W := hI
            have x0 : xs 6 = .pointer (some ⟨(g5 + 1), 4, none⟩) := hV 6 (hd 6 (by decide))
            have dS : d 14 = false := hno 14 _ rfl (by decide)
            rw [dS] at hI'
            have hc := hI'.c3
            rw [if_neg (by decide)]
            clear hV hd hno hI hI' dS
            go_simp
            exact rfl
          · intro xs d W hd hno hI hV
            have hI' : R3 W6 (g5 + 1) a.rc a.aa (.slice a.an.a a.an.n a.an.c) (.slice a.au.a a.au.n a.au.c) (.slice a.ex.a a.ex.n a.ex.c) (a.an.l.map (agedR 0)) (a.au.l.map (agedR 0)) (a.ex.l.map (agedR 0)) (d 10) (d 12) (d 14) W := hI
            have x1 : xs 7 = (.slice a.ex.a a.ex.n a.ex.c) := hV 7 (hd 7 (by decide))
            have hV' := hV
            rw [if_pos (by decide)]
            intro dc
            clear hV hd hno hI
            go_simp
            refine (hrec3 W hI'.fr).mono ?_
            rintro e W' ⟨v, rfl, ho, hb⟩
            have hz := hI'.fr.size
            exact ⟨_, rfl, hI'.below hb, (by have ho' := own_lower ho hz; rw [← HLen3.out] at ho'; exact ho'), fun j hj => VV.any2 (hV' j hj) (fun h => putG_keep h (fun l h => own_below h hb))⟩
          · intro xs d W hd hno hI hV
            have hI' : R3 W6 (g5 + 1) a.rc a.aa (.slice a.an.a a.an.n a.an.c) (.slice a.au.a a.au.n a.au.c) (.slice a.ex.a a.ex.n a.ex.c) (a.an.l.map (agedR 0)) (a.au.l.map (agedR 0)) (a.ex.l.map (agedR 0)) (d 10) (d 12) (d 14) W := hI
            rw [if_neg (by decide)]
            clear hV hd hno hI hI'
            go_simp
            exact rfl
          · intro xs d W hd hno hI hV
            have hI' : R3 W6 (g5 + 1) a.rc a.aa (.slice a.an.a a.an.n a.an.c) (.slice a.au.a a.au.n a.au.c) (.slice a.ex.a a.ex.n a.ex.c) (a.an.l.map (agedR 0)) (a.au.l.map (agedR 0)) (a.ex.l.map (agedR 0)) (d 10) (d 12) (d 14) W := hI
            have x9 : xs 9 = .pointer (some ⟨(g5 + 1), 2, none⟩) := hV 9 (hd 9 (by decide))
            have g2 : W.ownsRow W6.heap.size 46 12 (xs 2) ((a.an.l.map (agedR 0))).length (rcs (a.an.l.map (agedR 0))) := hV 2 (hd 2 (by decide))
            obtain ⟨A2, c2, e2, hr2⟩ := own_rd g2
            rw [e2] at g2
            obtain ⟨m2, hm2⟩ : ∃ m, ((a.an.l.map (agedR 0))).length = m := ⟨_, rfl⟩
            rw [hm2] at e2 g2
            have HM2 := Lib.hid hm2
            clear hm2 hr2
            have hV' := hV
            rw [if_pos (by decide)]
            intro dS
            have hB' := hI'.ex
            obtain ⟨x1', x2', x3', hB', _⟩ := hB'
            have hc := hB'.cell 2 _ rfl
            have hf := hB'.free 2
            have hnk := fun (u : Value) (l : List Rc) (h : W.ownsRow W6.heap.size 46 12 u l.length (rcs l)) => own_ne_blk h hB' (by decide)
            clear hV hd hno hI hB'
            go_simp
            refine ⟨hI'.store1 (by rw [HM2.out]; exact g2), rfl, fun j hj => VV.any2 (hV' j hj) (fun h => putG_keep h (fun l h => own_setCell h (g5 + 1) 2 (hnk _ l h)))⟩
          · intro xs d W hd hno hI hV
            have hI' : R3 W6 (g5 + 1) a.rc a.aa (.slice a.an.a a.an.n a.an.c) (.slice a.au.a a.au.n a.au.c) (.slice a.ex.a a.ex.n a.ex.c) (a.an.l.map (agedR 0)) (a.au.l.map (agedR 0)) (a.ex.l.map (agedR 0)) (d 10) (d 12) (d 14) W := hI
            rw [if_neg (by decide)]
            clear hV hd hno hI hI'
            go_simp
            exact rfl
          · intro xs d W hd hno hI hV
            have hI' : R3 W6 (g5 + 1) a.rc a.aa (.slice a.an.a a.an.n a.an.c) (.slice a.au.a a.au.n a.au.c) (.slice a.ex.a a.ex.n a.ex.c) (a.an.l.map (agedR 0)) (a.au.l.map (agedR 0)) (a.ex.l.map (agedR 0)) (d 10) (d 12) (d 14) W := hI
            have x9 : xs 11 = .pointer (some ⟨(g5 + 1), 3, none⟩) := hV 11 (hd 11 (by decide))
            have g2 : W.ownsRow W6.heap.size 46 12 (xs 5) ((a.au.l.map (agedR 0))).length (rcs (a.au.l.map (agedR 0))) := hV 5 (hd 5 (by decide))
            obtain ⟨A2, c2, e2, hr2⟩ := own_rd g2
            rw [e2] at g2
            obtain ⟨m2, hm2⟩ : ∃ m, ((a.au.l.map (agedR 0))).length = m := ⟨_, rfl⟩
            rw [hm2] at e2 g2
            have HM2 := Lib.hid hm2
            clear hm2 hr2
            have hV' := hV
            rw [if_pos (by decide)]
            intro dS
            have hB' := hI'.ex
            obtain ⟨x1', x2', x3', hB', _⟩ := hB'
            have hc := hB'.cell 3 _ rfl
            have hf := hB'.free 3
            have hnk := fun (u : Value) (l : List Rc) (h : W.ownsRow W6.heap.size 46 12 u l.length (rcs l)) => own_ne_blk h hB' (by decide)
            clear hV hd hno hI hB'
            go_simp
            refine ⟨hI'.store2 (by rw [HM2.out]; exact g2), rfl, fun j hj => VV.any2 (hV' j hj) (fun h => putG_keep h (fun l h => own_setCell h (g5 + 1) 3 (hnk _ l h)))⟩
          · intro xs d W hd hno hI hV
            have hI' : R3 W6 (g5 + 1) a.rc a.aa (.slice a.an.a a.an.n a.an.c) (.slice a.au.a a.au.n a.au.c) (.slice a.ex.a a.ex.n a.ex.c) (a.an.l.map (agedR 0)) (a.au.l.map (agedR 0)) (a.ex.l.map (agedR 0)) (d 10) (d 12) (d 14) W := hI
            rw [if_neg (by decide)]
            clear hV hd hno hI hI'
            go_simp
            exact rfl
          · intro xs d W hd hno hI hV
            have hI' : R3 W6 (g5 + 1) a.rc a.aa (.slice a.an.a a.an.n a.an.c) (.slice a.au.a a.au.n a.au.c) (.slice a.ex.a a.ex.n a.ex.c) (a.an.l.map (agedR 0)) (a.au.l.map (agedR 0)) (a.ex.l.map (agedR 0)) (d 10) (d 12) (d 14) W := hI
            have x9 : xs 13 = .pointer (some ⟨(g5 + 1), 4, none⟩) := hV 13 (hd 13 (by decide))
            have g2 : W.ownsRow W6.heap.size 46 12 (xs 8) ((a.ex.l.map (agedR 0))).length (rcs (a.ex.l.map (agedR 0))) := hV 8 (hd 8 (by decide))
            obtain ⟨A2, c2, e2, hr2⟩ := own_rd g2
            rw [e2] at g2
            obtain ⟨m2, hm2⟩ : ∃ m, ((a.ex.l.map (agedR 0))).length = m := ⟨_, rfl⟩
            rw [hm2] at e2 g2
            have HM2 := Lib.hid hm2
            clear hm2 hr2
            have hV' := hV
            rw [if_pos (by decide)]
            intro dS
            have hB' := hI'.ex
            obtain ⟨x1', x2', x3', hB', _⟩ := hB'
            have hc := hB'.cell 4 _ rfl
            have hf := hB'.free 4
            have hnk := fun (u : Value) (l : List Rc) (h : W.ownsRow W6.heap.size 46 12 u l.length (rcs l)) => own_ne_blk h hB' (by decide)
            clear hV hd hno hI hB'
            go_simp
            refine ⟨hI'.store3 (by rw [HM2.out]; exact g2), rfl, fun j hj => VV.any2 (hV' j hj) (fun h => putG_keep h (fun l h => own_setCell h (g5 + 1) 4 (hnk _ l h)))⟩
        case hQ_Y =>
          intro xs Wr hI hV
          have y0 : xs 0 = .pointer (some ⟨(g5 + 1), 2, none⟩) := hV 0 (by decide)
          have y1 : xs 1 = (.slice a.an.a a.an.n a.an.c) := hV 1 (by decide)
          obtain ⟨z2, y2⟩ : ∃ z, xs 2 = z := ⟨_, rfl⟩
          have y3 : xs 3 = .pointer (some ⟨(g5 + 1), 3, none⟩) := hV 3 (by decide)
          have y4 : xs 4 = (.slice a.au.a a.au.n a.au.c) := hV 4 (by decide)
          obtain ⟨z5, y5⟩ : ∃ z, xs 5 = z := ⟨_, rfl⟩
          have y6 : xs 6 = .pointer (some ⟨(g5 + 1), 4, none⟩) := hV 6 (by decide)
          have y7 : xs 7 = (.slice a.ex.a a.ex.n a.ex.c) := hV 7 (by decide)
          obtain ⟨z8, y8⟩ : ∃ z, xs 8 = z := ⟨_, rfl⟩
          have y9 : xs 9 = .pointer (some ⟨(g5 + 1), 2, none⟩) := hV 9 (by decide)
          have y10 : xs 10 = undef := hV 10 (by decide)
          have y11 : xs 11 = .pointer (some ⟨(g5 + 1), 3, none⟩) := hV 11 (by decide)
          have y12 : xs 12 = undef := hV 12 (by decide)
          have y13 : xs 13 = .pointer (some ⟨(g5 + 1), 4, none⟩) := hV 13 (by decide)
          have y14 : xs 14 = undef := hV 14 (by decide)
          have hI' : R3 W6 (g5 + 1) a.rc a.aa (.slice a.an.a a.an.n a.an.c) (.slice a.au.a a.au.n a.au.c) (.slice a.ex.a a.ex.n a.ex.c) (a.an.l.map (agedR 0)) (a.au.l.map (agedR 0)) (a.ex.l.map (agedR 0)) true true true Wr := hI
          clear hV hI
          obtain ⟨hfr7, x1, x2, x3, hB7, _, _, _, o1, o2, o3⟩ := hI'
          replace o1 := o1 rfl
          replace o2 := o2 rfl
          replace o3 := o3 rfl
          obtain ⟨W7, hW7⟩ : ∃ x, Wr = x := ⟨_, rfl⟩
          rw [hW7] at hfr7 hB7 o1 o2 o3 ⊢
          clear hW7 HB hrec1 hrec2 hrec3
          have hbC : ∀ i, CH C bm r2 i → i ≠ g5 + 1 := fun i hi e => by have := CH.lt h _ (CH.sub hsub i hi); have := HG5.out; omega
          have hbC0 : ∀ i, CH C bm r2 i → i < g5 := fun i hi => by have := CH.lt h _ (CH.sub hsub i hi); have := HG5.out; omega
          have hc7 := hc6.fr hfr7 hbC
          have hQ7 := hQ6.fr hfr7 (show ¬ g5 = g5 + 1 by omega)
          have hF7 := hF6.trans (hfr7.mono (fun i _ hi => .inr (by rw [hi]; have := HG5.out; omega)))
          have hz7 : g5 + 2 ≤ W7.heap.size := Nat.le_trans hz6 hfr7.size
          have hz67 := hfr7.size
          clear hc6 hQ6 hA6 ha6 hF6 hfr7
          obtain ⟨m1, hm1⟩ : ∃ m, (a.an.l.map (agedR 0)).length = m := ⟨_, rfl⟩
          obtain ⟨m2, hm2⟩ : ∃ m, (a.au.l.map (agedR 0)).length = m := ⟨_, rfl⟩
          obtain ⟨m3, hm3⟩ : ∃ m, (a.ex.l.map (agedR 0)).length = m := ⟨_, rfl⟩
          rw [hm1] at o1 HLen1
          rw [hm2] at o2 HLen2
          rw [hm3] at o3 HLen3
          have HM1 := Lib.hid hm1
          have HM2 := Lib.hid hm2
          have HM3 := Lib.hid hm3
          clear hm1 hm2 hm3
          obtain ⟨A1, cc1, rfl, _⟩ := own_rd o1
          obtain ⟨A2, cc2, rfl, _⟩ := own_rd o2
          obtain ⟨A3, cc3, rfl, _⟩ := own_rd o3
          have c61 := hB7.cell 1 _ rfl
          have f61 := hB7.free 1
          have hst8 := fr_set W7 (g5 + 1) 1 (.bool false)
          have hB8 := hB7.set 1 (.bool false)
          have hc8 := hc7.fr hst8 hbC
          have hQ8 := hQ7.set_other 1 (.bool false) (show g5 ≠ g5 + 1 by omega)
          have hF8 := hF7.setCell (g5 + 1) 1 (.bool false) (.inr (by have := HG5.out; omega))
          have hO8 := fun (v : Value) (m : Nat) (cs : List Value) (ho : W7.ownsRow W6.heap.size 46 12 v m cs) => own_setCell (x := .bool false) ho (g5 + 1) 1 (own_ne_blk ho hB7 (by decide))
          have p1 := hO8 _ _ _ o1
          have p2 := hO8 _ _ _ o2
          have p3 := hO8 _ _ _ o3
          have hz8 := size_setCell W7 ⟨g5 + 1, 1, none⟩ (.bool false)
          clear hO8 o1 o2 o3 hc7 hQ7 hF7
          go_upto_region 14 with fail
          obtain ⟨W8, hW8⟩ : ∃ x, W7.setCell ⟨g5 + 1, 1, none⟩ (.bool false) = x := ⟨_, rfl⟩
          rw [hW8] at hB8 hc8 hQ8 hF8 p1 p2 p3 hz8 ⊢
          clear hW8 c61 f61 hst8 hB7
          rw [← hz8] at hz7 hz67
          clear hz8
          have u0 := hB8.cell 0 _ rfl
          have u1 := hB8.cell 1 _ rfl
          have u2 := hB8.cell 2 _ rfl
          have u3 := hB8.cell 3 _ rfl
          have u4 := hB8.cell 4 _ rfl
          have w0' := hQ8.cell 0 _ rfl
          have w1' := hQ8.cell 1 _ rfl
          have w2' := hQ8.cell 2 _ rfl
          have hnL : (n + L * 10) % 18446744073709551616 = n + L * 10 := by omega
          go_upto_region 15 with fail
          clear u0 u1 u2 u3 u4 w0' w1' w2' y0 y1 y2 y3 y4 y5 y6 y7 y8 y9 y10 y11 y12 y13 y14
          obtain ⟨e, he⟩ : ∃ e : Ce, e = ⟨W8.heap.size, newAe q a.rc a.an.l a.au.l a.ex.l n, .slice A1 m1 cc1, .slice A2 m2 cc2, .slice A3 m3 cc3⟩ := ⟨_, rfl⟩
          have heb : e.b = W8.heap.size := by rw [he]
          have hek2 : e.e.key = foldQ q := by rw [he]; rfl
          have heV : e.e = newAe q a.rc a.an.l a.au.l a.ex.l n := by rw [he]
          have hE9 := Blk.new W8 86 #[.pointer none, .pointer none, .string (foldS q.nm), .int .u16 q.ty, .int .u16 q.cl, .int .u16 a.rc, .bool false, .slice A1 m1 cc1, .slice A2 m2 cc2, .slice A3 m3 cc3, .int .i64 n, .int .i64 (n + L * 10)]
          have hE9' : Blk (W8.alloc (.cells #[.pointer none, .pointer none, .string (foldS q.nm), .int .u16 q.ty, .int .u16 q.cl, .int .u16 a.rc, .bool false, .slice A1 m1 cc1, .slice A2 m2 cc2, .slice A3 m3 cc3, .int .i64 n, .int .i64 (n + L * 10)] 86)) e.b 86 (ptr none :: ptr none :: e.pay) := by
            have hpay : (ptr none :: ptr none :: e.pay) = (#[.pointer none, .pointer none, .string (foldS q.nm), .int .u16 q.ty, .int .u16 q.cl, .int .u16 a.rc, .bool false, .slice A1 m1 cc1, .slice A2 m2 cc2, .slice A3 m3 cc3, .int .i64 n, .int .i64 (n + L * 10)] : Array Value).toList := by
              rw [he]
              show ptr none :: ptr none :: [_, _, _, _, _, _, _, _, _, .int .i64 (n + lifeV a.rc a.an.l a.au.l a.ex.l * 10)] = _
              rw [show lifeV a.rc a.an.l a.au.l a.ex.l = L from HL.out]
              rfl
            rw [hpay, heb]
            exact hE9
          have b9 := below_new W8 (.cells #[.pointer none, .pointer none, .string (foldS q.nm), .int .u16 q.ty, .int .u16 q.cl, .int .u16 a.rc, .bool false, .slice A1 m1 cc1, .slice A2 m2 cc2, .slice A3 m3 cc3, .int .i64 n, .int .i64 (n + L * 10)] 86)
          have hc9 := hc8.below b9
          have hF9 := hF8.trans (Fr.of_below b9)
          have hQ9 := hQ8.below b9
          have r1' := own_below p1 b9
          have r2' := own_below p2 b9
          have r3' := own_below p3 b9
          have hz9 : (W8.alloc (.cells #[.pointer none, .pointer none, .string (foldS q.nm), .int .u16 q.ty, .int .u16 q.cl, .int .u16 a.rc, .bool false, .slice A1 m1 cc1, .slice A2 m2 cc2, .slice A3 m3 cc3, .int .i64 n, .int .i64 (n + L * 10)] 86)).heap.size = W8.heap.size + 1 := World.size_alloc _ _
          have heo : CeOk (W8.alloc (.cells #[.pointer none, .pointer none, .string (foldS q.nm), .int .u16 q.ty, .int .u16 q.cl, .int .u16 a.rc, .bool false, .slice A1 m1 cc1, .slice A2 m2 cc2, .slice A3 m3 cc3, .int .i64 n, .int .i64 (n + L * 10)] 86)) e := by
            refine ⟨?_, ?_, ?_, ?_⟩
            · rw [heV]
              exact ⟨hfo, ha.rc, hnb, life_bd _ _ _ _ ha.an.ok ha.au.ok ha.ex.ok, fun r hr => ⟨ha.an.ok r hr, hs.na r hr⟩, fun r hr => ⟨ha.au.ok r hr, hs.nu r hr⟩, fun r hr => ⟨ha.ex.ok r hr, hs.nx r hr⟩, by show a.an.l.length ≤ 30; rw [ha.an.len]; exact hs.an, by show a.au.l.length ≤ 30; rw [ha.au.len]; exact hs.au, by show a.ex.l.length ≤ 30; rw [ha.ex.len]; exact hs.ex⟩
            · rw [he]
              have h1 := own_lower r1' (Nat.zero_le _)
              show World.ownsRow _ 0 _ 12 _ a.an.l.length _
              rw [show a.an.l.length = m1 by rw [← HM1.out]; simp]
              exact h1
            · rw [he]
              have h1 := own_lower r2' (Nat.zero_le _)
              show World.ownsRow _ 0 _ 12 _ a.au.l.length _
              rw [show a.au.l.length = m2 by rw [← HM2.out]; simp]
              exact h1
            · rw [he]
              have h1 := own_lower r3' (Nat.zero_le _)
              show World.ownsRow _ 0 _ 12 _ a.ex.l.length _
              rw [show a.ex.l.length = m3 by rw [← HM3.out]; simp]
              exact h1
          have hob : ∀ i, (e.v1.ownBlock = some i ∨ e.v2.ownBlock = some i ∨ e.v3.ownBlock = some i) → W6.heap.size ≤ i := fun i hi => by
            rw [he] at hi
            rcases hi with hi | hi | hi
            · exact own_base r1' i hi
            · exact own_base r2' i hi
            · exact own_base r3' i hi
          clear r1' r2' r3' p1 p2 p3 hE9 hc8 hQ8 hF8
          obtain ⟨W9, hW9⟩ : ∃ x, W8.alloc (.cells #[.pointer none, .pointer none, .string (foldS q.nm), .int .u16 q.ty, .int .u16 q.cl, .int .u16 a.rc, .bool false, .slice A1 m1 cc1, .slice A2 m2 cc2, .slice A3 m3 cc3, .int .i64 n, .int .i64 (n + L * 10)] 86) = x := ⟨_, rfl⟩
          rw [hW9] at hE9' hc9 hF9 heo hQ9 hz9 ⊢
          clear hW9 b9 hB8
          have hkok : e.e.key.ok := by rw [hek2]; exact hfo
          obtain ⟨W10, hmu, hM10, hg10⟩ := MapR.put (W := W9.drew) (show MapR W9.drew bm r2 from hc9.mp) hc9.keys e hkok (fun c hc => by rw [hek2]; exact hno2 c hc) (by omega)
          have x2 : W9.cell? ⟨C, 2, none⟩ = some (.map (some bm)) := hc9.hd.cell 2 _ rfl
          have v0 := hQ9.cell 0 _ rfl
          have v1 := hQ9.cell 1 _ rfl
          have v2 := hQ9.cell 2 _ rfl
          rw [hek2, heb] at hmu
          unfold Qn.val foldQ ptr at hmu
          simp only [Option.map] at hmu
          go_region
          have hbmC := hc9.mp.noblk hc9.hd
          have hbmB : ∀ c ∈ r2 ++ [e], c.b ≠ bm := by
            intro c hc
            rcases List.mem_append.1 hc with hc | hc
            · obtain ⟨ds, hd⟩ := Lk.blk_of hc9.lk c hc
              exact hc9.mp.noblk hd
            · obtain rfl : c = e := by simpa using hc
              exact hc9.mp.noblk hE9'
          have hFm : Fr (fun k => k = bm) W9 W10 := ((Fr.refl _ W9).drew).grown hg10 (fun i hi => by cases hi; exact .inl rfl)
          have hC10 := hc9.hd.fr hFm (fun x => hbmC x)
          have hL10 := hc9.lk.fr hFm (fun c hc => hbmB c (by simp [hc]))
          have hE10 := hE9'.fr hFm (hbmB e (by simp))
          have hlow : ∀ c ∈ r2, c.b < g5 := fun c hc => hbC0 c.b (.inl (.inr (.inr (List.mem_map.2 ⟨c, hc, rfl⟩))))
          have hnb10 : ((r2 ++ [e]).map Ce.b).Nodup := by
            rw [List.map_append, List.nodup_append]
            refine ⟨hc9.nb, by simp, fun x hx y hy => ?_⟩
            obtain ⟨c, hc, rfl⟩ := List.mem_map.1 hx
            obtain rfl : y = e.b := by simpa using hy
            have := hlow c hc
            omega
          have hnk10 : ((r2 ++ [e]).map fun c => kl c.e.key).Nodup := by
            rw [List.map_append, List.nodup_append]
            refine ⟨hc9.nk, by simp, fun x hx y hy => ?_⟩
            obtain ⟨c, hc, rfl⟩ := List.mem_map.1 hx
            obtain rfl : y = kl e.e.key := by simpa using hy
            exact fun hk => hno2 c hc (by rw [← hek2]; exact kl_inj (hc9.keys c hc) hkok hk)
          have hla := last_ W10 C bm room r2 e hC10 hL10 hE10 hnb10
          have hok10 : ∀ c ∈ r2 ++ [e], CeOk W9 c := by
            intro c hc
            rcases List.mem_append.1 hc with hc | hc
            · exact hc9.ok c hc
            · obtain rfl : c = e := by simpa using hc
              exact heo
          have hS : ∀ k, CS C bm (r2 ++ [e]) k → CS C bm row k ∨ W.heap.size ≤ k := by
            intro k hk
            rcases hk with hk | hk | hk
            · exact .inl (.inl hk)
            · exact .inl (.inr (.inl hk))
            · obtain ⟨c, hc, rfl⟩ := List.mem_map.1 hk
              rcases List.mem_append.1 hc with hc | hc
              · exact .inl (.inr (.inr (List.mem_map.2 ⟨c, hsub c hc, rfl⟩)))
              · obtain rfl : c = e := by simpa using hc
                right
                rw [HG5.out, heb]
                omega
          have hH : ∀ k, CH C bm (r2 ++ [e]) k → CH C bm row k ∨ W.heap.size ≤ k := by
            intro k hk
            rcases hk with hk | ⟨c, hc, hk⟩
            · exact (hS k hk).imp .inl id
            · rcases List.mem_append.1 hc with hc | hc
              · exact .inl (.inr ⟨c, hsub c hc, hk⟩)
              · obtain rfl : c = e := by simpa using hc
                right
                have := hob k hk
                rw [HG5.out]
                omega
          have hF10 : Fr (CS C bm row) W W10 := (hF9.drew).grown hg10 (fun i hi => by cases hi; exact .inl (.inr (.inl rfl)))
          have hpos : putV room (row.map Ce.e) q a.rc a.an.l a.au.l a.ex.l now = (if room < (r2.length : Int) + 1 then (((r2 ++ [e]).map Ce.e).drop 1, true) else ((r2 ++ [e]).map Ce.e, true)) := by
            rw [HP1.out, HR2.out, List.map_append, List.map_cons, List.map_nil, heV, List.length_map]
          have HPOS := Lib.hid hpos
          have hrowN : ∀ {m : Nat} {v : Value} {cs : List Value}, W9.ownsRow 0 46 12 v m cs → ∀ i, v.ownBlock = some i → i ≠ bm ∧ i ≠ C ∧ i ∉ (r2 ++ [e]).map Ce.b := by
            intro m v cs ho i hi
            refine ⟨fun x => ?_, fun x => own_ne_blk ho hc9.hd (by decide) (by rw [← x]; exact hi), fun x => ?_⟩
            · obtain ⟨cur, fr, hb⟩ := own_blk ho hi
              obtain ⟨D, nn, ⟨es, clock, h1, _⟩, _⟩ := hc9.mp
              rw [x, h1] at hb
              cases hb
            · obtain ⟨c, hc, hx⟩ := List.mem_map.1 x
              rcases List.mem_append.1 hc with hc | hc
              · obtain ⟨ds, hd⟩ := Lk.blk_of hc9.lk c hc
                exact own_ne_blk ho hd (by decide) (by rw [hx]; exact hi)
              · obtain rfl : c = e := by simpa using hc
                exact own_ne_blk ho hE9' (by decide) (by rw [hx]; exact hi)
          clear hpos hC10 hL10 hE10 hc9 hE9'
          rw [show ptr (some e.b) = .pointer (some ⟨W8.heap.size, 0, none⟩) by rw [heb]; rfl] at hla
          unfold ptr at hla
          simp only [Option.map] at hla
          go_upto_region 17 with (first | (go_at_call 36; refine hla.mono ?_; clear hla; rintro en W11 ⟨rfl, hC11, hL11, hF11⟩))
          have hF11b : Fr (CS C bm (r2 ++ [e])) W10 W11 := hF11.mono (fun k _ hk => by rcases hk with hk | hk; exact .inl hk; exact .inr (.inr hk))
          have hM11 := hM10.fr hF11 (by
            rintro (x | x)
            · exact hbmC x.symm
            · obtain ⟨c, hc, hx⟩ := List.mem_map.1 x
              exact hbmB c hc hx)
          have hrow : ∀ {m : Nat} {v : Value} {cs : List Value}, W9.ownsRow 0 46 12 v m cs → W11.ownsRow 0 46 12 v m cs := fun ho =>
            own_fr (own_fr ho hFm (fun i hi => (hrowN ho i hi).1)) hF11 (fun i hi x => by rcases x with x | x; exact (hrowN ho i hi).2.1 x; exact (hrowN ho i hi).2.2 x)
          have hc11 : CacheW W11 C bm room (r2 ++ [e]) := ⟨hC11, hL11, hM11, hnb10, hnk10, fun c hc => ⟨(hok10 c hc).e, hrow (hok10 c hc).o1, hrow (hok10 c hc).o2, hrow (hok10 c hc).o3⟩⟩
          have hF11c := hF10.trans (hF11b.mono (fun k _ hk => hS k hk))
          have t2 : W11.cell? ⟨C, 2, none⟩ = some (.map (some bm)) := hc11.hd.cell 2 _ rfl
          have t3 : W11.cell? ⟨C, 3, none⟩ = some (.int .i64 room) := hc11.hd.cell 3 _ rfl
          have t1 : W11.cell? ⟨C, 1, none⟩ = some (ptr (hd (r2 ++ [e]) none)) := hc11.hd.cell 1 _ rfl
          have hlenM : ∀ k, (Builtin.len_ #[73] 3 #[.map (some bm)]).run Try.prog (W11.drewN k) = .ok (.int .i64 ((r2.length : Int) + 1)) (W11.drewN k) := fun k => by
            obtain ⟨D, nn, h1, h2, _⟩ := (hc11.mp.fr ((Fr.refl (fun _ => False) W11).drewN k) (fun h => h))
            have h3 := h1.len Try.underlying73 3
            rw [h2, List.length_append] at h3
            exact h3
          obtain ⟨Nl, hNl⟩ : ∃ x, (r2.length : Int) + 1 = x := ⟨_, rfl⟩
          rw [hNl] at hlenM HPOS
          obtain ⟨f1, fl, hfl⟩ : ∃ f l, r2 ++ [e] = f :: l := by
            cases r2 with
            | nil => exact ⟨e, [], rfl⟩
            | cons x l => exact ⟨x, l ++ [e], rfl⟩
          clear hC11 hL11 hM11 hF11 hF11b hM10 hg10 hmu
          by_cases hev : room < Nl
          · have hdr := fun k => drop_ (W11.drewN k) C bm room [] fl f1 (by rw [List.nil_append, ← hfl]; exact hc11.fr ((Fr.refl (fun _ => False) W11).drewN k) (fun _ _ h => h))
            rw [hfl] at t1
            rw [show ptr (hd (f1 :: fl) none) = .pointer (some ⟨f1.b, 0, none⟩) from rfl] at t1
            unfold ptr at hdr
            simp only [Option.map, List.nil_append] at hdr
            go_quiet (fail)
            go_wp2_with (first | (go_at_call 34; refine (hdr _).mono ?_; clear hdr; rintro en W12 ⟨rfl, hc12, hf12⟩))
            go_ret
            have hpv := HPOS.out
            rw [if_pos hev, hfl] at hpv
            have hsb : ∀ c ∈ fl, c ∈ r2 ++ [e] := fun c hc => by rw [hfl]; simp [hc]
            refine ⟨fl, by rw [hpv]; rfl, by rw [hpv]; rfl, hc12, ?_, fun k hk => hH k (CH.sub hsb k hk)⟩
            have h12 : Fr (CS C bm (r2 ++ [e])) (W11.drewN nq) W12 := by rw [hfl]; exact hf12
            exact (hF11c.drewN nq).trans (h12.mono (fun k _ hk => hS k hk))
          · go_quiet (fail)
            go_wp2
            go_ret
            have hpv := HPOS.out
            rw [if_neg (by omega)] at hpv
            first
              | exact ⟨r2 ++ [e], by rw [hpv]; rfl, by rw [hpv], hc11.fr ((Fr.refl (fun _ => False) W11).drewN nq) (fun _ _ h => h), hF11c.drewN nq, hH⟩
              | exact ⟨by rw [hpv]; rfl, r2 ++ [e], by rw [hpv], hc11.fr ((Fr.refl (fun _ => False) W11).drewN nq) (fun _ _ h => h), hF11c.drewN nq, hH⟩

      · have hlook := fun k => (hlk k).2 hno
        unfold Qn.val foldQ ptr at hlook
        simp only [Option.map] at hlook
        clear hlk
        go_quiet (fail)
        have hc6 := hc5.fr ((Fr.refl (fun _ => False) W5).drewN nq) (fun _ _ h => h)
        have hQ6 := hQ5.fr ((Fr.refl (fun _ => False) W5).drewN nq) (fun h => h)
        have hA6 := hA5.fr ((Fr.refl (fun _ => False) W5).drewN nq) (fun h => h)
        have ha6 := ha5.below (below_drewN (Below.refl W5.heap.size W5) nq)
        have hF6 := hF5.drewN nq
        have hz6 : g5 + 2 ≤ (W5.drewN nq).heap.size := by rw [drewN_heap]; exact hz5
        have hno2 := hno
        have hsub := hr1s
        have hl6 := hr1l
        have HR2 := Lib.hid (rmV_none hno).1
        obtain ⟨r2, hr2⟩ : ∃ x, r1 = x := ⟨_, rfl⟩
        have HR2 : Hid (rmV (foldQ q) (r1.map Ce.e) = r2.map Ce.e) := by rw [← hr2]; exact HR2
        rw [hr2] at hc6 hno2 hsub hl6
        obtain ⟨W6, hW6⟩ : ∃ x, W5.drewN nq = x := ⟨_, rfl⟩
        rw [hW6] at hc6 hQ6 hA6 ha6 hF6 hz6 ⊢
        clear hW6 hc5 hQ5 hA5 ha5 hF5 hz5 c2 q0 q1 q2 hlook hno hr1s hr1l hr2
        have hrec1 := fun (W : World) (hf : Fr (fun k => k = g5 + 1) W6 W) => records_ W a.an.a a.an.n a.an.c a.an.l (Rd.fr0 ha6.an.r hf (fun ad h1 h2 h3 => ha.an.low ad h1 h2 (by rw [h3]; have := HG5.out; omega))) ha.an.ok (by have := hs.an; omega) (fun r hr => by have := hs.na r hr; omega) 0 (by omega) (by omega)
        have hrec2 := fun (W : World) (hf : Fr (fun k => k = g5 + 1) W6 W) => records_ W a.au.a a.au.n a.au.c a.au.l (Rd.fr0 ha6.au.r hf (fun ad h1 h2 h3 => ha.au.low ad h1 h2 (by rw [h3]; have := HG5.out; omega))) ha.au.ok (by have := hs.au; omega) (fun r hr => by have := hs.nu r hr; omega) 0 (by omega) (by omega)
        have hrec3 := fun (W : World) (hf : Fr (fun k => k = g5 + 1) W6 W) => records_ W a.ex.a a.ex.n a.ex.c a.ex.l (Rd.fr0 ha6.ex.r hf (fun ad h1 h2 h3 => ha.ex.low ad h1 h2 (by rw [h3]; have := HG5.out; omega))) ha.ex.ok (by have := hs.ex; omega) (fun r hr => by have := hs.nx r hr; omega) 0 (by omega) (by omega)
        have HLen1 := Lib.hid (show (a.an.l.map (agedR 0)).length = a.an.n by rw [List.length_map]; exact ha.an.len)
        have HLen2 := Lib.hid (show (a.au.l.map (agedR 0)).length = a.au.n by rw [List.length_map]; exact ha.au.len)
        have HLen3 := Lib.hid (show (a.ex.l.map (agedR 0)).length = a.ex.n by rw [List.length_map]; exact ha.ex.len)
        have HB := hA6
        go_upto_region 12 with fail
        refine wp_region_loud (by kernel_rfl) (by kernel_rfl) ?fr_N ?hfr_N [2, 5, 8, 10, 12, 14] (VV (putc (g5 + 1) (.slice a.an.a a.an.n a.an.c) (.slice a.au.a a.au.n a.au.c) (.slice a.ex.a a.ex.n a.ex.c) 0) (putG W6.heap.size (a.an.l.map (agedR 0)) (a.au.l.map (agedR 0)) (a.ex.l.map (agedR 0)))) (fun q => R3 W6 (g5 + 1) a.rc a.aa (.slice a.an.a a.an.n a.an.c) (.slice a.au.a a.au.n a.au.c) (.slice a.ex.a a.ex.n a.ex.c) (a.an.l.map (agedR 0)) (a.au.l.map (agedR 0)) (a.ex.l.map (agedR 0)) (q.getD 3 false) (q.getD 4 false) (q.getD 5 false)) ?h0_N ?hob_N ?hQ_N (by decide)
        case hfr_N =>
          intro xs
          simp only [fillL]
          go_simp
          exact rfl
        case h0_N => exact ⟨(Fr.refl _ W6).drew, _, _, _, HB, fun _ => rfl, fun _ => rfl, fun _ => rfl, (fun h => by cases h), (fun h => by cases h), (fun h => by cases h)⟩
        case hob_N =>
          refine ⟨?_, ?_, ?_, ?_, ?_, ?_, ?_, ?_, ?_, ?_, ?_, ?_, ?_, ?_, ?_, trivial⟩
          · intro xs d W hd hno hI hV
            have hI' : R3 W6 (g5 + 1) a.rc a.aa (.slice a.an.a a.an.n a.an.c) (.slice a.au.a a.au.n a.au.c) (.slice a.ex.a a.ex.n a.ex.c) (a.an.l.map (agedR 0)) (a.au.l.map (agedR 0)) (a.ex.l.map (agedR 0)) (d 10) (d 12) (d 14) W := hI
            rw [if_neg (by decide)]
            clear hV hd hno hI hI'
            go_simp
            exact rfl
          · intro xs d W hd hno hI hV
            have hI' : R3 W6 (g5 + 1) a.rc a.aa (.slice a.an.a a.an.n a.an.c) (.slice a.au.a a.au.n a.au.c) (.slice a.ex.a a.ex.n a.ex.c) (a.an.l.map (agedR 0)) (a.au.l.map (agedR 0)) (a.ex.l.map (agedR 0)) (d 10) (d 12) (d 14) W := hI
            have x0 : xs 0 = .pointer (some ⟨(g5 + 1), 2, none⟩) := hV 0 (hd 0 (by decide))
            have dS : d 10 = false := hno 10 _ rfl (by decide)
            rw [dS] at hI'
            have hc := hI'.c1
            rw [if_neg (by decide)]
            clear hV hd hno hI hI' dS
            go_simp
            exact rfl
          · intro xs d W hd hno hI hV
            have hI' : R3 W6 (g5 + 1) a.rc a.aa (.slice a.an.a a.an.n a.an.c) (.slice a.au.a a.au.n a.au.c) (.slice a.ex.a a.ex.n a.ex.c) (a.an.l.map (agedR 0)) (a.au.l.map (agedR 0)) (a.ex.l.map (agedR 0)) (d 10) (d 12) (d 14) W := hI
            have x1 : xs 1 = (.slice a.an.a a.an.n a.an.c) := hV 1 (hd 1 (by decide))
            have hV' := hV
            rw [if_pos (by decide)]
            intro dc
            clear hV hd hno hI
            go_simp
            refine (hrec1 W hI'.fr).mono ?_
            rintro e W' ⟨v, rfl, ho, hb⟩
            have hz := hI'.fr.size
            exact ⟨_, rfl, hI'.below hb, (by have ho' := own_lower ho hz; rw [← HLen1.out] at ho'; exact ho'), fun j hj => VV.any2 (hV' j hj) (fun h => putG_keep h (fun l h => own_below h hb))⟩
          · intro xs d W hd hno hI hV
            have hI' : R3 W6 (g5 + 1) a.rc a.aa (.slice a.an.a a.an.n a.an.c) (.slice a.au.a a.au.n a.au.c) (.slice a.ex.a a.ex.n a.ex.c) (a.an.l.map (agedR 0)) (a.au.l.map (agedR 0)) (a.ex.l.map (agedR 0)) (d 10) (d 12) (d 14) W := hI
            rw [if_neg (by decide)]
            clear hV hd hno hI hI'
            go_simp
            exact rfl
          · intro xs d W hd hno hI hV
            have hI' : R3 W6 (g5 + 1) a.rc a.aa (.slice a.an.a a.an.n a.an.c) (.slice a.au.a a.au.n a.au.c) (.slice a.ex.a a.ex.n a.ex.c) (a.an.l.map (agedR 0)) (a.au.l.map (agedR 0)) (a.ex.l.map (agedR 0)) (d 10) (d 12) (d 14) W := hI
            have x0 : xs 3 = .pointer (some ⟨(g5 + 1), 3, none⟩) := hV 3 (hd 3 (by decide))
            have dS : d 12 = false := hno 12 _ rfl (by decide)
            rw [dS] at hI'
            have hc := hI'.c2
            rw [if_neg (by decide)]
            clear hV hd hno hI hI' dS
            go_simp
            exact rfl
          · intro xs d W hd hno hI hV
            have hI' : R3 W6 (g5 + 1) a.rc a.aa (.slice a.an.a a.an.n a.an.c) (.slice a.au.a a.au.n a.au.c) (.slice a.ex.a a.ex.n a.ex.c) (a.an.l.map (agedR 0)) (a.au.l.map (agedR 0)) (a.ex.l.map (agedR 0)) (d 10) (d 12) (d 14) W := hI
            have x1 : xs 4 = (.slice a.au.a a.au.n a.au.c) := hV 4 (hd 4 (by decide))
            have hV' := hV
            rw [if_pos (by decide)]
            intro dc
            clear hV hd hno hI
            go_simp
            refine (hrec2 W hI'.fr).mono ?_
            rintro e W' ⟨v, rfl, ho, hb⟩
            have hz := hI'.fr.size
            exact ⟨_, rfl, hI'.below hb, (by have ho' := own_lower ho hz; rw [← HLen2.out] at ho'; exact ho'), fun j hj => VV.any2 (hV' j hj) (fun h => putG_keep h (fun l h => own_below h hb))⟩
          · intro xs d W hd hno hI hV
            have hI' : R3 W6 (g5 + 1) a.rc a.aa (.slice a.an.a a.an.n a.an.c) (.slice a.au.a a.au.n a.au.c) (.slice a.ex.a a.ex.n a.ex.c) (a.an.l.map (agedR 0)) (a.au.l.map (agedR 0)) (a.ex.l.map (agedR 0)) (d 10) (d 12) (d 14) W := hI
            rw [if_neg (by decide)]
            clear hV hd hno hI hI'
            go_simp
            exact rfl
          · intro xs d W hd hno hI hV
            have hI' : R3 W6 (g5 + 1) a.rc a.aa (.slice a.an.a a.an.n a.an.c) (.slice a.au.a a.au.n a.au.c) (.slice a.ex.a a.ex.n a.ex.c) (a.an.l.map (agedR 0)) (a.au.l.map (agedR 0)) (a.ex.l.map (agedR 0)) (d 10) (d 12) (d 14) W := hI
            have x0 : xs 6 = .pointer (some ⟨(g5 + 1), 4, none⟩) := hV 6 (hd 6 (by decide))
            have dS : d 14 = false := hno 14 _ rfl (by decide)
            rw [dS] at hI'
            have hc := hI'.c3
            rw [if_neg (by decide)]
            clear hV hd hno hI hI' dS
            go_simp
            exact rfl
          · intro xs d W hd hno hI hV
            have hI' : R3 W6 (g5 + 1) a.rc a.aa (.slice a.an.a a.an.n a.an.c) (.slice a.au.a a.au.n a.au.c) (.slice a.ex.a a.ex.n a.ex.c) (a.an.l.map (agedR 0)) (a.au.l.map (agedR 0)) (a.ex.l.map (agedR 0)) (d 10) (d 12) (d 14) W := hI
            have x1 : xs 7 = (.slice a.ex.a a.ex.n a.ex.c) := hV 7 (hd 7 (by decide))
            have hV' := hV
            rw [if_pos (by decide)]
            intro dc
            clear hV hd hno hI
            go_simp
            refine (hrec3 W hI'.fr).mono ?_
            rintro e W' ⟨v, rfl, ho, hb⟩
            have hz := hI'.fr.size
            exact ⟨_, rfl, hI'.below hb, (by have ho' := own_lower ho hz; rw [← HLen3.out] at ho'; exact ho'), fun j hj => VV.any2 (hV' j hj) (fun h => putG_keep h (fun l h => own_below h hb))⟩
          · intro xs d W hd hno hI hV
            have hI' : R3 W6 (g5 + 1) a.rc a.aa (.slice a.an.a a.an.n a.an.c) (.slice a.au.a a.au.n a.au.c) (.slice a.ex.a a.ex.n a.ex.c) (a.an.l.map (agedR 0)) (a.au.l.map (agedR 0)) (a.ex.l.map (agedR 0)) (d 10) (d 12) (d 14) W := hI
            rw [if_neg (by decide)]
            clear hV hd hno hI hI'
            go_simp
            exact rfl
          · intro xs d W hd hno hI hV
            have hI' : R3 W6 (g5 + 1) a.rc a.aa (.slice a.an.a a.an.n a.an.c) (.slice a.au.a a.au.n a.au.c) (.slice a.ex.a a.ex.n a.ex.c) (a.an.l.map (agedR 0)) (a.au.l.map (agedR 0)) (a.ex.l.map (agedR 0)) (d 10) (d 12) (d 14) W := hI
            have x9 : xs 9 = .pointer (some ⟨(g5 + 1), 2, none⟩) := hV 9 (hd 9 (by decide))
            have g2 : W.ownsRow W6.heap.size 46 12 (xs 2) ((a.an.l.map (agedR 0))).length (rcs (a.an.l.map (agedR 0))) := hV 2 (hd 2 (by decide))
            obtain ⟨A2, c2, e2, hr2⟩ := own_rd g2
            rw [e2] at g2
            obtain ⟨m2, hm2⟩ : ∃ m, ((a.an.l.map (agedR 0))).length = m := ⟨_, rfl⟩
            rw [hm2] at e2 g2
            have HM2 := Lib.hid hm2
            clear hm2 hr2
            have hV' := hV
            rw [if_pos (by decide)]
            intro dS
            have hB' := hI'.ex
            obtain ⟨x1', x2', x3', hB', _⟩ := hB'
            have hc := hB'.cell 2 _ rfl
            have hf := hB'.free 2
            have hnk := fun (u : Value) (l : List Rc) (h : W.ownsRow W6.heap.size 46 12 u l.length (rcs l)) => own_ne_blk h hB' (by decide)
            clear hV hd hno hI hB'
            go_simp
            refine ⟨hI'.store1 (by rw [HM2.out]; exact g2), rfl, fun j hj => VV.any2 (hV' j hj) (fun h => putG_keep h (fun l h => own_setCell h (g5 + 1) 2 (hnk _ l h)))⟩
          · intro xs d W hd hno hI hV
            have hI' : R3 W6 (g5 + 1) a.rc a.aa (.slice a.an.a a.an.n a.an.c) (.slice a.au.a a.au.n a.au.c) (.slice a.ex.a a.ex.n a.ex.c) (a.an.l.map (agedR 0)) (a.au.l.map (agedR 0)) (a.ex.l.map (agedR 0)) (d 10) (d 12) (d 14) W := hI
            rw [if_neg (by decide)]
            clear hV hd hno hI hI'
            go_simp
            exact rfl
          · intro xs d W hd hno hI hV
            have hI' : R3 W6 (g5 + 1) a.rc a.aa (.slice a.an.a a.an.n a.an.c) (.slice a.au.a a.au.n a.au.c) (.slice a.ex.a a.ex.n a.ex.c) (a.an.l.map (agedR 0)) (a.au.l.map (agedR 0)) (a.ex.l.map (agedR 0)) (d 10) (d 12) (d 14) W := hI
            have x9 : xs 11 = .pointer (some ⟨(g5 + 1), 3, none⟩) := hV 11 (hd 11 (by decide))
            have g2 : W.ownsRow W6.heap.size 46 12 (xs 5) ((a.au.l.map (agedR 0))).length (rcs (a.au.l.map (agedR 0))) := hV 5 (hd 5 (by decide))
            obtain ⟨A2, c2, e2, hr2⟩ := own_rd g2
            rw [e2] at g2
            obtain ⟨m2, hm2⟩ : ∃ m, ((a.au.l.map (agedR 0))).length = m := ⟨_, rfl⟩
            rw [hm2] at e2 g2
            have HM2 := Lib.hid hm2
            clear hm2 hr2
            have hV' := hV
            rw [if_pos (by decide)]
            intro dS
            have hB' := hI'.ex
            obtain ⟨x1', x2', x3', hB', _⟩ := hB'
            have hc := hB'.cell 3 _ rfl
            have hf := hB'.free 3
            have hnk := fun (u : Value) (l : List Rc) (h : W.ownsRow W6.heap.size 46 12 u l.length (rcs l)) => own_ne_blk h hB' (by decide)
            clear hV hd hno hI hB'
            go_simp
            refine ⟨hI'.store2 (by rw [HM2.out]; exact g2), rfl, fun j hj => VV.any2 (hV' j hj) (fun h => putG_keep h (fun l h => own_setCell h (g5 + 1) 3 (hnk _ l h)))⟩
          · intro xs d W hd hno hI hV
            have hI' : R3 W6 (g5 + 1) a.rc a.aa (.slice a.an.a a.an.n a.an.c) (.slice a.au.a a.au.n a.au.c) (.slice a.ex.a a.ex.n a.ex.c) (a.an.l.map (agedR 0)) (a.au.l.map (agedR 0)) (a.ex.l.map (agedR 0)) (d 10) (d 12) (d 14) W := hI
            rw [if_neg (by decide)]
            clear hV hd hno hI hI'
            go_simp
            exact rfl
          · intro xs d W hd hno hI hV
            have hI' : R3 W6 (g5 + 1) a.rc a.aa (.slice a.an.a a.an.n a.an.c) (.slice a.au.a a.au.n a.au.c) (.slice a.ex.a a.ex.n a.ex.c) (a.an.l.map (agedR 0)) (a.au.l.map (agedR 0)) (a.ex.l.map (agedR 0)) (d 10) (d 12) (d 14) W := hI
            have x9 : xs 13 = .pointer (some ⟨(g5 + 1), 4, none⟩) := hV 13 (hd 13 (by decide))
            have g2 : W.ownsRow W6.heap.size 46 12 (xs 8) ((a.ex.l.map (agedR 0))).length (rcs (a.ex.l.map (agedR 0))) := hV 8 (hd 8 (by decide))
            obtain ⟨A2, c2, e2, hr2⟩ := own_rd g2
            rw [e2] at g2
            obtain ⟨m2, hm2⟩ : ∃ m, ((a.ex.l.map (agedR 0))).length = m := ⟨_, rfl⟩
            rw [hm2] at e2 g2
            have HM2 := Lib.hid hm2
            clear hm2 hr2
            have hV' := hV
            rw [if_pos (by decide)]
            intro dS
            have hB' := hI'.ex
            obtain ⟨x1', x2', x3', hB', _⟩ := hB'
            have hc := hB'.cell 4 _ rfl
            have hf := hB'.free 4
            have hnk := fun (u : Value) (l : List Rc) (h : W.ownsRow W6.heap.size 46 12 u l.length (rcs l)) => own_ne_blk h hB' (by decide)
            clear hV hd hno hI hB'
            go_simp
            refine ⟨hI'.store3 (by rw [HM2.out]; exact g2), rfl, fun j hj => VV.any2 (hV' j hj) (fun h => putG_keep h (fun l h => own_setCell h (g5 + 1) 4 (hnk _ l h)))⟩
        case hQ_N =>
          intro xs Wr hI hV
          have y0 : xs 0 = .pointer (some ⟨(g5 + 1), 2, none⟩) := hV 0 (by decide)
          have y1 : xs 1 = (.slice a.an.a a.an.n a.an.c) := hV 1 (by decide)
          obtain ⟨z2, y2⟩ : ∃ z, xs 2 = z := ⟨_, rfl⟩
          have y3 : xs 3 = .pointer (some ⟨(g5 + 1), 3, none⟩) := hV 3 (by decide)
          have y4 : xs 4 = (.slice a.au.a a.au.n a.au.c) := hV 4 (by decide)
          obtain ⟨z5, y5⟩ : ∃ z, xs 5 = z := ⟨_, rfl⟩
          have y6 : xs 6 = .pointer (some ⟨(g5 + 1), 4, none⟩) := hV 6 (by decide)
          have y7 : xs 7 = (.slice a.ex.a a.ex.n a.ex.c) := hV 7 (by decide)
          obtain ⟨z8, y8⟩ : ∃ z, xs 8 = z := ⟨_, rfl⟩
          have y9 : xs 9 = .pointer (some ⟨(g5 + 1), 2, none⟩) := hV 9 (by decide)
          have y10 : xs 10 = undef := hV 10 (by decide)
          have y11 : xs 11 = .pointer (some ⟨(g5 + 1), 3, none⟩) := hV 11 (by decide)
          have y12 : xs 12 = undef := hV 12 (by decide)
          have y13 : xs 13 = .pointer (some ⟨(g5 + 1), 4, none⟩) := hV 13 (by decide)
          have y14 : xs 14 = undef := hV 14 (by decide)
          have hI' : R3 W6 (g5 + 1) a.rc a.aa (.slice a.an.a a.an.n a.an.c) (.slice a.au.a a.au.n a.au.c) (.slice a.ex.a a.ex.n a.ex.c) (a.an.l.map (agedR 0)) (a.au.l.map (agedR 0)) (a.ex.l.map (agedR 0)) true true true Wr := hI
          clear hV hI
          obtain ⟨hfr7, x1, x2, x3, hB7, _, _, _, o1, o2, o3⟩ := hI'
          replace o1 := o1 rfl
          replace o2 := o2 rfl
          replace o3 := o3 rfl
          obtain ⟨W7, hW7⟩ : ∃ x, Wr = x := ⟨_, rfl⟩
          rw [hW7] at hfr7 hB7 o1 o2 o3 ⊢
          clear hW7 HB hrec1 hrec2 hrec3
          have hbC : ∀ i, CH C bm r2 i → i ≠ g5 + 1 := fun i hi e => by have := CH.lt h _ (CH.sub hsub i hi); have := HG5.out; omega
          have hbC0 : ∀ i, CH C bm r2 i → i < g5 := fun i hi => by have := CH.lt h _ (CH.sub hsub i hi); have := HG5.out; omega
          have hc7 := hc6.fr hfr7 hbC
          have hQ7 := hQ6.fr hfr7 (show ¬ g5 = g5 + 1 by omega)
          have hF7 := hF6.trans (hfr7.mono (fun i _ hi => .inr (by rw [hi]; have := HG5.out; omega)))
          have hz7 : g5 + 2 ≤ W7.heap.size := Nat.le_trans hz6 hfr7.size
          have hz67 := hfr7.size
          clear hc6 hQ6 hA6 ha6 hF6 hfr7
          obtain ⟨m1, hm1⟩ : ∃ m, (a.an.l.map (agedR 0)).length = m := ⟨_, rfl⟩
          obtain ⟨m2, hm2⟩ : ∃ m, (a.au.l.map (agedR 0)).length = m := ⟨_, rfl⟩
          obtain ⟨m3, hm3⟩ : ∃ m, (a.ex.l.map (agedR 0)).length = m := ⟨_, rfl⟩
          rw [hm1] at o1 HLen1
          rw [hm2] at o2 HLen2
          rw [hm3] at o3 HLen3
          have HM1 := Lib.hid hm1
          have HM2 := Lib.hid hm2
          have HM3 := Lib.hid hm3
          clear hm1 hm2 hm3
          obtain ⟨A1, cc1, rfl, _⟩ := own_rd o1
          obtain ⟨A2, cc2, rfl, _⟩ := own_rd o2
          obtain ⟨A3, cc3, rfl, _⟩ := own_rd o3
          have c61 := hB7.cell 1 _ rfl
          have f61 := hB7.free 1
          have hst8 := fr_set W7 (g5 + 1) 1 (.bool false)
          have hB8 := hB7.set 1 (.bool false)
          have hc8 := hc7.fr hst8 hbC
          have hQ8 := hQ7.set_other 1 (.bool false) (show g5 ≠ g5 + 1 by omega)
          have hF8 := hF7.setCell (g5 + 1) 1 (.bool false) (.inr (by have := HG5.out; omega))
          have hO8 := fun (v : Value) (m : Nat) (cs : List Value) (ho : W7.ownsRow W6.heap.size 46 12 v m cs) => own_setCell (x := .bool false) ho (g5 + 1) 1 (own_ne_blk ho hB7 (by decide))
          have p1 := hO8 _ _ _ o1
          have p2 := hO8 _ _ _ o2
          have p3 := hO8 _ _ _ o3
          have hz8 := size_setCell W7 ⟨g5 + 1, 1, none⟩ (.bool false)
          clear hO8 o1 o2 o3 hc7 hQ7 hF7
          go_upto_region 14 with fail
          obtain ⟨W8, hW8⟩ : ∃ x, W7.setCell ⟨g5 + 1, 1, none⟩ (.bool false) = x := ⟨_, rfl⟩
          rw [hW8] at hB8 hc8 hQ8 hF8 p1 p2 p3 hz8 ⊢
          clear hW8 c61 f61 hst8 hB7
          rw [← hz8] at hz7 hz67
          clear hz8
          have u0 := hB8.cell 0 _ rfl
          have u1 := hB8.cell 1 _ rfl
          have u2 := hB8.cell 2 _ rfl
          have u3 := hB8.cell 3 _ rfl
          have u4 := hB8.cell 4 _ rfl
          have w0' := hQ8.cell 0 _ rfl
          have w1' := hQ8.cell 1 _ rfl
          have w2' := hQ8.cell 2 _ rfl
          have hnL : (n + L * 10) % 18446744073709551616 = n + L * 10 := by omega
          go_upto_region 15 with fail
          clear u0 u1 u2 u3 u4 w0' w1' w2' y0 y1 y2 y3 y4 y5 y6 y7 y8 y9 y10 y11 y12 y13 y14
          obtain ⟨e, he⟩ : ∃ e : Ce, e = ⟨W8.heap.size, newAe q a.rc a.an.l a.au.l a.ex.l n, .slice A1 m1 cc1, .slice A2 m2 cc2, .slice A3 m3 cc3⟩ := ⟨_, rfl⟩
          have heb : e.b = W8.heap.size := by rw [he]
          have hek2 : e.e.key = foldQ q := by rw [he]; rfl
          have heV : e.e = newAe q a.rc a.an.l a.au.l a.ex.l n := by rw [he]
          have hE9 := Blk.new W8 86 #[.pointer none, .pointer none, .string (foldS q.nm), .int .u16 q.ty, .int .u16 q.cl, .int .u16 a.rc, .bool false, .slice A1 m1 cc1, .slice A2 m2 cc2, .slice A3 m3 cc3, .int .i64 n, .int .i64 (n + L * 10)]
          have hE9' : Blk (W8.alloc (.cells #[.pointer none, .pointer none, .string (foldS q.nm), .int .u16 q.ty, .int .u16 q.cl, .int .u16 a.rc, .bool false, .slice A1 m1 cc1, .slice A2 m2 cc2, .slice A3 m3 cc3, .int .i64 n, .int .i64 (n + L * 10)] 86)) e.b 86 (ptr none :: ptr none :: e.pay) := by
            have hpay : (ptr none :: ptr none :: e.pay) = (#[.pointer none, .pointer none, .string (foldS q.nm), .int .u16 q.ty, .int .u16 q.cl, .int .u16 a.rc, .bool false, .slice A1 m1 cc1, .slice A2 m2 cc2, .slice A3 m3 cc3, .int .i64 n, .int .i64 (n + L * 10)] : Array Value).toList := by
              rw [he]
              show ptr none :: ptr none :: [_, _, _, _, _, _, _, _, _, .int .i64 (n + lifeV a.rc a.an.l a.au.l a.ex.l * 10)] = _
              rw [show lifeV a.rc a.an.l a.au.l a.ex.l = L from HL.out]
              rfl
            rw [hpay, heb]
            exact hE9
          have b9 := below_new W8 (.cells #[.pointer none, .pointer none, .string (foldS q.nm), .int .u16 q.ty, .int .u16 q.cl, .int .u16 a.rc, .bool false, .slice A1 m1 cc1, .slice A2 m2 cc2, .slice A3 m3 cc3, .int .i64 n, .int .i64 (n + L * 10)] 86)
          have hc9 := hc8.below b9
          have hF9 := hF8.trans (Fr.of_below b9)
          have hQ9 := hQ8.below b9
          have r1' := own_below p1 b9
          have r2' := own_below p2 b9
          have r3' := own_below p3 b9
          have hz9 : (W8.alloc (.cells #[.pointer none, .pointer none, .string (foldS q.nm), .int .u16 q.ty, .int .u16 q.cl, .int .u16 a.rc, .bool false, .slice A1 m1 cc1, .slice A2 m2 cc2, .slice A3 m3 cc3, .int .i64 n, .int .i64 (n + L * 10)] 86)).heap.size = W8.heap.size + 1 := World.size_alloc _ _
          have heo : CeOk (W8.alloc (.cells #[.pointer none, .pointer none, .string (foldS q.nm), .int .u16 q.ty, .int .u16 q.cl, .int .u16 a.rc, .bool false, .slice A1 m1 cc1, .slice A2 m2 cc2, .slice A3 m3 cc3, .int .i64 n, .int .i64 (n + L * 10)] 86)) e := by
            refine ⟨?_, ?_, ?_, ?_⟩
            · rw [heV]
              exact ⟨hfo, ha.rc, hnb, life_bd _ _ _ _ ha.an.ok ha.au.ok ha.ex.ok, fun r hr => ⟨ha.an.ok r hr, hs.na r hr⟩, fun r hr => ⟨ha.au.ok r hr, hs.nu r hr⟩, fun r hr => ⟨ha.ex.ok r hr, hs.nx r hr⟩, by show a.an.l.length ≤ 30; rw [ha.an.len]; exact hs.an, by show a.au.l.length ≤ 30; rw [ha.au.len]; exact hs.au, by show a.ex.l.length ≤ 30; rw [ha.ex.len]; exact hs.ex⟩
            · rw [he]
              have h1 := own_lower r1' (Nat.zero_le _)
              show World.ownsRow _ 0 _ 12 _ a.an.l.length _
              rw [show a.an.l.length = m1 by rw [← HM1.out]; simp]
              exact h1
            · rw [he]
              have h1 := own_lower r2' (Nat.zero_le _)
              show World.ownsRow _ 0 _ 12 _ a.au.l.length _
              rw [show a.au.l.length = m2 by rw [← HM2.out]; simp]
              exact h1
            · rw [he]
              have h1 := own_lower r3' (Nat.zero_le _)
              show World.ownsRow _ 0 _ 12 _ a.ex.l.length _
              rw [show a.ex.l.length = m3 by rw [← HM3.out]; simp]
              exact h1
          have hob : ∀ i, (e.v1.ownBlock = some i ∨ e.v2.ownBlock = some i ∨ e.v3.ownBlock = some i) → W6.heap.size ≤ i := fun i hi => by
            rw [he] at hi
            rcases hi with hi | hi | hi
            · exact own_base r1' i hi
            · exact own_base r2' i hi
            · exact own_base r3' i hi
          clear r1' r2' r3' p1 p2 p3 hE9 hc8 hQ8 hF8
          obtain ⟨W9, hW9⟩ : ∃ x, W8.alloc (.cells #[.pointer none, .pointer none, .string (foldS q.nm), .int .u16 q.ty, .int .u16 q.cl, .int .u16 a.rc, .bool false, .slice A1 m1 cc1, .slice A2 m2 cc2, .slice A3 m3 cc3, .int .i64 n, .int .i64 (n + L * 10)] 86) = x := ⟨_, rfl⟩
          rw [hW9] at hE9' hc9 hF9 heo hQ9 hz9 ⊢
          clear hW9 b9 hB8
          have hkok : e.e.key.ok := by rw [hek2]; exact hfo
          obtain ⟨W10, hmu, hM10, hg10⟩ := MapR.put (W := W9.drew) (show MapR W9.drew bm r2 from hc9.mp) hc9.keys e hkok (fun c hc => by rw [hek2]; exact hno2 c hc) (by omega)
          have x2 : W9.cell? ⟨C, 2, none⟩ = some (.map (some bm)) := hc9.hd.cell 2 _ rfl
          have v0 := hQ9.cell 0 _ rfl
          have v1 := hQ9.cell 1 _ rfl
          have v2 := hQ9.cell 2 _ rfl
          rw [hek2, heb] at hmu
          unfold Qn.val foldQ ptr at hmu
          simp only [Option.map] at hmu
          go_region
          have hbmC := hc9.mp.noblk hc9.hd
          have hbmB : ∀ c ∈ r2 ++ [e], c.b ≠ bm := by
            intro c hc
            rcases List.mem_append.1 hc with hc | hc
            · obtain ⟨ds, hd⟩ := Lk.blk_of hc9.lk c hc
              exact hc9.mp.noblk hd
            · obtain rfl : c = e := by simpa using hc
              exact hc9.mp.noblk hE9'
          have hFm : Fr (fun k => k = bm) W9 W10 := ((Fr.refl _ W9).drew).grown hg10 (fun i hi => by cases hi; exact .inl rfl)
          have hC10 := hc9.hd.fr hFm (fun x => hbmC x)
          have hL10 := hc9.lk.fr hFm (fun c hc => hbmB c (by simp [hc]))
          have hE10 := hE9'.fr hFm (hbmB e (by simp))
          have hlow : ∀ c ∈ r2, c.b < g5 := fun c hc => hbC0 c.b (.inl (.inr (.inr (List.mem_map.2 ⟨c, hc, rfl⟩))))
          have hnb10 : ((r2 ++ [e]).map Ce.b).Nodup := by
            rw [List.map_append, List.nodup_append]
            refine ⟨hc9.nb, by simp, fun x hx y hy => ?_⟩
            obtain ⟨c, hc, rfl⟩ := List.mem_map.1 hx
            obtain rfl : y = e.b := by simpa using hy
            have := hlow c hc
            omega
          have hnk10 : ((r2 ++ [e]).map fun c => kl c.e.key).Nodup := by
            rw [List.map_append, List.nodup_append]
            refine ⟨hc9.nk, by simp, fun x hx y hy => ?_⟩
            obtain ⟨c, hc, rfl⟩ := List.mem_map.1 hx
            obtain rfl : y = kl e.e.key := by simpa using hy
            exact fun hk => hno2 c hc (by rw [← hek2]; exact kl_inj (hc9.keys c hc) hkok hk)
          have hla := last_ W10 C bm room r2 e hC10 hL10 hE10 hnb10
          have hok10 : ∀ c ∈ r2 ++ [e], CeOk W9 c := by
            intro c hc
            rcases List.mem_append.1 hc with hc | hc
            · exact hc9.ok c hc
            · obtain rfl : c = e := by simpa using hc
              exact heo
          have hS : ∀ k, CS C bm (r2 ++ [e]) k → CS C bm row k ∨ W.heap.size ≤ k := by
            intro k hk
            rcases hk with hk | hk | hk
            · exact .inl (.inl hk)
            · exact .inl (.inr (.inl hk))
            · obtain ⟨c, hc, rfl⟩ := List.mem_map.1 hk
              rcases List.mem_append.1 hc with hc | hc
              · exact .inl (.inr (.inr (List.mem_map.2 ⟨c, hsub c hc, rfl⟩)))
              · obtain rfl : c = e := by simpa using hc
                right
                rw [HG5.out, heb]
                omega
          have hH : ∀ k, CH C bm (r2 ++ [e]) k → CH C bm row k ∨ W.heap.size ≤ k := by
            intro k hk
            rcases hk with hk | ⟨c, hc, hk⟩
            · exact (hS k hk).imp .inl id
            · rcases List.mem_append.1 hc with hc | hc
              · exact .inl (.inr ⟨c, hsub c hc, hk⟩)
              · obtain rfl : c = e := by simpa using hc
                right
                have := hob k hk
                rw [HG5.out]
                omega
          have hF10 : Fr (CS C bm row) W W10 := (hF9.drew).grown hg10 (fun i hi => by cases hi; exact .inl (.inr (.inl rfl)))
          have hpos : putV room (row.map Ce.e) q a.rc a.an.l a.au.l a.ex.l now = (if room < (r2.length : Int) + 1 then (((r2 ++ [e]).map Ce.e).drop 1, true) else ((r2 ++ [e]).map Ce.e, true)) := by
            rw [HP1.out, HR2.out, List.map_append, List.map_cons, List.map_nil, heV, List.length_map]
          have HPOS := Lib.hid hpos
          have hrowN : ∀ {m : Nat} {v : Value} {cs : List Value}, W9.ownsRow 0 46 12 v m cs → ∀ i, v.ownBlock = some i → i ≠ bm ∧ i ≠ C ∧ i ∉ (r2 ++ [e]).map Ce.b := by
            intro m v cs ho i hi
            refine ⟨fun x => ?_, fun x => own_ne_blk ho hc9.hd (by decide) (by rw [← x]; exact hi), fun x => ?_⟩
            · obtain ⟨cur, fr, hb⟩ := own_blk ho hi
              obtain ⟨D, nn, ⟨es, clock, h1, _⟩, _⟩ := hc9.mp
              rw [x, h1] at hb
              cases hb
            · obtain ⟨c, hc, hx⟩ := List.mem_map.1 x
              rcases List.mem_append.1 hc with hc | hc
              · obtain ⟨ds, hd⟩ := Lk.blk_of hc9.lk c hc
                exact own_ne_blk ho hd (by decide) (by rw [hx]; exact hi)
              · obtain rfl : c = e := by simpa using hc
                exact own_ne_blk ho hE9' (by decide) (by rw [hx]; exact hi)
          clear hpos hC10 hL10 hE10 hc9 hE9'
          rw [show ptr (some e.b) = .pointer (some ⟨W8.heap.size, 0, none⟩) by rw [heb]; rfl] at hla
          unfold ptr at hla
          simp only [Option.map] at hla
          go_upto_region 17 with (first | (go_at_call 36; refine hla.mono ?_; clear hla; rintro en W11 ⟨rfl, hC11, hL11, hF11⟩))
          have hF11b : Fr (CS C bm (r2 ++ [e])) W10 W11 := hF11.mono (fun k _ hk => by rcases hk with hk | hk; exact .inl hk; exact .inr (.inr hk))
          have hM11 := hM10.fr hF11 (by
            rintro (x | x)
            · exact hbmC x.symm
            · obtain ⟨c, hc, hx⟩ := List.mem_map.1 x
              exact hbmB c hc hx)
          have hrow : ∀ {m : Nat} {v : Value} {cs : List Value}, W9.ownsRow 0 46 12 v m cs → W11.ownsRow 0 46 12 v m cs := fun ho =>
            own_fr (own_fr ho hFm (fun i hi => (hrowN ho i hi).1)) hF11 (fun i hi x => by rcases x with x | x; exact (hrowN ho i hi).2.1 x; exact (hrowN ho i hi).2.2 x)
          have hc11 : CacheW W11 C bm room (r2 ++ [e]) := ⟨hC11, hL11, hM11, hnb10, hnk10, fun c hc => ⟨(hok10 c hc).e, hrow (hok10 c hc).o1, hrow (hok10 c hc).o2, hrow (hok10 c hc).o3⟩⟩
          have hF11c := hF10.trans (hF11b.mono (fun k _ hk => hS k hk))
          have t2 : W11.cell? ⟨C, 2, none⟩ = some (.map (some bm)) := hc11.hd.cell 2 _ rfl
          have t3 : W11.cell? ⟨C, 3, none⟩ = some (.int .i64 room) := hc11.hd.cell 3 _ rfl
          have t1 : W11.cell? ⟨C, 1, none⟩ = some (ptr (hd (r2 ++ [e]) none)) := hc11.hd.cell 1 _ rfl
          have hlenM : ∀ k, (Builtin.len_ #[73] 3 #[.map (some bm)]).run Try.prog (W11.drewN k) = .ok (.int .i64 ((r2.length : Int) + 1)) (W11.drewN k) := fun k => by
            obtain ⟨D, nn, h1, h2, _⟩ := (hc11.mp.fr ((Fr.refl (fun _ => False) W11).drewN k) (fun h => h))
            have h3 := h1.len Try.underlying73 3
            rw [h2, List.length_append] at h3
            exact h3
          obtain ⟨Nl, hNl⟩ : ∃ x, (r2.length : Int) + 1 = x := ⟨_, rfl⟩
          rw [hNl] at hlenM HPOS
          obtain ⟨f1, fl, hfl⟩ : ∃ f l, r2 ++ [e] = f :: l := by
            cases r2 with
            | nil => exact ⟨e, [], rfl⟩
            | cons x l => exact ⟨x, l ++ [e], rfl⟩
          clear hC11 hL11 hM11 hF11 hF11b hM10 hg10 hmu
          by_cases hev : room < Nl
          · have hdr := fun k => drop_ (W11.drewN k) C bm room [] fl f1 (by rw [List.nil_append, ← hfl]; exact hc11.fr ((Fr.refl (fun _ => False) W11).drewN k) (fun _ _ h => h))
            rw [hfl] at t1
            rw [show ptr (hd (f1 :: fl) none) = .pointer (some ⟨f1.b, 0, none⟩) from rfl] at t1
            unfold ptr at hdr
            simp only [Option.map, List.nil_append] at hdr
            go_quiet (fail)
            go_wp2_with (first | (go_at_call 34; refine (hdr _).mono ?_; clear hdr; rintro en W12 ⟨rfl, hc12, hf12⟩))
            go_ret
            have hpv := HPOS.out
            rw [if_pos hev, hfl] at hpv
            have hsb : ∀ c ∈ fl, c ∈ r2 ++ [e] := fun c hc => by rw [hfl]; simp [hc]
            refine ⟨fl, by rw [hpv]; rfl, by rw [hpv]; rfl, hc12, ?_, fun k hk => hH k (CH.sub hsb k hk)⟩
            have h12 : Fr (CS C bm (r2 ++ [e])) (W11.drewN nq) W12 := by rw [hfl]; exact hf12
            exact (hF11c.drewN nq).trans (h12.mono (fun k _ hk => hS k hk))
          · go_quiet (fail)
            go_wp2
            go_ret
            have hpv := HPOS.out
            rw [if_neg (by omega)] at hpv
            first
              | exact ⟨r2 ++ [e], by rw [hpv]; rfl, by rw [hpv], hc11.fr ((Fr.refl (fun _ => False) W11).drewN nq) (fun _ _ h => h), hF11c.drewN nq, hH⟩
              | exact ⟨by rw [hpv]; rfl, r2 ++ [e], by rw [hpv], hc11.fr ((Fr.refl (fun _ => False) W11).drewN nq) (fun _ _ h => h), hF11c.drewN nq, hH⟩

end Go.Proofs.Ytioehogncgloiaa
