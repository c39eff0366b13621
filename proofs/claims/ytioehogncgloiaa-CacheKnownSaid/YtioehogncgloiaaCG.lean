/- A cache in memory; drop: contract. -/
import Derived.Test.YtioehogncgloiaaCF
import Derived.Deep.Cut
namespace Go.Proofs.Ytioehogncgloiaa
open Go.RowKit Go.HL Go.Maps
set_option linter.unusedVariables false
set_option linter.unusedSimpArgs false
/-- An entry that may be. -/
structure Ae.ok (e : Ae) : Prop where
  key : e.key.ok
  rc : 0 ≤ e.rc ∧ e.rc < 65536
  put : 0 ≤ e.put ∧ e.put ≤ 4611686018427387904
  life : 0 ≤ e.life ∧ e.life ≤ 2147483647
  an : ∀ r ∈ e.an, r.ok ∧ r.nm.size ≤ 2000
  au : ∀ r ∈ e.au, r.ok ∧ r.nm.size ≤ 2000
  ex : ∀ r ∈ e.ex, r.ok ∧ r.nm.size ≤ 2000
  na : e.an.length ≤ 30
  nu : e.au.length ≤ 30
  nx : e.ex.length ≤ 30
/-- An entry's rows in memory. -/
structure CeOk (W : World) (c : Ce) : Prop where
  e : c.e.ok
  o1 : W.ownsRow 0 46 12 c.v1 c.e.an.length (rcs (c.e.an.map (agedR 0)))
  o2 : W.ownsRow 0 46 12 c.v2 c.e.au.length (rcs (c.e.au.map (agedR 0)))
  o3 : W.ownsRow 0 46 12 c.v3 c.e.ex.length (rcs (c.e.ex.map (agedR 0)))
/-- The blocks of the rows of entries. -/
def rowB (row : List Ce) (k : Nat) : Prop := ∃ c ∈ row, c.v1.ownBlock = some k ∨ c.v2.ownBlock = some k ∨ c.v3.ownBlock = some k
theorem CeOk.fr {S : Nat → Prop} {W W' : World} {c : Ce} (h : CeOk W c) (k : Fr S W W') (hn : ∀ i, (c.v1.ownBlock = some i ∨ c.v2.ownBlock = some i ∨ c.v3.ownBlock = some i) → ¬ S i) : CeOk W' c :=
  ⟨h.e, own_fr h.o1 k (fun i hi => hn i (.inl hi)), own_fr h.o2 k (fun i hi => hn i (.inr (.inl hi))), own_fr h.o3 k (fun i hi => hn i (.inr (.inr hi)))⟩
/-- A cache in memory. -/
structure CacheW (W : World) (C bm : Nat) (room : Int) (row : List Ce) : Prop where
  hd : Blk W C 78 (headC row bm room)
  lk : Lk W none row none
  mp : MapR W bm row
  nb : (row.map Ce.b).Nodup
  nk : (row.map fun c => kl c.e.key).Nodup
  ok : ∀ c ∈ row, CeOk W c
/-- The blocks that a cache writes. -/
def CS (C bm : Nat) (row : List Ce) (k : Nat) : Prop := k = C ∨ k = bm ∨ k ∈ row.map Ce.b
/-- .. and those that it holds. -/
def CH (C bm : Nat) (row : List Ce) (k : Nat) : Prop := CS C bm row k ∨ rowB row k
theorem CacheW.fr {S : Nat → Prop} {W W' : World} {C bm : Nat} {room : Int} {row : List Ce} (h : CacheW W C bm room row) (k : Fr S W W') (hn : ∀ i, CH C bm row i → ¬ S i) : CacheW W' C bm room row :=
  ⟨h.hd.fr k (hn _ (.inl (.inl rfl))), h.lk.fr k (fun c hc => hn _ (.inl (.inr (.inr (List.mem_map.2 ⟨c, hc, rfl⟩))))), h.mp.fr k (hn _ (.inl (.inr (.inl rfl)))), h.nb, h.nk, fun c hc => (h.ok c hc).fr k (fun i hi => hn i (.inr ⟨c, hc, hi⟩))⟩
theorem CacheW.below {W W' : World} {C bm : Nat} {room : Int} {row : List Ce} (h : CacheW W C bm room row) (k : Below W.heap.size W W') : CacheW W' C bm room row :=
  h.fr (Fr.of_below (S := fun _ => False) k) (fun _ _ h => h)
theorem CacheW.keys {W : World} {C bm : Nat} {room : Int} {row : List Ce} (h : CacheW W C bm room row) : ∀ c ∈ row, c.e.key.ok := fun c hc => (h.ok c hc).e.key
theorem CH.lt {W : World} {C bm : Nat} {room : Int} {row : List Ce} (h : CacheW W C bm room row) (k : Nat) (hk : CH C bm row k) : k < W.heap.size := by
  rcases hk with (rfl | rfl | hk) | ⟨c, hc, hk⟩
  · exact h.hd.lt
  · exact h.mp.lt
  · obtain ⟨c, hc, rfl⟩ := List.mem_map.1 hk
    exact h.lk.lt c hc
  · have ho := h.ok c hc
    rcases hk with hk | hk | hk
    · obtain ⟨_, _, hb⟩ := own_blk ho.o1 hk; exact (Array.getElem?_eq_some_iff.1 hb).1
    · obtain ⟨_, _, hb⟩ := own_blk ho.o2 hk; exact (Array.getElem?_eq_some_iff.1 hb).1
    · obtain ⟨_, _, hb⟩ := own_blk ho.o3 hk; exact (Array.getElem?_eq_some_iff.1 hb).1
/-- What a cache writes is no row of an entry's. -/
theorem CS.norow {W : World} {C bm : Nat} {room : Int} {row : List Ce} (h : CacheW W C bm room row) {n : Nat} {v : Value} {cs : List Value} (ho : W.ownsRow 0 46 12 v n cs) (i : Nat) (hi : v.ownBlock = some i) : ¬ CS C bm row i := by
  rintro (rfl | rfl | hk)
  · exact own_ne_blk ho h.hd (by decide) hi
  · obtain ⟨_, _, hb⟩ := own_blk ho hi
    obtain ⟨D, n, ⟨es, clock, h1, _⟩, _⟩ := h.mp
    rw [h1] at hb
    cases hb
  · obtain ⟨c, hc, rfl⟩ := List.mem_map.1 hk
    obtain ⟨cur, fr, hb⟩ := own_blk ho hi
    have hl := h.lk
    have : ∀ (l : List Ce) (p t : Option Nat), Lk W p l t → ∀ c ∈ l, ∃ cs, Blk W c.b 86 cs := by
      intro l
      induction l with
      | nil => intro p t _ c hc; cases hc
      | cons d l ih =>
        intro p t h c hc
        rcases List.mem_cons.1 hc with rfl | hc
        · exact ⟨_, h.1⟩
        · exact ih _ _ h.2 c hc
    obtain ⟨ds, hd⟩ := this _ _ _ hl c hc
    have h' : W.heap[c.b]? = _ := hd
    rw [h'] at hb
    cases hb
set_option maxHeartbeats 2000000 in
theorem drop_ (W : World) (C bm : Nat) (room : Int) (l1 l2 : List Ce) (e : Ce) (h : CacheW W C bm room (l1 ++ e :: l2)) :
    Calls Try.prog 34 #[ptr (some C), ptr (some e.b)] W fun en W' => en = .returned (.tuple #[]) ∧ CacheW W' C bm room (l1 ++ l2) ∧ Fr (CS C bm (l1 ++ e :: l2)) W W' := by
  have hout := out_ W C bm room l1 l2 e h.hd h.lk h.nb
  have hek := h.keys e (by simp)
  have hbmE : ∀ c ∈ l1 ++ e :: l2, c.b ≠ bm := by
    intro c hc
    have : ∀ (l : List Ce) (p t : Option Nat), Lk W p l t → ∀ c ∈ l, ∃ cs, Blk W c.b 86 cs := by
      intro l
      induction l with
      | nil => intro p t _ c hc; cases hc
      | cons d l ih =>
        intro p t h c hc
        rcases List.mem_cons.1 hc with rfl | hc
        · exact ⟨_, h.1⟩
        · exact ih _ _ h.2 c hc
    obtain ⟨ds, hd⟩ := this _ _ _ h.lk c hc
    exact h.mp.noblk hd
  have hbmC := h.mp.noblk h.hd
  unfold ptr at hout ⊢
  simp only [Option.map] at hout ⊢
  go_enter Try.func34, Try.ntmps34
  go_upto_region 1 with (first | (go_at_call 37; refine hout.mono ?_; clear hout; rintro en W1 ⟨rfl, hC1, hL1, hE1, hF1⟩))
  have hM1 := h.mp.fr hF1 (by
    rintro (e1 | e1)
    · exact hbmC e1.symm
    · obtain ⟨c, hc, e2⟩ := List.mem_map.1 e1
      exact hbmE c hc e2)
  have c2 : W1.cell? ⟨C, 2, none⟩ = some (.map (some bm)) := hC1.cell 2 _ rfl
  have q2 : W1.cell? ⟨e.b, 2, none⟩ = some (.string e.e.key.nm) := hE1.cell 2 _ rfl
  have q3 : W1.cell? ⟨e.b, 3, none⟩ = some (.int .u16 e.e.key.ty) := hE1.cell 3 _ rfl
  have q4 : W1.cell? ⟨e.b, 4, none⟩ = some (.int .u16 e.e.key.cl) := hE1.cell 4 _ rfl
  obtain ⟨W2, hdel, hM2, hg2⟩ := MapR.del (W := W1.drew) (show MapR W1.drew bm (l1 ++ e :: l2) from hM1) hek h.nk 0
  unfold Qn.val at hdel
  go_region
  have hsub : ∀ c ∈ l1 ++ l2, c ∈ l1 ++ e :: l2 := by intro c hc; simp at hc ⊢; rcases hc with h | h <;> simp [h]
  have hF1' : Fr (CS C bm (l1 ++ e :: l2)) W W1.drew := (hF1.mono (fun k _ hk => by
    rcases hk with hk | hk
    · exact .inl hk
    · exact .inr (.inr hk))).drew
  have hF2 : Fr (CS C bm (l1 ++ e :: l2)) W W2 := hF1'.grown hg2 (fun i hi => by cases hi; exact .inl (.inr (.inl rfl)))
  have hFm : Fr (fun k => k = bm) W1.drew W2 := (Fr.refl _ _).grown hg2 (fun i hi => by cases hi; exact .inl rfl)
  refine bodyPost_end (results_none rfl _ _ _) rfl ⟨rfl, ⟨?_, ?_, hM2, ?_, ?_, fun c hc => ?_⟩, hF2⟩
  · exact Blk.fr (show Blk W1.drew C 78 (headC (l1 ++ l2) bm room) from hC1) hFm (fun x => hbmC x)
  · exact Lk.fr hFm hL1.drew (fun c hc => hbmE c (hsub c hc))
  · have := h.nb
    simp [List.nodup_append] at this ⊢
    grind
  · have := h.nk
    simp [List.nodup_append] at this ⊢
    grind
  · exact (h.ok c (hsub c hc)).fr hF2 (fun i hi => by
      have ho := h.ok c (hsub c hc)
      rcases hi with hi | hi | hi
      · exact CS.norow h ho.o1 i hi
      · exact CS.norow h ho.o2 i hi
      · exact CS.norow h ho.o3 i hi)
/-- What is over is gone. -/
def overB (now : Int) (c : Ce) : Bool := decide (c.e.put + c.e.life * 10 ≤ now)
def sweepC (now : Int) (row : List Ce) : List Ce := row.filter fun c => !overB now c
theorem CS.sub {C bm : Nat} {r r' : List Ce} (h : ∀ c ∈ r, c ∈ r') (k : Nat) (hk : CS C bm r k) : CS C bm r' k := by
  rcases hk with hk | hk | hk
  · exact .inl hk
  · exact .inr (.inl hk)
  · obtain ⟨c, hc, rfl⟩ := List.mem_map.1 hk
    exact .inr (.inr (List.mem_map.2 ⟨c, h c hc, rfl⟩))
theorem ptr_inj {a b : Option Nat} (h : ptr a = ptr b) : a = b := by
  cases a <;> cases b <;> simp [ptr] at h ⊢
  exact h
theorem Lk.same_len {W : World} : ∀ {m m' : List Ce} {p p' : Option Nat}, Lk W p m none → Lk W p' m' none → hd m none = hd m' none → m.length = m'.length
  | [], [], _, _, _, _, _ => rfl
  | [], c :: l, _, _, _, _, h => by cases h
  | c :: l, [], _, _, _, _, h => by cases h
  | c :: l, c' :: l', p, p', h1, h2, h => by
    simp only [hd, Option.some.injEq] at h
    have e1 := h1.1.cell 1 _ rfl
    have e2 := h2.1.cell 1 _ rfl
    rw [h, e2] at e1
    have e3 := ptr_inj (Option.some.inj e1)
    simp only [List.length_cons]
    rw [Lk.same_len h1.2 h2.2 e3.symm]
/-- How many entries stand from a pointer on. -/
def IsLen (p : Value) (w : World) (q : Nat) : Prop := ∃ (m : List Ce) (r : Option Nat), Lk w r m none ∧ p = ptr (hd m none) ∧ m.length = q
theorem isLen_eps {p : Value} {w : World} {q : Nat} (h : IsLen p w q) : Classical.epsilon (IsLen p w) = q := by
  obtain ⟨m, r, h1, h2, h3⟩ := h
  obtain ⟨m', r', k1, k2, k3⟩ := Classical.epsilon_spec (p := IsLen p w) ⟨q, m, r, h1, h2, h3⟩
  rw [← k3, ← h3]
  exact Lk.same_len k1 h1 (ptr_inj (k2.symm.trans h2))
set_option maxRecDepth 8000 in
set_option maxHeartbeats 2000000 in
theorem sweep_ (W : World) (C bm : Nat) (room now : Int) (row : List Ce) (h : CacheW W C bm room row) :
    Calls Try.prog 30 #[ptr (some C), .int .i64 now] W fun en W' => en = .returned (.tuple #[]) ∧ CacheW W' C bm room (sweepC now row) ∧ Fr (CS C bm row) W W' := by
  have c1 : W.cell? ⟨C, 1, none⟩ = some (ptr (hd row none)) := h.hd.cell 1 _ rfl
  have hstart : ∃ (k m : List Ce), (∃ l, l ++ m = row ∧ k = sweepC now l) ∧ ptr (hd row none) = ptr (hd m none) ∧ CacheW W C bm room (k ++ m) ∧ Fr (CS C bm row) W W := ⟨[], row, ⟨[], rfl, rfl⟩, rfl, h, Fr.refl _ _⟩
  obtain ⟨r0, hr0⟩ : ∃ x, hd row none = x := ⟨_, rfl⟩
  rw [hr0] at c1 hstart
  clear h hr0
  unfold ptr at c1 ⊢
  go_enter Try.func30, Try.ntmps30
  go_wp2
  go_loopw [4] (fun p wr => ∃ (k m : List Ce), (∃ l, l ++ m = row ∧ k = sweepC now l) ∧ p = ptr (hd m none) ∧ CacheW wr C bm room (k ++ m) ∧ Fr (CS C bm row) W wr) (fun p wr => Classical.epsilon (IsLen p wr))
  case atStart => exact hstart
  case round =>
    obtain ⟨k, m, ⟨l, hlm, hkl⟩, rfl, hc, hf⟩ := hrel
    cases m with
    | nil =>
      rw [List.append_nil] at hlm hc
      subst hlm
      rw [hkl] at hc
      clear hkl
      rw [show ptr (hd ([] : List Ce) none) = .pointer none from rfl]
      go_wp2
      refine bodyPost_end (results_none rfl _ _ _) rfl ⟨rfl, hc, hf⟩
    | cons e m =>
      have hlk := hc.lk
      rw [Lk.append] at hlk
      obtain ⟨hlk1, hE, hlk2⟩ := hlk
      have e1 : wr.cell? ⟨e.b, 1, none⟩ = some (ptr (hd m none)) := hE.cell 1 _ rfl
      have e11 : wr.cell? ⟨e.b, 11, none⟩ = some (.int .i64 (e.e.put + e.e.life * 10)) := hE.cell 11 _ rfl
      have hin : ∀ c ∈ k ++ e :: m, c ∈ row := by
        intro c hc'
        rw [← hlm]
        rcases List.mem_append.1 hc' with hc' | hc'
        · rw [hkl] at hc'
          exact List.mem_append.2 (.inl (List.mem_filter.1 hc').1)
        · exact List.mem_append.2 (.inr hc')
      have HL0 := Lib.hid (isLen_eps (q := m.length + 1) ⟨e :: m, _, ⟨hE, hlk2⟩, rfl, rfl⟩)
      by_cases hov : e.e.put + e.e.life * 10 ≤ now
      · have hdr := drop_ wr C bm room k m e hc
        have hkl2 : k = sweepC now (l ++ [e]) := by
          rw [hkl]
          unfold sweepC
          rw [List.filter_append]
          simp [overB, hov]
        obtain ⟨nx, hnx⟩ : ∃ x, hd m none = x := ⟨_, rfl⟩
        rw [hnx] at e1
        unfold ptr at e1 hdr
        clear hlk1 hE hlk2 hc
        rw [show ptr (hd (e :: m) none) = .pointer (some ⟨e.b, 0, none⟩) from rfl]
        go_wp2_with (go_at_call 34; refine hdr.mono ?_; clear hdr; rintro en W1 ⟨rfl, hc1, hf1⟩)
        go_roundw
        case rel =>
          have hr : ∃ (k m : List Ce), (∃ l, l ++ m = row ∧ k = sweepC now l) ∧ ptr nx = ptr (hd m none) ∧ CacheW W1 C bm room (k ++ m) ∧ Fr (CS C bm row) W W1 := ⟨k, m, ⟨l ++ [e], by rw [List.append_assoc]; exact hlm, hkl2⟩, by rw [hnx], hc1, hf.trans' (hf1.mono (fun i _ hi => CS.sub hin i hi))⟩
          first
            | exact hr
            | exact ⟨_, _, _, _, _, _, _, _, _, _, _, _, _, _, _, _, _, _, _, hr, rfl⟩
        case measure =>
          have h1 := hc1.lk
          rw [Lk.append] at h1
          have h2 := isLen_eps (p := ptr (hd m none)) (q := m.length) ⟨m, _, h1.2, rfl, rfl⟩
          have h3 := HL0.out
          rw [hnx] at h2
          show Classical.epsilon (IsLen (ptr nx) W1) < Classical.epsilon (IsLen (ptr (hd (e :: m) none)) wr)
          rw [h2, h3]
          omega
      · have hkl2 : k ++ [e] = sweepC now (l ++ [e]) := by
          rw [hkl]
          unfold sweepC
          rw [List.filter_append]
          have hob : overB now e = false := decide_eq_false hov
          simp [hob]
        obtain ⟨nx, hnx⟩ : ∃ x, hd m none = x := ⟨_, rfl⟩
        rw [hnx] at e1
        unfold ptr at e1
        have hlk2' := hlk2
        have HC := Lib.hid hc
        have HL := Lib.hid hlk2
        clear hlk1 hE hlk2 hc hlk2'
        rw [show ptr (hd (e :: m) none) = .pointer (some ⟨e.b, 0, none⟩) from rfl]
        go_wp2
        go_roundw
        case rel =>
          have hr : ∃ (k m : List Ce), (∃ l, l ++ m = row ∧ k = sweepC now l) ∧ ptr nx = ptr (hd m none) ∧ CacheW wr C bm room (k ++ m) ∧ Fr (CS C bm row) W wr := ⟨k ++ [e], m, ⟨l ++ [e], by rw [List.append_assoc]; exact hlm, hkl2⟩, by rw [hnx], by rw [List.append_assoc]; exact HC.out, hf⟩
          first
            | exact hr
            | exact ⟨_, _, _, _, _, _, _, _, _, _, _, _, _, _, _, _, _, _, _, hr, rfl⟩
        case measure =>
          have h2 := isLen_eps (p := ptr (hd m none)) (q := m.length) ⟨m, _, HL.out, rfl, rfl⟩
          have h3 := HL0.out
          rw [hnx] at h2
          show Classical.epsilon (IsLen (ptr nx) wr) < Classical.epsilon (IsLen (ptr (hd (e :: m) none)) wr)
          rw [h2, h3]
          omega
end Go.Proofs.Ytioehogncgloiaa
