/- Two caches of two rooms; what is told of a nil one: contracts. -/
import Derived.Test.YtioehogncgloiaaKN1
import Derived.Test.YtioehogncgloiaaHX
namespace Go.Proofs.Ytioehogncgloiaa
open Go.RowKit Go.HL Go.Maps
set_option linter.unusedVariables false
set_option linter.unusedSimpArgs false
/-- What blocks that are no cache's, and rows of records, keep. -/
structure Kst (W W' : World) : Prop where
  blk : ∀ g t cs, Blk W g t cs → t ≠ 78 → t ≠ 86 → Blk W' g t cs
  own : ∀ B v n cs, W.ownsRow B 46 12 v n cs → W'.ownsRow B 46 12 v n cs
  size : W.heap.size ≤ W'.heap.size
theorem Kst.refl (W : World) : Kst W W := ⟨fun _ _ _ h _ _ => h, fun _ _ _ _ h => h, Nat.le_refl _⟩
theorem Kst.below {W W' : World} (h : Below W.heap.size W W') : Kst W W' := ⟨fun _ _ _ hb _ _ => hb.below h, fun _ _ _ _ ho => own_below ho h, h.size⟩
theorem Kst.trans {A B C : World} (h : Kst A B) (k : Kst B C) : Kst A C := ⟨fun g t cs hb h1 h2 => k.blk g t cs (h.blk g t cs hb h1 h2) h1 h2, fun B v n cs ho => k.own _ _ _ _ (h.own _ _ _ _ ho), Nat.le_trans h.size k.size⟩
theorem CS.noblk {W : World} {C bm : Nat} {room : Int} {row : List Ce} (h : CacheW W C bm room row) {g : Nat} {t : TypeId} {cs : List Value} (hb : Blk W g t cs) (h1 : t ≠ 78) (h2 : t ≠ 86) : ¬ CS C bm row g := by
  rintro (rfl | rfl | hk)
  · have a1 : W.heap[g]? = _ := hb
    have a2 : W.heap[g]? = _ := h.hd
    rw [a1] at a2
    simp at a2
    exact h1 a2.2
  · exact h.mp.noblk hb rfl
  · obtain ⟨c, hc, e⟩ := List.mem_map.1 hk
    exact Lk.ne_blk hb h2 h.lk c hc e
theorem Left.kst {W W' : World} {C bm : Nat} {room : Int} {row row' : List Ce} (h0 : CacheW W C bm room row) (h : Left W C bm room row row' W') : Kst W W' :=
  ⟨fun g t cs hb h1 h2 => hb.fr h.f (CS.noblk h0 hb h1 h2), fun B v n cs ho => own_fr ho h.f (fun i hi => CS.norow h0 (own_lower ho (Nat.zero_le _)) i hi), h.f.size⟩
theorem AnsO.kst {W W' : World} {B : Nat} {rc : Int} {aa : Bool} {l1 l2 l3 : List Rc} {u : Value} (h : AnsO W B rc aa l1 l2 l3 u) (k : Kst W W') : AnsO W' B rc aa l1 l2 l3 u := by
  obtain ⟨v1, v2, v3, e, o1, o2, o3⟩ := h.ex
  exact ⟨v1, v2, v3, e, k.own _ _ _ _ o1, k.own _ _ _ _ o2, k.own _ _ _ _ o3⟩
/-- Two caches, apart from each other. -/
structure Kw (C bm E be : Nat) (r1 r2 : Int) (w0 W : World) (rowc rowd : List Ce) : Prop where
  c : CacheW W C bm r1 rowc
  d : CacheW W E be r2 rowd
  ap : ∀ x, CH C bm rowc x → w0.heap.size ≤ x ∧ ¬ CH E be rowd x
  ld : ∀ x, CH E be rowd x → w0.heap.size ≤ x
  b : Below w0.heap.size w0 W
section
variable {C bm E be : Nat} {r1 r2 : Int} {w0 W W' : World} {rowc rowd : List Ce}
theorem Kw.below (h : Kw C bm E be r1 r2 w0 W rowc rowd) (hb : Below W.heap.size W W') : Kw C bm E be r1 r2 w0 W' rowc rowd :=
  ⟨h.c.below hb, h.d.below hb, h.ap, h.ld, h.b.trans (hb.mono h.b.size)⟩
theorem Kw.stepC {rowc' : List Ce} (h : Kw C bm E be r1 r2 w0 W rowc rowd) (k : Left W C bm r1 rowc rowc' W') : Kw C bm E be r1 r2 w0 W' rowc' rowd :=
  ⟨k.c, h.d.fr k.f (fun i hi hs => (h.ap i (.inl hs)).2 hi), fun x hx => by
    rcases k.h x hx with hx | hx
    · exact h.ap x hx
    · exact ⟨Nat.le_trans h.b.size hx, fun hd => by have := CH.lt h.d x hd; omega⟩, h.ld, Fr.toBelow h.b k.f (fun i _ hi => (h.ap i (.inl hi)).1) h.b.size⟩
theorem Kw.stepD {rowd' : List Ce} (h : Kw C bm E be r1 r2 w0 W rowc rowd) (k : Left W E be r2 rowd rowd' W') : Kw C bm E be r1 r2 w0 W' rowc rowd' :=
  ⟨h.c.fr k.f (fun i hi hs => (h.ap i hi).2 (.inl hs)), k.c, fun x hx => ⟨(h.ap x hx).1, fun hd => by
    rcases k.h x hd with hd | hd
    · exact (h.ap x hx).2 hd
    · have := CH.lt h.c x hx; omega⟩, fun x hx => by
    rcases k.h x hx with hx | hx
    · exact h.ld x hx
    · exact Nat.le_trans h.b.size hx, Fr.toBelow h.b k.f (fun i _ hi => h.ld i (.inl hi)) h.b.size⟩
end
/-- Records that may be looked at. -/
def okRs (l : List Rc) : Prop := l.length ≤ 30 ∧ ∀ r ∈ l, r.ok ∧ r.nm.size ≤ 2000
theorem putO_ (W : World) (C bm : Nat) (room : Int) (row : List Ce) (h : CacheW W C bm room row) (hr1 : 1 ≤ room) (hr2 : room ≤ 4096) (hlen : (row.length : Int) ≤ room) (q : Qn) (hq : q.ok) (hqs : q.nm.size ≤ 2000) (rc : Int) (aa : Bool) (l1 l2 l3 : List Rc) (u : Value) (B : Nat) (ha : AnsO W B rc aa l1 l2 l3 u)
    (hrc : 0 ≤ rc ∧ rc < 65536) (h1 : okRs l1) (h2 : okRs l2) (h3 : okRs l3) (now : Int) :
    Calls Try.prog 10 #[ptr (some C), q.val, u, .int .i64 now] W fun en W' => ∃ row', en = .returned (.bool (putV room (row.map Ce.e) q rc l1 l2 l3 now).2) ∧ row'.map Ce.e = (putV room (row.map Ce.e) q rc l1 l2 l3 now).1 ∧ Left W C bm room row row' W' := by
  obtain ⟨v1, v2, v3, rfl, o1, o2, o3⟩ := ha.ex
  obtain ⟨A1, c1, rfl, rr1⟩ := own_rd o1
  obtain ⟨A2, c2, rfl, rr2⟩ := own_rd o2
  obtain ⟨A3, c3, rfl, rr3⟩ := own_rd o3
  have nn := fun (A : Option Addr) (n c : Nat) (cs : List Value) (ho : W.ownsRow B 46 12 (.slice A n c) n cs) => (show ∀ ad, A = some ad → 0 < n → ¬ CS C bm row ad.block from fun ad e h0 => CS.norow h (own_lower ho (Nat.zero_le _)) ad.block (by rw [e]; rfl))
  exact put_ W C bm room row h hr1 hr2 hlen q hq hqs ⟨rc, aa, ⟨A1, l1.length, c1, l1⟩, ⟨A2, l2.length, c2, l2⟩, ⟨A3, l3.length, c3, l3⟩⟩ ⟨hrc, ⟨rr1, fun r hr => (h1.2 r hr).1⟩, ⟨rr2, fun r hr => (h2.2 r hr).1⟩, ⟨rr3, fun r hr => (h3.2 r hr).1⟩⟩ ⟨h1.1, h2.1, h3.1, fun r hr => (h1.2 r hr).2, fun r hr => (h2.2 r hr).2, fun r hr => (h3.2 r hr).2⟩ ⟨nn _ _ _ _ o1, nn _ _ _ _ o2, nn _ _ _ _ o3⟩ now
/-- What a Get tells, as one value. -/
def TellsA (W : World) (now : Int) (x : Value) : Option Ae → Prop
  | none => x = .tuple #[zeroAns, .bool false]
  | some e => ∃ u, x = .tuple #[u, .bool true] ∧ AnsO W 0 e.rc false (e.an.map (agedR (ageV now e))) (e.au.map (agedR (ageV now e))) (e.ex.map (agedR (ageV now e))) u
theorem got_tells {W W' : World} {now : Int} {en : Ending} {O : Option Ae} (h : GotP W W' now en O) : ∃ x, en = .returned x ∧ TellsA W' now x O := by
  cases O with
  | none => exact ⟨_, h, rfl⟩
  | some e =>
    obtain ⟨v1, v2, v3, rfl, o1, o2, o3⟩ := h
    refine ⟨_, rfl, _, rfl, v1, v2, v3, rfl, ?_, ?_, ?_⟩
    · rw [List.length_map]; exact own_lower o1 (Nat.zero_le _)
    · rw [List.length_map]; exact own_lower o2 (Nat.zero_le _)
    · rw [List.length_map]; exact own_lower o3 (Nat.zero_le _)
section
variable {C bm E be : Nat} {r1 r2 : Int} {w0 W W' : World} {rowc rowd : List Ce}
/-- One cache is put into, the other stays; what is left in it is told by its entries alone. -/
theorem Kw.putC (h : Kw C bm E be r1 r2 w0 W rowc rowd) (a1 : 1 ≤ r1) (a2 : r1 ≤ 4096) (hlen : (rowc.length : Int) ≤ r1) (q : Qn) (hq : q.ok) (hqs : q.nm.size ≤ 2000) (rc : Int) (aa : Bool) (l1 l2 l3 : List Rc) (u : Value) (B : Nat) (ha : AnsO W B rc aa l1 l2 l3 u)
    (hrc : 0 ≤ rc ∧ rc < 65536) (h1 : okRs l1) (h2 : okRs l2) (h3 : okRs l3) (now : Int) :
    Calls Try.prog 10 #[ptr (some C), q.val, u, .int .i64 now] W fun en W' => en = .returned (.bool (putV r1 (rowc.map Ce.e) q rc l1 l2 l3 now).2) ∧ (∃ row', row'.map Ce.e = (putV r1 (rowc.map Ce.e) q rc l1 l2 l3 now).1 ∧ Kw C bm E be r1 r2 w0 W' row' rowd) ∧ Kst W W' :=
  (putO_ W C bm r1 rowc h.c a1 a2 hlen q hq hqs rc aa l1 l2 l3 u B ha hrc h1 h2 h3 now).mono fun en W' ⟨row', e1, e2, hl⟩ => ⟨e1, ⟨row', e2, h.stepC hl⟩, hl.kst h.c⟩
theorem Kw.putD (h : Kw C bm E be r1 r2 w0 W rowc rowd) (a1 : 1 ≤ r2) (a2 : r2 ≤ 4096) (hlen : (rowd.length : Int) ≤ r2) (q : Qn) (hq : q.ok) (hqs : q.nm.size ≤ 2000) (rc : Int) (aa : Bool) (l1 l2 l3 : List Rc) (u : Value) (B : Nat) (ha : AnsO W B rc aa l1 l2 l3 u)
    (hrc : 0 ≤ rc ∧ rc < 65536) (h1 : okRs l1) (h2 : okRs l2) (h3 : okRs l3) (now : Int) :
    Calls Try.prog 10 #[ptr (some E), q.val, u, .int .i64 now] W fun en W' => en = .returned (.bool (putV r2 (rowd.map Ce.e) q rc l1 l2 l3 now).2) ∧ (∃ row', row'.map Ce.e = (putV r2 (rowd.map Ce.e) q rc l1 l2 l3 now).1 ∧ Kw C bm E be r1 r2 w0 W' rowc row') ∧ Kst W W' :=
  (putO_ W E be r2 rowd h.d a1 a2 hlen q hq hqs rc aa l1 l2 l3 u B ha hrc h1 h2 h3 now).mono fun en W' ⟨row', e1, e2, hl⟩ => ⟨e1, ⟨row', e2, h.stepD hl⟩, hl.kst h.d⟩
theorem Kw.getC (h : Kw C bm E be r1 r2 w0 W rowc rowd) (q : Qn) (hq : q.ok) (hqs : q.nm.size ≤ 2000) (now : Int) :
    Calls Try.prog 11 #[ptr (some C), q.val, .int .i64 now] W fun en W' => ∃ x, en = .returned x ∧ TellsA W' (clockV now) x (getV (rowc.map Ce.e) q now).2 ∧ (∃ row', row'.map Ce.e = (getV (rowc.map Ce.e) q now).1 ∧ Kw C bm E be r1 r2 w0 W' row' rowd) ∧ Kst W W' :=
  (get_ W C bm r1 rowc h.c q hq hqs now).mono fun en W' ⟨row', e1, hl, _, hg⟩ => by
    obtain ⟨x, e2, e3⟩ := got_tells hg
    exact ⟨x, e2, e3, ⟨row', e1, h.stepC hl⟩, hl.kst h.c⟩
theorem Kw.getD (h : Kw C bm E be r1 r2 w0 W rowc rowd) (q : Qn) (hq : q.ok) (hqs : q.nm.size ≤ 2000) (now : Int) :
    Calls Try.prog 11 #[ptr (some E), q.val, .int .i64 now] W fun en W' => ∃ x, en = .returned x ∧ TellsA W' (clockV now) x (getV (rowd.map Ce.e) q now).2 ∧ (∃ row', row'.map Ce.e = (getV (rowd.map Ce.e) q now).1 ∧ Kw C bm E be r1 r2 w0 W' rowc row') ∧ Kst W W' :=
  (get_ W E be r2 rowd h.d q hq hqs now).mono fun en W' ⟨row', e1, hl, _, hg⟩ => by
    obtain ⟨x, e2, e3⟩ := got_tells hg
    exact ⟨x, e2, e3, ⟨row', e1, h.stepD hl⟩, hl.kst h.d⟩
end
/-! ### a nil cache -/
theorem len_nil (W : World) : Calls Try.prog 12 #[.pointer none] W fun e W' => e = .returned (.int .i64 0) ∧ W' = W := by
  go_enter Try.func12, Try.ntmps12
  go_wp2
  go_ret
  exact ⟨rfl, rfl⟩
theorem keys_nil (W : World) : Calls Try.prog 24 #[.pointer none] W fun e W' => e = .returned (.slice none 0 0) ∧ W' = W := by
  go_enter Try.func24, Try.ntmps24
  go_wp2
  go_ret
  exact ⟨rfl, rfl⟩
theorem put_nil (W : World) (q : Qn) (B : Nat) (rc : Int) (aa : Bool) (l1 l2 l3 : List Rc) (u : Value) (ha : AnsO W B rc aa l1 l2 l3 u) (now : Int) : Calls Try.prog 10 #[.pointer none, q.val, u, .int .i64 now] W fun e W' => e = .returned (.bool false) ∧ Below W.heap.size W W' := by
  obtain ⟨v1, v2, v3, rfl, o1, o2, o3⟩ := ha.ex
  obtain ⟨A1, c1, rfl, -⟩ := own_rd o1
  obtain ⟨A2, c2, rfl, -⟩ := own_rd o2
  obtain ⟨A3, c3, rfl, -⟩ := own_rd o3
  have b1 := below_new W (.cells #[.string q.nm, .int .u16 q.ty, .int .u16 q.cl] 25)
  have b2 := below_alloc b1 (.cells #[.int .u16 rc, .bool aa, .slice A1 l1.length c1, .slice A2 l2.length c2, .slice A3 l3.length c3] 28)
  clear o1 o2 o3 ha
  unfold Qn.val
  go_enter Try.func10, Try.ntmps10
  go_wp2
  go_ret
  exact ⟨rfl, b2⟩
theorem get_none (W : World) (q : Qn) (now : Int) : Calls Try.prog 11 #[.pointer none, q.val, .int .i64 now] W fun e W' => e = .returned (.tuple #[zeroAns, .bool false]) ∧ Below W.heap.size W W' := by
  have b1 := below_new W (.cells #[.string q.nm, .int .u16 q.ty, .int .u16 q.cl] 25)
  have b2 := below_alloc b1 (.cells #[.int .u16 0, .bool false, .slice none 0 0, .slice none 0 0, .slice none 0 0] 28)
  have hB := Blk.new (W.alloc (.cells #[.string q.nm, .int .u16 q.ty, .int .u16 q.cl] 25)) 28 #[.int .u16 0, .bool false, .slice none 0 0, .slice none 0 0, .slice none 0 0]
  rw [World.size_alloc] at hB
  unfold Qn.val
  go_enter Try.func11, Try.ntmps11
  go_wp2_with (first | (refine wpList_put rfl 28 (.tmp 6) (.tmp 13) rfl (W.heap.size + 1) #[.int .u16 0, .bool false, .slice none 0 0, .slice none 0 0, .slice none 0 0] rfl rfl 28 _ hB sizeAns rfl rfl ?_))
  refine bodyPost_ret (results_rec rfl _ _ _ _ _ rfl (hB.row #[.int .u16 0, .bool false, .slice none 0 0, .slice none 0 0, .slice none 0 0]) Try.underlying28 rfl sizeAns) rfl ?_
  exact ⟨rfl, b2.grown (grown_row _ _ _) (by have := b2.size; omega) (fun k hk => by cases hk; omega)⟩
end Go.Proofs.Ytioehogncgloiaa
