/- The document's Keys; own, marked, keys of the law: contracts. -/
import Derived.Test.YtioehogncgloiaaPL5
namespace Go.Proofs.Ytioehogncgloiaa
open Go.RowKit Go.HL Go.Maps
set_option linter.unusedVariables false
set_option linter.unusedSimpArgs false
set_option maxRecDepth 8000 in
set_option maxHeartbeats 2000000 in
theorem rkeys_ (W : World) (M : Nat) (v : Value) (room : Int) (row : List Re) (h : RefW W M v room row) (hlen : row.length ≤ 5000) :
    Calls Try.prog 25 #[ptr (some M)] W fun en W' => ∃ u, en = .returned u ∧ W'.ownsRow W.heap.size 25 3 u row.length (qns (row.map Re.key)) ∧ Below W.heap.size W W' := by
  obtain ⟨A, c, rfl, hr⟩ := h.rd
  obtain ⟨n, hn⟩ : ∃ n, row.length = n := ⟨_, rfl⟩
  rw [hn] at hr h
  have c0 : W.cell? ⟨M, 0, none⟩ = some (.slice A n c) := h.hd.cell 0 _ rfl
  have HD := Lib.hid h.hd
  have HN := Lib.hid hn
  rw [hn]
  clear h hn
  unfold ptr
  simp only [Option.map]
  go_enter Try.func25, Try.ntmps25
  go_wp2
  go_loopw [3, 4] (fun u i wr => ∃ k : Nat, k ≤ n ∧ i = .int .i64 k ∧ wr.ownsRow W.heap.size 25 3 u k (qns ((row.take k).map Re.key)) ∧ Below W.heap.size W wr) (fun _ i _ => n - (intOf i).toNat)
  case atStart => exact ⟨0, Nat.zero_le _, rfl, World.ownsRow_nil _ _ _ _, Below.refl _ _⟩
  case round =>
    clear c0
    obtain ⟨k, hk, rfl, ho, hb⟩ := hrel
    have hB := HD.out.below hb
    have c0 : wr.cell? ⟨M, 0, none⟩ = some (.slice A n c) := hB.cell 0 _ rfl
    by_cases hlt : k < n
    · obtain ⟨e, hek⟩ : ∃ e, row[k]? = some e := ⟨_, List.getElem?_eq_getElem (show k < row.length by have := HN.out; omega)⟩
      cases A with
      | none => have := (hr.nil_ rfl).1; omega
      | some ad =>
      have hcs := Rd.ent (hr.below hb) k e hek
      have ck : Cells wr (ad.add (k * 10)) [.string e.key.nm, .int .u16 e.key.ty, .int .u16 e.key.cl] := hcs.take 3
      have hki : (k : Int) < (n : Int) := by omega
      have hz := hb.size
      have hk5 : k ≤ 5000 := by have := HN.out; omega
      clear hcs hB
      go_wp2_with (first | (refine wpList_getAt rfl 25 (.tmp 21) rfl (ad.add (k * 10)) rfl [.string e.key.nm, .int .u16 e.key.ty, .int .u16 e.key.cl] _ ck Try.underlying25 rfl sizeQue ?_) | (at_builtin; refine wpList_app (w0 := W) _ W.heap.size rfl (.tmp 14) (.tmp 23) 64 64 25 qZero 3 24 rfl Try.underlying64 infoQue rfl (by omega) (by omega) u3 k _ rfl (.own (own_below ho (below_new _ _))) _ 1 e.key.cells rfl (.slice (Rd.litN _ _ _ 3 _ rfl rfl) (qn_one _)) (below_alloc hb _) (by rw [World.size_alloc]; omega) (by omega) ?_; intro v1 w2 _ ho2 hb2 hg2; replace ho2 := ho2 (.inl (by omega))))
      go_roundw
      case rel =>
        refine ⟨k + 1, by omega, by go_num, ?_, hb2⟩
        rw [take_snoc hek, List.map_append, List.map_cons, List.map_nil, qns_snoc]
        exact ho2
      case measure => simp [intOf]; omega
    · obtain rfl : k = n := by omega
      rw [List.take_of_length_le (by have := HN.out; omega)] at ho
      go_wp2
      go_ret
      exact ⟨_, rfl, ho, hb⟩
def r77 : Rc := ⟨⟨#[]⟩, 0, 0, 77, ⟨#[]⟩, ⟨#[]⟩, ⟨#[]⟩, 0, 0, 0, 0, 0⟩
/-- Records of one's own, with a mark behind their end. -/
structure Owned (W : World) (B : Nat) (u : Value) (l : List Rc) (b : Nat) : Prop where
  ex : ∃ c, u = .slice (some ⟨b, 0, none⟩) l.length c ∧ W.ownsRow B 46 12 (.slice (some ⟨b, 0, none⟩) (l.length + 1) c) (l.length + 1) (rcs (l ++ [r77])) ∧ l.length + 1 ≤ c
theorem own_cap {w : World} {base n size g c : Nat} {e : TypeId} {A : Option Addr} {cs : List Value} (h : w.ownsRow base e size (.slice A n c) n cs) : n ≤ c := by
  obtain ⟨A', c', e1, hr⟩ := own_rd h
  cases e1
  exact hr.le
set_option maxHeartbeats 2000000 in
theorem own_ (w : World) (A : Option Addr) (n c : Nat) (l : List Rc) (hr : Rd w 12 A n c (rcs l)) (hn : n ≤ 5000) :
    Calls Try.prog 19 #[.slice A n c] w fun e w' => ∃ u b, e = .returned u ∧ Owned w' w.heap.size u l b ∧ Below w.heap.size w w' := by
  have hl := Rd.recs hr
  go_enter Try.func19, Try.ntmps19
  go_wp2_with (first | (at_builtin; refine wpList_app (w0 := w) _ w.heap.size rfl (.tmp 4) (.tmp 5) 26 26 46 Rc.zero.val 12 96 rfl Try.underlying26 infoRec rfl (by omega) (by omega) (.slice none 0 0) 0 [] rfl (.own (World.ownsRow_nil _ _ _ _)) _ n (rcs l) rfl (.slice hr (rcs_one _)) (Below.refl _ _) (Nat.le_refl _) (by omega) ?_; intro v1 w2 _ ho2 hb2 hg2; replace ho2 := ho2 (.inr (World.ownsRow_nil _ _ _ _)); rw [Nat.zero_add, List.nil_append] at ho2; have hz2 := hb2.size) | (at_builtin; refine wpList_app (w0 := w) _ w.heap.size rfl (.tmp 7) (.tmp 9) 26 26 46 Rc.zero.val 12 96 rfl Try.underlying26 infoRec rfl (by omega) (by omega) v1 n _ rfl (.own (own_below ho2 (below_new _ _))) _ 1 r77.cells rfl (.slice (Rd.litN _ _ _ 12 _ rfl rfl) (rc_one _)) (below_alloc hb2 _) (by rw [World.size_alloc]; omega) (by omega) ?_; intro v3 w4 _ ho4 hb4 hg4; replace ho4 := ho4 (.inl (by omega)); obtain ⟨b, c4, rfl, -⟩ := own_some ho4 (by omega); have hc4 := own_cap (g := 0) ho4; have hi4 : (n : Int) ≤ (c4 : Int) := by omega))
  go_ret
  refine ⟨_, b, rfl, ⟨c4, by rw [hl]; rfl, ?_, by rw [hl]; exact hc4⟩, hb4⟩
  rw [rcs_snoc, hl]
  exact ho4
theorem Owned.blk {W : World} {B : Nat} {u : Value} {l : List Rc} {b : Nat} (h : Owned W B u l b) : B ≤ b ∧ b < W.heap.size ∧ ∃ cs, Blk W b 46 cs ∧ (l.length + 1) * 12 ≤ cs.length := by
  obtain ⟨c, _, ho, hc⟩ := h.ex
  rcases ho.2 with ⟨h1, _⟩ | ⟨g, cap, cur, h1, h2, h3, h4, h5, h6, h7⟩
  · cases h1
  · cases h1
    refine ⟨h2, (Array.getElem?_eq_some_iff.1 h3).1, cur.toList, h3, ?_⟩
    have h8 := h6
    simp only [Array.size] at h8
    rw [h8]
    exact Nat.mul_le_mul_right _ h4
theorem Owned.fr {S : Nat → Prop} {W W' : World} {B : Nat} {u : Value} {l : List Rc} {b : Nat} (h : Owned W B u l b) (k : Fr S W W') (hs : ¬ S b) : Owned W' B u l b := by
  obtain ⟨c, h1, ho, hc⟩ := h.ex
  exact ⟨c, h1, own_fr ho k (fun i hi => by cases hi; exact hs), hc⟩
theorem Owned.below {W W' : World} {B : Nat} {u : Value} {l : List Rc} {b : Nat} (h : Owned W B u l b) (k : Below W.heap.size W W') : Owned W' B u l b := h.fr (Fr.of_below (S := fun _ => False) k) (fun h => h)
/-- .. is a row that reads. -/
theorem Owned.rs {W : World} {B : Nat} {u : Value} {l : List Rc} {b : Nat} (h : Owned W B u l b) (hl : l.length ≤ 5000) : RsW W u l := by
  obtain ⟨c, rfl, ho, hc⟩ := h.ex
  obtain ⟨A, c', e1, hr⟩ := own_rd ho
  cases e1
  have := hr.pre l.length (by omega)
  rw [rcs_append, List.take_left' (by rw [rcs_len])] at this
  exact ⟨_, _, _, rfl, this, hl⟩
theorem Owned.last {W : World} {B : Nat} {u : Value} {l : List Rc} {b : Nat} (h : Owned W B u l b) : Cells W ((⟨b, 0, none⟩ : Addr).add (l.length * 12)) r77.cells := by
  obtain ⟨c, _, ho, hc⟩ := h.ex
  obtain ⟨A, c', e1, hr⟩ := own_rd ho
  cases e1
  exact Rd.rec hr l.length r77 (by simp)
set_option maxRecDepth 8000 in
set_option maxHeartbeats 2000000 in
theorem marked_ (W : World) (B : Nat) (u : Value) (l : List Rc) (b : Nat) (h : Owned W B u l b) (hl : l.length ≤ 5000) : Calls Try.prog 21 #[u] W (Tells W (.bool true)) := by
  have hcs := h.last
  obtain ⟨c, rfl, -, hc⟩ := h.ex
  obtain ⟨n, hn⟩ : ∃ n, l.length = n := ⟨_, rfl⟩
  rw [hn, add_plain] at hcs
  rw [hn] at hc hl ⊢
  have hi : (n : Int) + 1 ≤ (c : Int) := by omega
  have hN : (Op.equalIn 9998 42 (.agg #[.int .u32 0, .int .u32 0, .int .u32 0, .int .u32 0, .int .u32 0]) (.agg #[.int .u32 0, .int .u32 0, .int .u32 0, .int .u32 0, .int .u32 0])).run Try.prog W = _ := eqArr 9996 0 0 0 0 0 0 0 0 0 0 W
  clear h hn
  go_enter Try.func21, Try.ntmps21
  go_wp2_with (first | (refine wpList_getAt rfl 46 (.tmp 10) rfl ⟨b, n * 12, none⟩ rfl [.string ⟨#[]⟩, .int .u16 0, .int .u16 0, .int .u32 77, .string ⟨#[]⟩, .string ⟨#[]⟩, .string ⟨#[]⟩, .int .u32 0, .int .u32 0, .int .u32 0, .int .u32 0, .int .u32 0] _ hcs Try.underlying46 rfl sizeRec ?_))
  go_ret
  exact ⟨rfl, Below.refl _ _⟩
set_option maxHeartbeats 2000000 in
theorem keysL_ (w : World) (l : List Qn) (A : Option Addr) (n c : Nat) (hr : Rd w 3 A n c (qns l)) (B : Option Addr) (m d : Nat) (hs : Rd w 3 B m d (qns l)) (hn5 : n ≤ 5000) :
    Calls Try.prog 23 #[.slice A n c, .slice B m d] w (Tells w (.bool true)) := by
  have hla := Rd.ques hr
  have hlb := Rd.ques hs
  obtain rfl : n = m := hla.symm.trans hlb
  clear hlb
  go_enter Try.func23, Try.ntmps23
  go_wp2
  go_loopw [5] (fun i wr => ∃ k : Nat, k ≤ n ∧ i = .int .i64 k ∧ Below w.heap.size w wr) (fun i _ => n - (intOf i).toNat)
  case atStart => exact ⟨0, Nat.zero_le _, rfl, Below.refl _ _⟩
  case round =>
    obtain ⟨k, hk, rfl, hb⟩ := hrel
    by_cases hlt : k < n
    · obtain ⟨x, hx⟩ : ∃ x, l[k]? = some x := ⟨_, List.getElem?_eq_getElem (show k < l.length by omega)⟩
      cases A with
      | none => have := (hr.nil_ rfl).1; omega
      | some aa =>
      cases B with
      | none => have := (hs.nil_ rfl).1; omega
      | some ab =>
      have c1 := Rd.que (hr.below hb) k x hx
      have c2 := Rd.que (hs.below hb) k x hx
      have hki : (k : Int) < (n : Int) := by omega
      go_wp2_with (fail)
      refine wp_region_quiet_lit (by kernel_rfl) (by kernel_rfl) ?_
      repeat go_big_quiet_step (fail)
      go_big_quiet_want
      refine quiet_getAt 25 (.tmp 19) rfl (aa.add (k * 3)) rfl x.cells _ c1 Try.underlying25 rfl sizeQue ?_
      go_simp
      go_big_quiet_on
      repeat go_big_quiet_step (fail)
      go_big_quiet_want
      refine quiet_getAt 25 (.tmp 23) rfl (ab.add (k * 3)) rfl x.cells _ c2 Try.underlying25 rfl sizeQue ?_
      go_simp
      go_big_quiet_on
      go_big_quiet_want
      refine quiet_bin .neq 25 25 (.tmp 20) (.tmp 24) rfl x.val x.val (.bool false) rfl rfl (fun W => by unfold Qn.val; exact run_eqGuard_agg W .neq 25 (.tmp 20) (.tmp 24) _ _ Try.eqGuardType25) (fun W => by rw [neqQ, (Qn.eqB_iff _ _).2 rfl]; rfl) ?_
      go_simp
      go_big_quiet_on
      refine wpQuiet_nil ?_
      rintro _ ⟨nq, rfl⟩
      go_wp2
      go_roundw
      case rel => exact ⟨k + 1, by omega, by go_num, below_drewN hb nq⟩
      case measure => simp [intOf]; omega
    · obtain rfl : k = n := by omega
      go_wp2
      go_ret
      exact ⟨rfl, hb⟩
end Go.Proofs.Ytioehogncgloiaa
