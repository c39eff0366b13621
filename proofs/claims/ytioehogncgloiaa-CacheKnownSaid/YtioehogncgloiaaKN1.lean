/- Examples: asked, answered: contracts; a Put of rows of one's own. -/
import Derived.Test.YtioehogncgloiaaPL6
namespace Go.Proofs.Ytioehogncgloiaa
open Go.RowKit Go.HL Go.Maps
set_option linter.unusedVariables false
set_option linter.unusedSimpArgs false
/-- A question about a letter. -/
def qL (b : UInt8) : Qn := ⟨⟨#[1, b, 0]⟩, 1, 1⟩
theorem qL_ok (b : UInt8) : (qL b).ok := ⟨by show (0 : Int) ≤ 1 ∧ (1 : Int) < 65536; omega, by show (0 : Int) ≤ 1 ∧ (1 : Int) < 65536; omega, by show (3 : Nat) ≤ _; simp only [maxLen]; omega⟩
theorem asked_ (w : World) (b : UInt8) : Calls Try.prog 26 #[.string ⟨#[b]⟩] w fun e w' => e = .returned (qL b).val ∧ Below w.heap.size w w' := by
  have hB := Blk.new w 25 #[.string ⟨#[]⟩, .int .u16 0, .int .u16 0]
  have hb := below_new w (.cells #[.string ⟨#[]⟩, .int .u16 0, .int .u16 0] 25)
  obtain ⟨W0, hW0⟩ : ∃ x, w.alloc (.cells #[.string ⟨#[]⟩, .int .u16 0, .int .u16 0] 25) = x := ⟨_, rfl⟩
  obtain ⟨g, hg⟩ : ∃ x, w.heap.size = x := ⟨_, rfl⟩
  rw [hW0] at hB hb
  rw [hg] at hB hb ⊢
  have hz : g + 1 ≤ W0.heap.size := by rw [← hW0, World.size_alloc, hg]; exact Nat.le_refl _
  go_enter Try.func26, Try.ntmps26
  go_wp2_with (first | (refine wpList_put rfl 25 (.tmp 2) (.tmp 6) rfl g #[.string ⟨#[1, b, 0]⟩, .int .u16 1, .int .u16 1] rfl rfl 25 _ hB sizeQue' rfl rfl ?_))
  refine bodyPost_ret (results_rec1 rfl _ _ _ _ _ rfl (hB.row #[.string ⟨#[1, b, 0]⟩, .int .u16 1, .int .u16 1]) Try.underlying25 rfl sizeQue') rfl ?_
  exact ⟨rfl, hb.grown (grown_row W0 g _) (by omega) (fun k hk => by cases hk; exact Nat.le_refl _)⟩
/-- A record of a TTL. -/
def rT (t : Int) : Rc := ⟨⟨#[1, 97, 0]⟩, 1, 1, t, ⟨#[97, 98, 99, 100]⟩, ⟨#[]⟩, ⟨#[]⟩, 0, 0, 0, 0, 0⟩
/-- An answer with rows of one's own. -/
structure AnsO (W : World) (B : Nat) (rc : Int) (aa : Bool) (l1 l2 l3 : List Rc) (u : Value) : Prop where
  ex : ∃ v1 v2 v3, u = .agg #[.int .u16 rc, .bool aa, v1, v2, v3] ∧ W.ownsRow B 46 12 v1 l1.length (rcs l1) ∧ W.ownsRow B 46 12 v2 l2.length (rcs l2) ∧ W.ownsRow B 46 12 v3 l3.length (rcs l3)
/-- While a record is appended, and the row laid into the answer. -/
structure KI (B g k : Nat) (v5 : Value) (l5 lN : List Rc) (W5 : World) (da ds : Bool) (W : World) : Prop where
  f : Fr (fun i => i = g ∨ v5.ownBlock = some i) W5 W
  a : da = false → W.ownsRow B 46 12 v5 l5.length (rcs l5)
  b : ds = false → Blk W g 28 [.int .u16 0, .bool false, v5, .slice none 0 0, .slice none 0 0]
  c : ds = true → ∃ u, Blk W g 28 [.int .u16 0, .bool false, u, .slice none 0 0, .slice none 0 0] ∧ W.ownsRow B 46 12 u lN.length (rcs lN)
  e : ds = true → da = true
theorem KI.below {B g k : Nat} {v5 : Value} {l5 lN : List Rc} {W5 W W' : World} {da ds : Bool} (h : KI B g k v5 l5 lN W5 da ds W) (b : Below W.heap.size W W') : KI B g k v5 l5 lN W5 da ds W' :=
  ⟨h.f.trans (Fr.of_below b), fun x => own_below (h.a x) b, fun x => (h.b x).below b, fun x => by obtain ⟨u, h1, h2⟩ := h.c x; exact ⟨u, h1.below b, own_below h2 b⟩, h.e⟩
def kaA (b5 : Nat) (r : Rc) (u : Value) (W : World) : Prop := ∃ gg, u = .slice (some ⟨gg, 0, none⟩) 1 1 ∧ b5 ≤ gg ∧ Blk W gg 46 r.cells
def kaB (B : Nat) (lN : List Rc) (u : Value) (W : World) : Prop := W.ownsRow B 46 12 u lN.length (rcs lN)
theorem kaA.fr {S : Nat → Prop} {b5 : Nat} {r : Rc} {u : Value} {W W' : World} (h : kaA b5 r u W) (k : Fr S W W') (hs : ∀ i, S i → i < b5) : kaA b5 r u W' := by
  obtain ⟨gg, h1, h2, h3⟩ := h
  exact ⟨gg, h1, h2, h3.fr k (fun x => by have := hs _ x; omega)⟩
def kaI (B g k : Nat) (v5 : Value) (l5 lN : List Rc) (W5 : World) : List Bool → World → Prop
  | [_, da, ds], W => KI B g k v5 l5 lN W5 da ds W
  | _, _ => True
def kaG (b5 B : Nat) (r : Rc) (lN : List Rc) : Nat → Value → World → Prop
  | 8, u, W => kaA b5 r u W
  | 9, u, W => kaB B lN u W
  | _, _, _ => True
theorem kaG_keep {b5 B : Nat} {r : Rc} {lN : List Rc} {j : Nat} {u : Value} {W W' : World} (h : kaG b5 B r lN j u W) (h1 : kaA b5 r u W → kaA b5 r u W') (h2 : j = 9 → kaB B lN u W → kaB B lN u W') : kaG b5 B r lN j u W' := by
  unfold kaG at *
  split at h
  · exact h1 h
  · exact h2 rfl h
  · trivial
def kac (g : Nat) (v5 : Value) (ad : Addr) (n c k : Nat) (x : Int) : List (Option Value) := [some (.pointer (some ⟨g, 2, none⟩)), some v5, some (.slice (some ad) n c), some (.int .i64 (k : Int)), some (.pointer (some (ad.add k))), some (.int .u32 x), some (.agg #[.string ⟨#[97, 98, 99, 100]⟩, .string ⟨#[]⟩, .string ⟨#[]⟩, .int .u32 0, .int .u32 0, .int .u32 0, .int .u32 0, .int .u32 0]), some (.agg #[.string ⟨#[1, 97, 0]⟩, .int .u16 1, .int .u16 1, .int .u32 x, .string ⟨#[97, 98, 99, 100]⟩, .string ⟨#[]⟩, .string ⟨#[]⟩, .int .u32 0, .int .u32 0, .int .u32 0, .int .u32 0, .int .u32 0]), none, none, some (.pointer (some ⟨g, 2, none⟩)), some undef]
set_option maxRecDepth 8000 in
set_option maxHeartbeats 8000000 in
theorem answered_ (w : World) (A : Option Addr) (n c : Nat) (l : List Int) (hr : Rd w 1 A n c (l.map (Value.int .u32))) (hn : n ≤ 30) :
    Calls Try.prog 27 #[.slice A n c] w fun e w' => ∃ u, e = .returned u ∧ AnsO w' w.heap.size 0 false (l.map rT) [] [] u ∧ Below w.heap.size w w' := by
  have hl : l.length = n := by have := hr.len; rw [List.length_map] at this; omega
  have hB1 := (Blk.new w 28 #[.int .u16 0, .bool false, .slice none 0 0, .slice none 0 0, .slice none 0 0]).alloc (.cells #[.int .u16 0, .bool false, .slice none 0 0, .slice none 0 0, .slice none 0 0] 28 )
  have hB2 := Blk.new (w.alloc (.cells #[.int .u16 0, .bool false, .slice none 0 0, .slice none 0 0, .slice none 0 0] 28 )) 28 #[.int .u16 0, .bool false, .slice none 0 0, .slice none 0 0, .slice none 0 0]
  have b1 := below_new w (.cells #[.int .u16 0, .bool false, .slice none 0 0, .slice none 0 0, .slice none 0 0] 28 )
  have b2 := below_alloc b1 (.cells #[.int .u16 0, .bool false, .slice none 0 0, .slice none 0 0, .slice none 0 0] 28 )
  have hz : ((w.alloc (.cells #[.int .u16 0, .bool false, .slice none 0 0, .slice none 0 0, .slice none 0 0] 28 )).alloc (.cells #[.int .u16 0, .bool false, .slice none 0 0, .slice none 0 0, .slice none 0 0] 28 )).heap.size = w.heap.size + 2 := by rw [World.size_alloc, World.size_alloc]
  rw [World.size_alloc] at hB2
  obtain ⟨W0, hW0⟩ : ∃ x, (w.alloc (.cells #[.int .u16 0, .bool false, .slice none 0 0, .slice none 0 0, .slice none 0 0] 28 )).alloc (.cells #[.int .u16 0, .bool false, .slice none 0 0, .slice none 0 0, .slice none 0 0] 28 ) = x := ⟨_, rfl⟩
  obtain ⟨g, hg⟩ : ∃ x, w.heap.size = x := ⟨_, rfl⟩
  rw [hW0] at hB1 hB2 b2 hz
  rw [hg] at hB1 hB2 hz b2 ⊢
  have HB1 := Lib.hid hB1
  have HB2 := Lib.hid b2
  have hr0 := hr.below (by rw [hg]; exact b2)
  have hrw := hr
  have HW0 := Lib.hid (And.intro hW0 hg)
  clear hB1 b1 b2 hr hW0 hg
  go_enter Try.func27, Try.ntmps27
  go_wp2
  rw [HW0.out.1, HW0.out.2]
  go_loopw [4] (fun i wr => ∃ (k : Nat) (v : Value), k ≤ n ∧ i = .int .i64 k ∧ Blk wr (g + 1) 28 [.int .u16 0, .bool false, v, .slice none 0 0, .slice none 0 0] ∧ wr.ownsRow (g + 2) 46 12 v ((l.take k).map rT).length (rcs ((l.take k).map rT)) ∧ Fr (fun i => i = g + 1) W0 wr) (fun i _ => n - (intOf i).toNat)
  case atStart => exact ⟨0, _, Nat.zero_le _, rfl, hB2, World.ownsRow_nil _ _ _ _, Fr.refl _ _⟩
  case round =>
    clear hB2
    obtain ⟨k, v5, hk, rfl, hB, ho, hf⟩ := hrel
    by_cases hlt : k < n
    · obtain ⟨x, hx⟩ : ∃ x, l[k]? = some x := ⟨_, List.getElem?_eq_getElem (show k < l.length by omega)⟩
      cases A with
      | none => have := (hr0.nil_ rfl).1; omega
      | some ad =>
      have hki : (k : Int) < (n : Int) := by omega
      have hadl : ad.block < g := by
        have h1 := hrw.cells ad rfl 0 ((l.map (Value.int .u32)).getD 0 undef) (by rw [List.getD_eq_getElem?_getD, List.getElem?_eq_getElem (by rw [List.length_map]; omega)]; rfl)
        rw [Addr.add_zero'] at h1
        have := World.block_lt_of_cell? _ _ h1
        have := HW0.out.2
        omega
      have hadne : (ad.add k).block ≠ g + 1 := by
        have e : (ad.add k).block = ad.block := by unfold Addr.add; split <;> rfl
        omega
      have hlN : (l.take (k + 1)).map rT = (l.take k).map rT ++ [rT x] := map_take rT hx
      obtain ⟨l5, hl5⟩ : ∃ y, (l.take k).map rT = y := ⟨_, rfl⟩
      obtain ⟨lN, hlNe⟩ : ∃ y, Hid (y = l5 ++ [rT x]) := ⟨_, Lib.hid rfl⟩
      have hl5n : l5.length ≤ 30 := by rw [← hl5, List.length_map, List.length_take]; omega
      rw [hl5] at ho hlN
      have HLN := Lib.hid hlN
      have hv5ge : ∀ i, v5.ownBlock = some i → g + 2 ≤ i := fun i hi => own_base ho i hi
      have hv5lt : ∀ i, v5.ownBlock = some i → i < wr.heap.size := fun i hi => by obtain ⟨_, _, hx⟩ := own_blk ho hi; exact (Array.getElem?_eq_some_iff.1 hx).1
      have hv5ne : v5.ownBlock ≠ some (g + 1) := own_ne_blk ho hB (by decide)
      have hzw : g + 2 ≤ wr.heap.size := by have := hf.size; omega
      obtain ⟨b5, hb5⟩ : ∃ y, wr.heap.size = y := ⟨_, rfl⟩
      rw [hb5] at hv5lt hzw
      have hgS : ∀ i, (i = g + 1 ∨ v5.ownBlock = some i) → i < b5 := fun i hi => by rcases hi with hi | hi; omega; exact hv5lt i hi
      have hxr : ∀ W da ds, KI (g + 2) (g + 1) k v5 l5 lN wr da ds W → W.cell? (ad.add k) = some (.int .u32 x) := fun W da ds hI => by
        have h0 := hr0.cells ad rfl k (.int .u32 x) (by rw [List.getElem?_map, hx]; rfl)
        have h1 : wr.cell? (ad.add k) = some (.int .u32 x) := cell_fr hf h0 (fun e => by
          have e' : (ad.add k).block = g + 1 := e
          exact hadne e')
        exact cell_fr hI.f h1 (fun e => by
          rcases e with e | e
          · exact hadne e
          · have := hv5ge _ e
            have h2 : (ad.add k).block = ad.block := by unfold Addr.add; split <;> rfl
            omega)
      clear hl5 hlN hx
      go_upto_region 5 with fail
      refine wp_region_loud (by kernel_rfl) (by kernel_rfl) ?frA ?hfrA [8, 9, 11] (VV (kac (g + 1) v5 ad n c k x) (kaG b5 (g + 2) (rT x) lN)) (kaI (g + 2) (g + 1) k v5 l5 lN wr) ?h0A ?hobA ?hqA (by decide)
      case hfrA =>
        intro xs
        simp only [fillL]
        go_simp
        exact rfl
      case h0A => exact ⟨(Fr.refl _ wr).drew, fun _ => own_below ho ⟨rfl, rfl, rfl, Nat.le_refl _, fun _ _ => rfl⟩, fun _ => hB.below ⟨rfl, rfl, rfl, Nat.le_refl _, fun _ _ => rfl⟩, fun h => (by cases h), fun h => (by cases h)⟩
      case hobA =>
        refine ⟨?_, ?_, ?_, ?_, ?_, ?_, ?_, ?_, ?_, ?_, ?_, ?_, trivial⟩
        · -- 0
          intro xs d W hd hn hI hV
          replace hI : KI (g + 2) (g + 1) k v5 l5 lN wr (d 9) (d 11) W := hI
          rw [if_neg (by decide)]
          clear hV hd hn hI
          go_simp
          exact rfl
        · -- 1
          intro xs d W hd hn hI hV
          replace hI : KI (g + 2) (g + 1) k v5 l5 lN wr (d 9) (d 11) W := hI
          have x0 : xs 0 = .pointer (some ⟨g + 1, 2, none⟩) := hV 0 (hd 0 (by decide))
          have hda : d 9 = false := hn 9 _ rfl (by decide)
          have hds : d 11 = false := by cases h15 : d 11; rfl; have := hI.e h15; rw [hda] at this; cases this
          have c0 : W.cell? ⟨g + 1, 2, none⟩ = some v5 := (hI.b hds).cell 2 _ rfl
          obtain ⟨A5, k5, rfl, -⟩ := own_rd (hI.a hda)
          rw [if_neg (by decide)]
          clear hV hd hn hI
          go_simp
          exact rfl
        · -- 2
          intro xs d W hd hn hI hV
          replace hI : KI (g + 2) (g + 1) k v5 l5 lN wr (d 9) (d 11) W := hI
          rw [if_neg (by decide)]
          clear hV hd hn hI
          go_simp
          exact rfl
        · -- 3
          intro xs d W hd hn hI hV
          replace hI : KI (g + 2) (g + 1) k v5 l5 lN wr (d 9) (d 11) W := hI
          rw [if_neg (by decide)]
          clear hV hd hn hI
          go_simp
          exact rfl
        · -- 4
          intro xs d W hd hn hI hV
          replace hI : KI (g + 2) (g + 1) k v5 l5 lN wr (d 9) (d 11) W := hI
          have x2 : xs 2 = .slice (some ad) n c := hV 2 (hd 2 (by decide))
          have x3 : xs 3 = .int .i64 (k : Int) := hV 3 (hd 3 (by decide))
          rw [if_neg (by decide)]
          clear hV hd hn hI
          go_simp
          exact rfl
        · -- 5
          intro xs d W hd hn hI hV
          replace hI : KI (g + 2) (g + 1) k v5 l5 lN wr (d 9) (d 11) W := hI
          have x4 : xs 4 = .pointer (some (ad.add k)) := hV 4 (hd 4 (by decide))
          have c0 := hxr _ _ _ hI
          rw [if_neg (by decide)]
          clear hV hd hn hI
          go_simp
          exact rfl
        · -- 6
          intro xs d W hd hn hI hV
          replace hI : KI (g + 2) (g + 1) k v5 l5 lN wr (d 9) (d 11) W := hI
          rw [if_neg (by decide)]
          clear hV hd hn hI
          go_simp
          exact rfl
        · -- 7
          intro xs d W hd hn hI hV
          replace hI : KI (g + 2) (g + 1) k v5 l5 lN wr (d 9) (d 11) W := hI
          have x5 : xs 5 = .int .u32 x := hV 5 (hd 5 (by decide))
          have x6 : xs 6 = .agg #[.string ⟨#[97, 98, 99, 100]⟩, .string ⟨#[]⟩, .string ⟨#[]⟩, .int .u32 0, .int .u32 0, .int .u32 0, .int .u32 0, .int .u32 0] := hV 6 (hd 6 (by decide))
          rw [if_neg (by decide)]
          clear hV hd hn hI
          go_simp
          exact rfl
        · -- 8
          intro xs d W hd hn hI hV
          replace hI : KI (g + 2) (g + 1) k v5 l5 lN wr (d 9) (d 11) W := hI
          have x7 : xs 7 = .agg #[.string ⟨#[1, 97, 0]⟩, .int .u16 1, .int .u16 1, .int .u32 x, .string ⟨#[97, 98, 99, 100]⟩, .string ⟨#[]⟩, .string ⟨#[]⟩, .int .u32 0, .int .u32 0, .int .u32 0, .int .u32 0, .int .u32 0] := hV 7 (hd 7 (by decide))
          rw [if_pos (by decide)]
          intro hdn
          have hV' := hV
          clear hV hd hn
          have hb := below_new W (.cells #[.string ⟨#[1, 97, 0]⟩, .int .u16 1, .int .u16 1, .int .u32 x, .string ⟨#[97, 98, 99, 100]⟩, .string ⟨#[]⟩, .string ⟨#[]⟩, .int .u32 0, .int .u32 0, .int .u32 0, .int .u32 0, .int .u32 0] 46 )
          have hBn := Blk.new W 46 #[.string ⟨#[1, 97, 0]⟩, .int .u16 1, .int .u16 1, .int .u32 x, .string ⟨#[97, 98, 99, 100]⟩, .string ⟨#[]⟩, .string ⟨#[]⟩, .int .u32 0, .int .u32 0, .int .u32 0, .int .u32 0, .int .u32 0]
          have hbs : b5 ≤ W.heap.size := by rw [← hb5]; exact hI.f.size
          go_simp
          refine ⟨hI.below hb, ⟨_, rfl, hbs, hBn⟩, fun j hj => VV.any2 (hV' j hj) (fun h => kaG_keep h (fun h => h.fr (Fr.of_below (S := fun _ => False) hb) (fun _ h => h.elim)) (fun _ h => own_below h hb))⟩
        · -- 9
          intro xs d W hd hn hI hV
          replace hI : KI (g + 2) (g + 1) k v5 l5 lN wr (d 9) (d 11) W := hI
          have x1 : xs 1 = v5 := hV 1 (hd 1 (by decide))
          have g8 : kaA b5 (rT x) (xs 8) W := hV 8 (hd 8 (by decide))
          rw [if_pos (by decide)]
          intro hdn
          have hV' := hV
          have hds : d 11 = false := by cases h15 : d 11; rfl; have := hI.e h15; rw [hdn] at this; cases this
          clear hV hd hn
          obtain ⟨gg, e11, hg5, hBg⟩ := g8
          have hRo := hI.a hdn
          have hbs : b5 ≤ W.heap.size := by rw [← hb5]; exact hI.f.size
          refine ⟨gives_app W W (g + 2) (.tmp 13) (.tmp 20) 26 26 46 Rc.zero.val 12 96 rfl Try.underlying26 infoRec rfl (by omega) (by omega) v5 l5.length (rcs l5) x1 (.own hRo) (.slice (some ⟨gg, 0, none⟩) 1 1) 1 (rT x).cells e11 (.slice ⟨rfl, fun h => (by cases h), Nat.le_refl _, fun ad had => by cases had; exact blk_cells hBg⟩ (rc_one _)) (Below.refl _ _) (by omega) (by omega) ?_, rfl⟩
          intro u W' _ ho hb hgr
          replace ho := ho (.inl (by omega))
          have hf2 : Fr (fun i => i = g + 1 ∨ v5.ownBlock = some i) W W' := (Fr.refl _ W).grown hgr (fun i hi => .inl (.inr hi))
          refine ⟨⟨hI.f.trans' hf2, fun h => (by rw [show upd d 9 true 9 = true from upd_self _ _ _] at h; cases h), fun _ => (hI.b hds).grown hgr (fun e => hv5ne e.symm), fun h => (by rw [show upd d 9 true 11 = d 11 from upd_ne _ _ (by decide), hds] at h; cases h), fun _ => upd_self _ _ _⟩, ?_, fun j hj => VV.any2 (hV' j hj) (fun h => kaG_keep h (fun h => h.fr hf2 hgS) (fun e => by subst e; rw [hdn] at hj; cases hj))⟩
          show W'.ownsRow _ _ _ u lN.length (rcs lN)
          rw [hlNe.out, List.length_append, rcs_snoc]
          exact ho
        · -- 10
          intro xs d W hd hn hI hV
          replace hI : KI (g + 2) (g + 1) k v5 l5 lN wr (d 9) (d 11) W := hI
          rw [if_neg (by decide)]
          clear hV hd hn hI
          go_simp
          exact rfl
        · -- 11
          intro xs d W hd hn hI hV
          replace hI : KI (g + 2) (g + 1) k v5 l5 lN wr (d 9) (d 11) W := hI
          have x10 : xs 10 = .pointer (some ⟨g + 1, 2, none⟩) := hV 10 (hd 10 (by decide))
          have g9 : kaB (g + 2) lN (xs 9) W := hV 9 (hd 9 (by decide))
          have hda : d 9 = true := hd 9 (by decide)
          rw [if_pos (by decide)]
          intro hdn
          have hV' := hV
          clear hV hd hn
          unfold kaB at g9
          have hBb := hI.b hdn
          have c0 := hBb.cell 2 _ rfl
          have f0 := hBb.free 2
          obtain ⟨A6, k6, e12, -⟩ := own_rd g9
          rw [e12] at g9
          have hfs : Fr (fun i => i = g + 1) W (W.setCell ⟨g + 1, 2, none⟩ (.slice A6 lN.length k6)) := (Fr.refl _ W).setCell (g + 1) 2 _ (.inl rfl)
          have hkeep : ∀ u, kaB (g + 2) lN u W → kaB (g + 2) lN u (W.setCell ⟨g + 1, 2, none⟩ (.slice A6 lN.length k6)) := fun u h => own_fr h hfs (fun i hi e => own_ne_blk h hBb (by decide) (by rw [← (show i = g + 1 from e)]; exact hi))
          have HH := Lib.hid (show KI (g + 2) (g + 1) k v5 l5 lN wr (upd d 11 true 9) (upd d 11 true 11) (W.setCell ⟨g + 1, 2, none⟩ (.slice A6 lN.length k6)) ∧ ∀ j, d j = true → VV (kac (g + 1) v5 ad n c k x) (kaG b5 (g + 2) (rT x) lN) j (xs j) (W.setCell ⟨g + 1, 2, none⟩ (.slice A6 lN.length k6)) from ⟨⟨hI.f.trans' (hfs.mono (fun i _ hi => .inl hi)), fun h => (by rw [show upd d 11 true 9 = d 9 from upd_ne _ _ (by decide), hda] at h; cases h), fun h => (by rw [show upd d 11 true 11 = true from upd_self _ _ _] at h; cases h), fun _ => ⟨_, hBb.set 2 _, hkeep _ g9⟩, fun _ => by rw [show upd d 11 true 9 = d 9 from upd_ne _ _ (by decide)]; exact hda⟩, fun j hj => VV.any2 (hV' j hj) (fun h => kaG_keep h (fun h => h.fr hfs (fun i hi => hgS i (.inl hi))) (fun _ => hkeep _))⟩)
          clear hI hV' g9 hfs hkeep hBb
          go_simp
          exact ⟨HH.out.1, rfl, HH.out.2⟩
      case hqA =>
        intro xs W6 hI hV
        replace hI : KI (g + 2) (g + 1) k v5 l5 lN wr true true W6 := hI
        obtain ⟨u, hB6, ho6⟩ := hI.c rfl
        have hF6 : Fr (fun i => i = g + 1) W0 W6 := hf.trans (hI.f.mono (fun i _ hi => by
          rcases hi with hi | hi
          · exact .inl hi
          · exact .inr (by have := hv5ge i hi; omega)))
        have ho7 : W6.ownsRow (g + 2) 46 12 u ((l.take (k + 1)).map rT).length (rcs ((l.take (k + 1)).map rT)) := by rw [HLN.out, ← hlNe.out]; exact ho6
        clear hI hV hxr hgS hv5lt hv5ge ho hB ho6
        go_wp2
        go_roundw
        case rel => exact ⟨k + 1, u, by omega, by go_num, hB6, ho7, hF6⟩
        case measure => simp [intOf]; omega
    · obtain rfl : k = n := by omega
      rw [List.take_of_length_le (by omega)] at ho
      obtain ⟨A5, c5, rfl, -⟩ := own_rd ho
      have hB1 := HB1.out.fr hf (show ¬ g = g + 1 by omega)
      have hBC := hB
      go_wp2_with (first | (refine wpList_get rfl 28 (.tmp 3) rfl (g + 1) rfl 28 [.int .u16 0, .bool false, .slice A5 (l.map rT).length c5, .slice none 0 0, .slice none 0 0] _ hBC Try.underlying28 rfl sizeAns ?_) | (refine wpList_put rfl 28 (.tmp 2) (.tmp 23) rfl g #[.int .u16 0, .bool false, .slice A5 (l.map rT).length c5, .slice none 0 0, .slice none 0 0] rfl rfl 28 _ hB1 sizeAns rfl rfl ?_))
      refine bodyPost_ret (results_rec1 rfl _ _ _ _ _ rfl (hB1.row #[.int .u16 0, .bool false, .slice A5 (l.map rT).length c5, .slice none 0 0, .slice none 0 0]) Try.underlying28 rfl sizeAns) rfl ?_
      have hzw := hf.size
      have hfz := (Fr.refl (fun i => i = g) wr).setRow g #[.int .u16 0, .bool false, .slice A5 (l.map rT).length c5, .slice none 0 0, .slice none 0 0] (.inl rfl)
      have hbw : Below g w wr := Fr.toBelow HB2.out hf (fun i _ hi => by have e : i = g + 1 := hi; omega) (by omega)
      refine ⟨_, rfl, ⟨_, _, _, rfl, own_lower (own_fr ho hfz (fun i hi e => by have := own_base ho i hi; have e' : i = g := e; omega)) (by omega), World.ownsRow_nil _ _ _ _, World.ownsRow_nil _ _ _ _⟩, hbw.grown (grown_row wr g _) (by omega) (fun k hk => by cases hk; exact Nat.le_refl _)⟩
end Go.Proofs.Ytioehogncgloiaa
