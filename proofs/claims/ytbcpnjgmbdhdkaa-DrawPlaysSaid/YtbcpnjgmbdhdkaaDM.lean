/- The law DrawPlays. -/
import Derived.Test.YtbcpnjgmbdhdkaaDN
import Derived.Test.YtbcpnjgmbdhdkaaRG
import Derived.Deep.QuietTactic
import Derived.BigQuiet
import Derived.Deep.RegionLaw
namespace Go.Proofs.Ytbcpnjgmbdhdkaa
open Go.RowKit Go.HL
open Go.ChangeShapes (block_add)
set_option linter.unusedVariables false
set_option linter.unusedSimpArgs false
/-- An act, as it lies in memory. -/
structure Ac where
  d : Int
  n : Int
  A : Option Addr
  m : Nat
  c : Nat
  l : List Int
def Ac.cells (a : Ac) : List Value := [.int .i64 a.d, .int .i64 a.n, .slice a.A a.m a.c]
def acs (X : List Ac) : List Value := X.flatMap Ac.cells
structure Ac.ok (w : World) (a : Ac) : Prop where
  rd : Rd w 1 a.A a.m a.c (us a.l)
  reach : a.c * 4 ≤ 140737488351232
  u : U32 a.l
  n0 : -9223372036854775808 ≤ a.n
  n1 : a.n ≤ 9223372036854775807
theorem acs_elem : ∀ (l : List Ac) (i : Nat) (r : Ac), l[i]? = some r → ((acs l).drop (i * 3)).take 3 = r.cells
  | [], i, r, h => by simp at h
  | x :: l, 0, r, h => by
    simp only [List.getElem?_cons_zero, Option.some.injEq] at h
    subst h
    simp only [acs, List.flatMap_cons, Nat.zero_mul, List.drop_zero]
    exact List.take_left' rfl
  | x :: l, i + 1, r, h => by
    simp only [List.getElem?_cons_succ] at h
    have ih := acs_elem l i r h
    simp only [acs, List.flatMap_cons]
    rw [show (i + 1) * 3 = x.cells.length + i * 3 by simp [Ac.cells]; omega, ← List.drop_drop, List.drop_left]
    exact ih
theorem Rd.ac {w : World} {ad : Addr} {n c : Nat} {l : List Ac} (h : Rd w 3 (some ad) n c (acs l)) (i : Nat) (r : Ac) (hr : l[i]? = some r) : Cells w (ad.add (i * 3)) r.cells := by
  have := ((h.cells ad rfl).drop (i * 3)).take 3
  rwa [acs_elem l i r hr] at this
theorem acs_len (l : List Ac) : (acs l).length = l.length * 3 := by
  induction l with
  | nil => rfl
  | cons x l ih => simp only [acs, List.flatMap_cons, List.length_append, List.length_cons] at *; rw [ih]; simp [Ac.cells]; omega
theorem Rd.acN {w : World} {A : Option Addr} {n c : Nat} {l : List Ac} (h : Rd w 3 A n c (acs l)) : l.length = n := by
  have := h.len
  rw [acs_len] at this
  omega
theorem sizeAct : (Try.prog.info? 41).map (·.size) = some 3 := by kernel_rfl
theorem us_set (l : List Int) (j : Nat) (x : Int) : (us l).set j (.int .u32 x) = us (l.set j x) := by simp [us, List.map_set]
theorem sh_len : ∀ (i : Nat) (row l : List Int) (last : Int), (sh i row l last).1.length = row.length
  | 0, _, _, _ => rfl
  | i + 1, row, l, last => by simp only [sh]; rw [sh_len i, swap_length]
theorem us_eqN {l l' : List Int} : us l = us l' ↔ l = l' := by
  constructor
  · intro h
    have := congrArg (List.map (fun v : Value => match v with | .int _ x => x | _ => 0)) h
    simpa [us, List.map_map, Function.comp_def] using this
  · rintro rfl; rfl
theorem grownBy_fresh {w w1 : World} (h : w.grownBy w1 (some w.heap.size)) : w.grownBy w1 none := ⟨h.os, h.tape, h.output, h.size, fun k hk _ => h.block k hk (by simp; omega)⟩
theorem St.drewN {B : Nat} {W : World} {gs gr : Nat} {ob : Option Nat} {ls lr : List Int} {xs ar : Int} (h : St B W gs gr ob ls xs lr ar) (q : Nat) : St B (W.drewN q) gs gr ob ls xs lr ar := h.grown ⟨rfl, rfl, rfl, Nat.le_refl _, fun _ _ _ => rfl⟩
theorem St.drew {B : Nat} {W : World} {gs gr : Nat} {ob : Option Nat} {ls lr : List Int} {xs ar : Int} (h : St B W gs gr ob ls xs lr ar) : St B W.drew gs gr ob ls xs lr ar := h.grown ⟨rfl, rfl, rfl, Nat.le_refl _, fun _ _ _ => rfl⟩
theorem left2_ {ok : Nat → Prop} (w : World) (g : Nat) (l : List Int) (last : Int) (hs : Src ok w g l last) :
    Calls Try.prog 12 #[.pointer (some ⟨g, 0, none⟩)] w fun e w' => e = .returned (.int .i64 (l.length : Int)) ∧ w' = w := (left_ w g l last hs).mono fun _ _ h => ⟨h.1, h.2.symm⟩
theorem sh_ok {i : Nat} {row : List Int} {l : List Int} {last : Int} {row' l' : List Int} {last' : Int} (h : sh i row l last = (row', l', last')) (h0 : 0 ≤ last) (h1 : last < 4294967296) (hu : U32 l) (h4 : l.length ≤ 4096) : 0 ≤ last' ∧ last' < 4294967296 ∧ U32 l' ∧ l'.length ≤ 4096 := by
  induction i generalizing row l last with
  | zero => simp only [sh, Prod.mk.injEq] at h; obtain ⟨_, rfl, rfl⟩ := h; exact ⟨h0, h1, hu, h4⟩
  | succ i ih => exact ih h hu.next.1 hu.next.2 hu.tail (by rw [List.length_tail]; omega)
/-- What either Shuffle leaves. -/
def Shuffs (B : Nat) (W : World) (gs gr : Nat) (ob : Option Nat) (N : Nat) (row ls : List Int) (xs : Int) (lr : List Int) (ar : Int) (g : Nat) (e : Ending) (w' : World) : Prop :=
  ∃ A c, e = .returned (.slice A N c) ∧ Rd w' 1 A N c (is row) ∧ (∀ a, A = some a → a.block ≠ gs ∧ a.block ≠ gr) ∧ St B w' gs gr ob ls xs lr ar ∧ W.grownBy w' (some g)
section
variable {B : Nat} {W : World} {gs gr : Nat} {ob : Option Nat} {lq : List Int} {last : Int} {N : Nat} {row l2 : List Int} {a2 : Int}
theorem shufS {lr : List Int} {ar : Int} (n : Int) (hN : rowN n = N) (hsh : sh (N - 1) (upto N) lq last = (row, l2, a2)) (h0 : 0 ≤ last) (h1 : last < 4294967296) (hu : U32 lq) (hst : St B W gs gr ob lq last lr ar) :
    Calls Try.prog 11 #[.pointer (some ⟨gs, 0, none⟩), .int .i64 n] W (Shuffs B W gs gr ob N row l2 a2 lr ar gs) := by
  refine (shuffle2_ _ W (fun k hk => hk.1) gs lq last n h0 h1 hu hst.s).mono ?_
  rintro e w' ⟨he, ha, hs, _, _, hg⟩
  rw [hN] at he ha hs
  rw [hsh] at ha hs
  have hrd := Arr.rd ha
  have hlen : row.length = N := by
    have := sh_len (N - 1) (upto N) lq last
    rw [hsh, upto_length] at this
    exact this
  rw [hlen] at hrd
  have h2 := hst.s.lt
  have h3 := hst.r.lt
  exact ⟨_, _, he, hrd, (fun a e => by cases e; constructor <;> (show W.heap.size ≠ _; omega)), hst.stepS hs hg, hg⟩
theorem shufR {ls : List Int} {xs : Int} (n : Int) (hN : rowN n = N) (hsh : sh (N - 1) (upto N) lq last = (row, l2, a2)) (h0 : 0 ≤ last) (h1 : last < 4294967296) (hu : U32 lq) (hst : St B W gs gr ob ls xs lq last) :
    Calls Try.prog 18 #[.pointer (some ⟨gr, 0, none⟩), .int .i64 n] W (Shuffs B W gs gr ob N row ls xs l2 a2 gr) := by
  refine (rshuffle_ W gr ob lq last n h0 h1 hu hst.r).mono ?_
  rintro e w' ⟨A, c, he, hr, ha, hs, _, _, hg⟩
  rw [hN] at he hr hs
  rw [hsh] at hr hs
  have h2 := hst.s.lt
  have h3 := hst.r.lt
  exact ⟨A, c, he, hr, (fun a e => by have := ha a e; omega), hst.stepR hs hg, hg⟩
end
def DrawI (B : Nat) (W : World) (gs gr : Nat) (ob : Option Nat) (l : List Int) (last : Int) : Prop := St B W gs gr ob l last l last ∧ 0 ≤ last ∧ last < 4294967296 ∧ U32 l ∧ l.length ≤ 4096
set_option maxRecDepth 100000 in
set_option maxHeartbeats 8000000 in
theorem drawPlays_core (w : World) (A : Option Addr) (m c : Nat) (l : List Int) (hr : Rd w 1 A m c (us l)) (hu : U32 l) (hc : c * 4 ≤ 140737488351232) (A' : Option Addr) (n c' : Nat) (X : List Ac) (hX : Rd w 3 A' n c' (acs X)) (hok : ∀ a ∈ X, a.ok w) (hn : n ≤ 200) :
    Calls Try.prog 6 #[.slice A m c, .slice A' n c'] w (Tells w (.bool true)) := by
  have hlm := us_len hr
  have hmc := hr.le
  have hAlt : 0 < m → ∀ a, A = some a → a.block < w.heap.size := fun h0 a ha => by
    subst ha
    have := World.block_lt_of_cell? w _ (hr.usAt 0 h0)
    rwa [block_add] at this
  have hn' : ¬ (200 : Int) < (n : Int) := by omega
  go_enter Try.func6, Try.ntmps6
  go_upto_region 4 with (at_builtin; refine wpList_app_nil w w w.heap.size rfl _ _ 25 25 26 (.int .u32 0) 1 4 rfl Try.underlying25 info_u32 rfl (by omega) (by omega) rfl _ m (us l) rfl (.slice hr (us_one l)) (Below.refl _ _) (Nat.le_refl _) (by omega) ?_; intro v5 w1 ho hb1 hg1)
  have hrw1 := own_rd ho
  obtain ⟨A5, c5, rfl, hr5⟩ := hrw1
  have hnew := new2_ w1 A5 m c5 l hr5 (by omega)
  go_upto_region 5 with (go_at_call 10; refine hnew.mono ?_; rintro e w2 ⟨gs, rfl, hgs, hs2, hb2⟩)
  have hb02 := below_trans hb1 hb2
  have hrn := rnew_ w2 A m c l (hr.below hb02) (by omega) (fun h0 a ha => Nat.lt_of_lt_of_le (hAlt h0 a ha) hb02.size)
  go_upto_region 6 with (go_at_call 13; refine hrn.mono ?_; rintro e w3 ⟨gr, ob, rfl, hgr, hs3, hob3, hb3⟩)
  have hb03 := below_trans hb02 hb3
  have hz1 := hb1.size
  have hz2 := hb2.size
  have hz3 := hb3.size
  have hs2l := hs2.lt
  have ho3 := own_below (own_below ho hb2) hb3
  have hlt5 : ∀ a, A5 = some a → a.block < w1.heap.size := fun a ha => (ho.lt a.block (by rw [ha]; rfl)).2
  have hs23 := hs2.below hb3
  have hB1 : w.heap.size ≤ w3.heap.size := hb03.size
  clear hnew hrn hs2 ho hr5 hg1 hb1 hb2 hb3
  have hob5 : ∀ a, A5 = some a → a.block ≠ gs ∧ a.block ≠ gr ∧ ob ≠ some a.block := fun a ha => ⟨by have := hlt5 a ha; omega, by have := hlt5 a ha; omega, fun e => by have := hob3 _ e; have := hlt5 a ha; omega⟩
  have hg3 : w3.grownBy w3 (Value.slice A5 m c5).ownBlock := ⟨rfl, rfl, rfl, Nat.le_refl _, fun _ _ _ => rfl⟩
  have hown5 : ∀ b, (Value.slice A5 m c5).ownBlock = some b → b ≠ gs ∧ b ≠ gr ∧ ob ≠ some b ∧ w.heap.size ≤ b ∧ b < w1.heap.size := fun b hb => by
    have h1 := ho3.lt b hb
    cases A5 with
    | none => cases hb
    | some a => cases hb; exact ⟨(hob5 a rfl).1, (hob5 a rfl).2.1, (hob5 a rfl).2.2, h1.1, hlt5 a rfl⟩
  go_wp2
  go_loopw [8] (fun i wr => ∃ (k : Nat) (row : List Int), k ≤ m ∧ i = .int .i64 k ∧ wr.ownsRow w.heap.size 26 1 (.slice A5 m c5) m (us row) ∧ w3.grownBy wr (Value.slice A5 m c5).ownBlock) (fun i _ => m - (intOf i).toNat)
  case atStart => exact ⟨0, l, Nat.zero_le _, rfl, ho3, hg3⟩
  case round =>
    obtain ⟨k, row, hk, rfl, ho, hg⟩ := hrel
    by_cases hlt : k < m
    · have hi1 : (k : Int) < (m : Int) := by omega
      have hi0 : (0 : Int) ≤ (k : Int) := by omega
      have hrl : row.length = m := by have := ho.1; rw [us_length] at this; omega
      obtain ⟨gb, rfl⟩ : ∃ gb, A5 = some ⟨gb, 0, none⟩ := by
        rcases ho.2 with ⟨h3, h4⟩ | ⟨gb, cap, cur, h3, h4, _⟩
        · omega
        · cases h3; exact ⟨gb, rfl⟩
      obtain ⟨x, hx⟩ : ∃ x, row.getD k 0 = x := ⟨_, rfl⟩
      have cx := own_cellj ho k _ (us_get row k (by omega))
      rw [hx] at cx
      have fx := own_free ho k
      clear hs23 hs3 hob5 hown5
      go_wp2
      refine ⟨⟨k + 1, row.set k _, hlt, by go_num, by rw [← us_set]; exact own_put ho k _ hlt, hg.trans (grownBy_set wr gb k _)⟩, by simp [intOf]; omega⟩
    · obtain rfl : k = m := by omega
      have hst : St w.heap.size wr gs gr ob (l.take 4096) 0 (l.take 4096) 0 := by
        have h1 := hs23.grown hg (fun e => (hown5 gs e.symm).1 rfl) (fun q hq e => by have := (hown5 q e.symm).2.2.2.2; omega)
        have h2 := hs3.grown hg (fun e => (hown5 gr e.symm).2.1 rfl) (fun b hb e => (hown5 b e.symm).2.2.1 hb)
        have h3 := hg.size
        exact ⟨h1.mono (fun k hk => ⟨by omega, by omega, fun e => by have := hob3 k e; omega⟩), h2, by omega, fun e => by have := hob3 gs e; omega, by omega, by omega, fun b e => by have := hob3 b e; omega⟩
      have hbw : Below w.heap.size w wr := hb03.grown hg hB1 (fun q hq => (hown5 q hq).2.2.2.1)
      have hI : DrawI w.heap.size wr gs gr ob (l.take 4096) 0 := ⟨hst, by omega, by omega, fun x hx => hu x (List.mem_of_mem_take hx), by rw [List.length_take]; omega⟩
      clear hst hg3 ho3 ho hg hob5 hown5 hb03 hr hu hs23 hs3 hob3 hlt5 hk hlm hgs hz1 hz2 hz3 hs2l hgr hB1 hb02 hAlt row
      obtain ⟨wo, rfl⟩ : ∃ wo : World, wo = wr := ⟨_, rfl⟩
      go_wp2
      go_loopw [6, 7, 9] (fun vs vr i wr => ∃ (q gs gr : Nat) (ob : Option Nat) (lq : List Int) (last : Int), q ≤ n ∧ i = .int .i64 q ∧ vs = .pointer (some ⟨gs, 0, none⟩) ∧ vr = .pointer (some ⟨gr, 0, none⟩) ∧ DrawI w.heap.size wr gs gr ob lq last ∧ Below w.heap.size w wr) (fun _ _ i _ => n - (intOf i).toNat)
      case atStart => exact ⟨0, gs, gr, ob, _, _, Nat.zero_le _, rfl, rfl, rfl, hI, hbw⟩
      case round =>
        clear hI hbw
        obtain ⟨q, gs, gr, ob, lq, last, hq, rfl, rfl, rfl, ⟨hst, h0, h1, hu, h4⟩, hb⟩ := hrel
        have hv := hu.next (last := last)
        obtain ⟨v, hvv⟩ : ∃ v, nextV lq last = v := ⟨_, rfl⟩
        have HV := Lib.hid hvv
        rw [hvv] at hv
        obtain ⟨v0, v1⟩ := hv
        clear hvv
        by_cases hlt : q < n
        · have hi1 : (q : Int) < (n : Int) := by omega
          have hi0 : (0 : Int) ≤ (q : Int) := by omega
          obtain ⟨ad, rfl⟩ : ∃ a, A' = some a := by
            cases A' with
            | none => have := (hX.nil_ rfl).1; omega
            | some a => exact ⟨a, rfl⟩
          obtain ⟨⟨d, na, Aa, ma, ca, la⟩, ha⟩ : ∃ a, X[q]? = some a := ⟨_, List.getElem?_eq_getElem (by have := Rd.acN hX; omega)⟩
          have hcs := Rd.ac (hX.below hb) q _ ha
          have hoka := hok _ (List.mem_of_getElem? ha)
          have hrd := hoka.rd
          have hla := us_len hrd
          have hle := hrd.le
          have hrea := hoka.reach
          have hua := hoka.u
          have hn0 := hoka.n0
          have hn1 := hoka.n1
          simp only at hrd hla hle hrea hua hn0 hn1
          simp only [Ac.cells] at hcs
          clear ha hoka
          have hsz := hb.size
          have HB := Blk.new wr 41 #[.int .i64 0, .int .i64 0, .slice none 0 0]
          go_upto_region 14 with (first | (refine wpList_getAt rfl 41 (.tmp 45) rfl (ad.add (q * 3)) rfl [.int .i64 d, .int .i64 na, .slice Aa ma ca] _ hcs Try.underlying41 rfl sizeAct ?_) | (refine wpList_put rfl 41 (.tmp 10) _ rfl wr.heap.size #[.int .i64 d, .int .i64 na, .slice Aa ma ca] rfl rfl 41 [.int .i64 0, .int .i64 0, .slice none 0 0] HB sizeAct rfl rfl ?_))
          have hg1 := (World.grownBy_alloc wr (.cells #[.int .i64 0, .int .i64 0, .slice none 0 0] 41) (some wr.heap.size)).trans (grown_row _ wr.heap.size #[.int .i64 d, .int .i64 na, .slice Aa ma ca])
          have hK := HB.row #[.int .i64 d, .int .i64 na, .slice Aa ma ca]
          have hgn := grownBy_fresh hg1
          have hst1 := hst.grown hgn
          have hb1 := hb.grown hgn hsz (fun k hk => by cases hk)
          have x0 := hK.cell 0 _ rfl
          have x1 := hK.cell 1 _ rfl
          have x2 := hK.cell 2 _ rfl
          have hgs := hst.s.lt
          have hgr := hst.r.lt
          have hgo := hst.r.blt
          obtain ⟨h10, hh10⟩ : ∃ h, wr.heap.size = h := ⟨_, rfl⟩
          show Code.wp _ _ _ _ ((wr.alloc (.cells #[.int .i64 0, .int .i64 0, .slice none 0 0] 41)).setRow wr.heap.size #[.int .i64 d, .int .i64 na, .slice Aa ma ca])
          obtain ⟨W1, hW1⟩ : ∃ x, (wr.alloc (.cells #[.int .i64 0, .int .i64 0, .slice none 0 0] 41)).setRow wr.heap.size #[.int .i64 d, .int .i64 na, .slice Aa ma ca] = x := ⟨_, rfl⟩
          rw [hW1] at hst1 hb1 x0 x1 x2 ⊢
          rw [hh10] at x0 x1 x2 hgs hgr hgo hsz ⊢
          have hz1 : h10 < W1.heap.size := by
            have := World.block_lt_of_cell? W1 _ x0
            exact this
          clear hst hb hW1 hg1 hgn hK HB hcs hh10
          have hst := hst1
          have hb := hb1
          clear hst1 hb1
          have hdd : d = 0 ∨ d = 1 ∨ d = 2 ∨ d = 3 ∨ d = 4 ∨ d = 5 ∨ ((d == 0) = false ∧ (d == 1) = false ∧ (d == 2) = false ∧ (d == 3) = false ∧ (d == 4) = false ∧ (d == 5) = false) := by
            simp only [beq_eq_false_iff_ne]
            omega
          rcases hdd with rfl | rfl | rfl | rfl | rfl | rfl | ⟨hd0, hd1, hd2, hd3, hd4, hd5⟩
          · go_upto_region 32 with (first | (go_at_call 14; refine (next_ _ gs lq last h0 h1 hst.s).mono ?_; rintro e w5 ⟨rfl, hs5, hg5⟩; rw [HV.out] at hs5 ⊢; replace hst := hst.stepS hs5 hg5; replace hb := hb.grown hg5 (by omega) (fun k hk => by cases hk; exact hst.bs); clear hs5) | (go_at_call 15; refine (rnext_ _ gr ob lq last h0 h1 hst.r).mono ?_; rintro e w6 ⟨rfl, hs6, hg6⟩; rw [HV.out] at hs6 ⊢; replace hst := hst.stepR hs6 hg6; replace hb := hb.grown hg6 (by have := hg5.size; omega) (fun k hk => by cases hk; exact hst.br); clear hs6))
            have hst := hst
            obtain ⟨Ar, cr, hcr⟩ := hst.r.len
            go_wp2
            go_quiet ((go_at_call 12; exact Calls.quiet_of_same (left2_ _ _ _ _ (hst.drewN _).s)))
            go_wp2
            go_roundw
            case rel => exact ⟨q + 1, gs, gr, _, _, _, hlt, by go_num, rfl, rfl, ⟨hst.drewN _, v0, v1, hu.tail, by rw [List.length_tail]; omega⟩, below_drewN hb _⟩
            case measure => simp [intOf]; omega
          · go_upto_region 19 with fail
            by_cases hN : na < 1
            · go_quiet ((first | (go_at_call 16; exact Calls.quiet_of_same ((below_none _ gs na hN).mono fun _ _ h => ⟨h.1, h.2.symm⟩)) | (go_at_call 17; exact Calls.quiet_of_same ((rbelow_none _ gr na hN).mono fun _ _ h => ⟨h.1, h.2.symm⟩))))
              replace hst := hst.drewN nq
              replace hb := below_drewN hb nq
              obtain ⟨W2, hW2⟩ : ∃ x, W1.drewN nq = x := ⟨_, rfl⟩
              rw [hW2] at hst hb ⊢
              clear hW2
              obtain ⟨Ar, cr, hcr⟩ := hst.r.len
              go_wp2
              go_quiet ((go_at_call 12; exact Calls.quiet_of_same (left2_ _ _ _ _ (hst.drewN _).s)))
              go_wp2
              go_roundw
              case rel => exact ⟨q + 1, gs, gr, _, _, _, hlt, by go_num, rfl, rfl, ⟨hst.drewN _, h0, h1, hu, h4⟩, below_drewN hb _⟩
              case measure => simp [intOf]; omega
            · replace hst := hst.drew
              replace hz1 : h10 < W1.drew.heap.size := hz1
              replace hb := hb.drew
              have hN1 : 1 ≤ na := by omega
              obtain ⟨vb, hvb⟩ : ∃ vb, v % na = vb := ⟨_, rfl⟩
              have HVB := Lib.hid hvb
              have hnv0 : 0 ≤ nextV lq last := by rw [HV.out]; exact v0
              have hnv1 : nextV lq last < 4294967296 := by rw [HV.out]; exact v1
              clear hvb
              have CS := Lib.hid (fun (W : World) (lr : List Int) (ar : Int) (h : St w.heap.size W gs gr ob lq last lr ar) => below_ W gs lq last na hN1 hn1 h0 h1 hnv0 hnv1 h.s)
              have CR := Lib.hid (fun (W : World) (ls : List Int) (xs : Int) (h : St w.heap.size W gs gr ob ls xs lq last) => rbelow_ W gr ob lq last na hN1 hn1 h0 h1 hnv0 hnv1 h.r)
              clear hnv0 hnv1
              go_region_law (first | (go_simp; go_at_call 16; refine (CS.out _ _ _ hst).mono ?_; rintro e w5 ⟨rfl, hs5, hg5⟩; rw [HV.out] at hs5 ⊢; rw [HVB.out]; replace hst := hst.stepS hs5 hg5; replace hb := hb.grown hg5 (by omega) (fun k hk => by cases hk; exact hst.bs); replace x1 := hg5.cell x1 (by simp; omega); replace hz1 := Nat.lt_of_lt_of_le hz1 hg5.size; clear hs5 hg5) | (go_simp; go_at_call 17; refine (CR.out _ _ _ hst).mono ?_; rintro e w6 ⟨rfl, hs6, hg6⟩; rw [HV.out] at hs6 ⊢; rw [HVB.out]; replace hst := hst.stepR hs6 hg6; replace hb := hb.grown hg6 (by omega) (fun k hk => by cases hk; exact hst.br); replace x1 := hg6.cell x1 (by simp; omega); replace hz1 := Nat.lt_of_lt_of_le hz1 hg6.size; clear hs6 hg6))
              all_goals
                have hst := hst
                obtain ⟨Ar, cr, hcr⟩ := hst.r.len
                go_wp2
                go_quiet ((go_at_call 12; exact Calls.quiet_of_same (left2_ _ _ _ _ (hst.drewN _).s)))
                go_wp2
                go_roundw
                case rel => exact ⟨q + 1, gs, gr, _, _, _, hlt, by go_num, rfl, rfl, ⟨hst.drewN _, v0, v1, hu.tail, by rw [List.length_tail]; omega⟩, below_drewN hb _⟩
                case measure => simp [intOf]; omega
          · obtain ⟨N, hN⟩ : ∃ N, rowN na = N := ⟨_, rfl⟩
            have hN2 := rowN_le na
            rw [hN] at hN2
            obtain ⟨row, l2, a2, hsh⟩ : ∃ a b c, sh (N - 1) (upto N) lq last = (a, b, c) := ⟨_, _, _, rfl⟩
            obtain ⟨k0, k1, ku, k4⟩ := sh_ok hsh h0 h1 hu h4
            have CS := Lib.hid (fun (W : World) (lr : List Int) (ar : Int) (h : St w.heap.size W gs gr ob lq last lr ar) => shufS na hN hsh h0 h1 hu h)
            have CR := Lib.hid (fun (W : World) (ls : List Int) (xs : Int) (h : St w.heap.size W gs gr ob ls xs lq last) => shufR na hN hsh h0 h1 hu h)
            clear hN hsh
            go_upto_region 21 with fail
            replace hst := hst.drew
            replace hz1 : h10 < W1.drew.heap.size := hz1
            replace hb := hb.drew
            go_region_law (first | (go_simp; go_at_call 11; refine (CS.out _ _ _ hst).mono ?_; rintro e w5 ⟨As, cs, rfl, hrs, has, hst5, hg5⟩; (try replace hrr := hrr.grown hg5 (fun a ha e => (har a ha).1 (by simpa using e))); replace hst := hst5; replace hb := hb.grown hg5 (by omega) (fun k hk => by cases hk; exact hst.bs); replace x1 := hg5.cell x1 (by simp; omega); replace hz1 := Nat.lt_of_lt_of_le hz1 hg5.size; clear hg5) | (go_simp; go_at_call 18; refine (CR.out _ _ _ hst).mono ?_; rintro e w6 ⟨Ar, cr, rfl, hrr, har, hst6, hg6⟩; (try replace hrs := hrs.grown hg6 (fun a ha e => (has a ha).2 (by simpa using e))); replace hst := hst6; replace hb := hb.grown hg6 (by omega) (fun k hk => by cases hk; exact hst.br); replace x1 := hg6.cell x1 (by simp; omega); replace hz1 := Nat.lt_of_lt_of_le hz1 hg6.size; clear hg6) | (go_simp; go_at_call 9; refine (ints_ _ _ _ _ _ _ _ row row hrs hrr (by omega)).mono ?_; rintro e w7 ⟨rfl, hb7⟩; rw [decide_eq_true rfl]; replace hst := hst.below hb7; replace hb := hb.trans (hb7.mono (by omega))))
            all_goals
              have hst := hst
              obtain ⟨Ar, cr, hcr⟩ := hst.r.len
              go_wp2
              go_quiet ((go_at_call 12; exact Calls.quiet_of_same (left2_ _ _ _ _ (hst.drewN _).s)))
              go_wp2
              go_roundw
              case rel => exact ⟨q + 1, gs, gr, _, _, _, hlt, by go_num, rfl, rfl, ⟨hst.drewN _, k0, k1, ku, k4⟩, below_drewN hb _⟩
              case measure => simp [intOf]; omega
          · have HL := Lib.hid h4
            have hma : ma ≤ 140737488355328 := by omega
            have hmb : ma * 4 ≤ 140737488355328 := by omega
            have hla2 : 0 < ma → ∀ a, Aa = some a → a.block < w.heap.size := fun h0 a ha => by
              subst ha
              have := World.block_lt_of_cell? w _ (hrd.usAt 0 h0)
              rwa [block_add] at this
            have HLA := Lib.hid hla2
            have h4' : lq.length + (la.take (4096 - lq.length)).length ≤ 4096 := by rw [List.length_take]; omega
            have hu' : U32 (lq ++ la.take (4096 - lq.length)) := fun x hx => by
              rcases List.mem_append.1 hx with h | h
              · exact hu x h
              · exact hua x (List.mem_of_mem_take h)
            have HH := Lib.hid (And.intro h4' hu')
            have HRD := Lib.hid hrd
            clear h4' hu' hla2 hla hrd
            go_upto_region 24 with (first | (at_builtin; refine wpList_app_nil W1 W1 W1.heap.size rfl _ _ 25 25 26 (.int .u32 0) 1 4 rfl Try.underlying25 info_u32 rfl (by omega) (by omega) rfl _ ma (us la) rfl (.slice (HRD.out.below hb) (us_one la)) (Below.refl _ _) (Nat.le_refl _) (by omega) ?_; intro v4 w4 ho4 hb4 hg4; obtain ⟨A4, q4, rfl, hr4⟩ := own_rd ho4; replace hst := hst.grown hg4; replace hb := hb.trans (hb4.mono (by omega)); replace x2 := hg4.cell x2 (by simp); replace hz1 := Nat.lt_of_lt_of_le hz1 hg4.size; clear ho4 hg4 hb4) | (go_at_call 19; refine (add2_ _ _ (fun k hk => hk.1) gs lq last HL.out hst.s A4 ma q4 la hr4 hma).mono ?_; rintro e w5 ⟨rfl, hs5, hg5⟩; replace hst := hst.addS hs5 hg5; replace hb := hb.grown hg5 (by omega) (fun k hk => by cases hk; exact hst.bs); replace x2 := hg5.cell x2 (by simp; omega); replace hz1 := Nat.lt_of_lt_of_le hz1 hg5.size; clear hs5 hg5 hr4))
            have hbr := hst.br
            have hbo := hst.bo
            go_upto_region 32 with (go_at_call 20; refine (radd_ _ gr ob lq last HL.out hst.r Aa ma ca la (HRD.out.below hb) hma (fun h0 a ha => ⟨by have := HLA.out h0 a ha; omega, fun e => by have := HLA.out h0 a ha; have := hbo _ e; omega⟩)).mono ?_; rintro e w6 ⟨rfl, ob6, hs6, hm6, ho6⟩; replace hst := hst.addR (by omega) hs6 hm6 ho6; replace hb := Mod.belowAll hb hm6 (by omega) (fun k hk => by rcases hk with h | h; omega; exact hbo k h))
            have hst := hst
            obtain ⟨Ar, cr, hcr⟩ := hst.r.len
            go_wp2
            go_quiet ((go_at_call 12; exact Calls.quiet_of_same (left2_ _ _ _ _ (hst.drewN _).s)))
            go_wp2
            go_roundw
            case rel => exact ⟨q + 1, gs, gr, _, _, _, hlt, by go_num, rfl, rfl, ⟨hst.drewN _, h0, h1, HH.out.2, by rw [List.length_append]; exact HH.out.1⟩, below_drewN hb _⟩
            case measure => simp [intOf]; omega
          · go_upto_region 27 with (go_at_call 21; refine (copy_ _ gs _ lq last h4 hst.s).mono ?_; rintro e w5 ⟨g5, rfl, hg5, hs5, hb5⟩; replace hst := hst.copyS (by omega) hg5 hs5 hb5; replace hb := hb.trans (hb5.mono (by omega)); replace hz1 := Nat.lt_of_lt_of_le hz1 hb5.size; clear hs5 hb5)
            go_upto_region 32 with (go_at_call 22; refine (rcopy_ _ gr ob lq last h4 hst.r).mono ?_; rintro e w6 ⟨g6, ob6, rfl, hg6, hs6, ho6, hb6⟩; replace hst := hst.copyR (by omega) hg6 hs6 ho6 hb6; replace hb := hb.trans (hb6.mono (by omega)); replace hz1 := Nat.lt_of_lt_of_le hz1 hb6.size; clear hs6 hb6)
            have hst := hst
            obtain ⟨Ar, cr, hcr⟩ := hst.r.len
            go_wp2
            go_quiet ((go_at_call 12; exact Calls.quiet_of_same (left2_ _ _ _ _ (hst.drewN _).s)))
            go_wp2
            go_roundw
            case rel => exact ⟨q + 1, g5, g6, _, _, _, hlt, by go_num, rfl, rfl, ⟨hst.drewN _, h0, h1, hu, h4⟩, below_drewN hb _⟩
            case measure => simp [intOf]; omega
          · have hma : ma ≤ 140737488355328 := by omega
            have HRD := Lib.hid hrd
            have HU := Lib.hid hua
            clear hrd hla
            have hzz : w.heap.size ≤ W1.heap.size := by omega
            go_upto_region 30 with (go_at_call 21; refine (copy_ _ gs _ lq last h4 hst.s).mono ?_; rintro e w5 ⟨g5, rfl, hg5, hs5, hb5⟩; have y2 := (hb5.cell (p := ⟨h10, 2, none⟩) hz1).trans x2; have hz5 := hb5.size)
            have hs5' := hs5.mono (ok' := fun k => k < w5.heap.size) (fun k hk => hk.2)
            go_upto_region 31 with (go_at_call 19; refine (add_ _ g5 lq last h4 hs5' Aa ma ca la (HRD.out.below (hb.trans (hb5.mono hzz))) hma).mono ?_; rintro e w6 ⟨rfl, hs6, hg6⟩; have hb6 := hb5.grown hg6 hz5 (fun k hk => by cases hk; exact hg5); have hz6 := hb6.size)
            have hla9 : U32 (lq ++ la.take (4096 - lq.length)) := fun x hx => by
              rcases List.mem_append.1 hx with h | h
              · exact hu x h
              · exact HU.out x (List.mem_of_mem_take h)
            obtain ⟨l9, hl9⟩ : ∃ l9, lq ++ la.take (4096 - lq.length) = l9 := ⟨_, rfl⟩
            rw [hl9] at hs6 hla9
            clear hl9
            go_upto_region 32 with (go_at_call 14; refine (next_ _ g5 l9 last h0 h1 hs6).mono ?_; rintro e w7 ⟨rfl, hs7, hg7⟩; have hb7 := hb6.grown hg7 hz6 (fun k hk => by cases hk; exact hg5))
            replace hst := hst.below hb7
            replace hb := hb.trans (hb7.mono hzz)
            have hst := hst
            obtain ⟨Ar, cr, hcr⟩ := hst.r.len
            go_wp2
            go_quiet ((go_at_call 12; exact Calls.quiet_of_same (left2_ _ _ _ _ (hst.drewN _).s)))
            go_wp2
            go_roundw
            case rel => exact ⟨q + 1, gs, gr, _, _, _, hlt, by go_num, rfl, rfl, ⟨hst.drewN _, h0, h1, hu, h4⟩, below_drewN hb _⟩
            case measure => simp [intOf]; omega
          · go_upto_region 32 with fail
            have hst := hst
            obtain ⟨Ar, cr, hcr⟩ := hst.r.len
            go_wp2
            go_quiet ((go_at_call 12; exact Calls.quiet_of_same (left2_ _ _ _ _ (hst.drewN _).s)))
            go_wp2
            go_roundw
            case rel => exact ⟨q + 1, gs, gr, _, _, _, hlt, by go_num, rfl, rfl, ⟨hst.drewN _, h0, h1, hu, h4⟩, below_drewN hb _⟩
            case measure => simp [intOf]; omega
        · obtain rfl : q = n := by omega
          have hge : ¬ (q : Int) < (q : Int) := by omega
          have hz := hb.size
          go_wp2_with (first | (go_at_call 14; refine (next_ _ gs lq last h0 h1 hst.s).mono ?_; rintro e w5 ⟨rfl, hs5, hg5⟩; rw [HV.out] at hs5 ⊢; replace hst := hst.stepS hs5 hg5; replace hb := hb.grown hg5 hz (fun k hk => by cases hk; exact hst.bs); replace hz := hb.size; clear hs5) | (go_at_call 15; refine (rnext_ _ gr ob lq last h0 h1 hst.r).mono ?_; rintro e w6 ⟨rfl, hs6, hg6⟩; rw [HV.out] at hs6 ⊢; replace hst := hst.stepR hs6 hg6; replace hb := hb.grown hg6 hz (fun k hk => by cases hk; exact hst.br); clear hs6) | (go_at_call 8; refine (wakes _).mono ?_; rintro e w7 ⟨rfl, hb7⟩))
          go_ret
          exact ⟨rfl, hb.trans (hb7.mono hb.size)⟩
end Go.Proofs.Ytbcpnjgmbdhdkaa
