/- The laws of layer 2: OctetPuts. -/
import Derived.Test.YtnablkfoikkkdaaL0
import Derived.Test.YtnablkfoikkkdaaRS
import Derived.OpenShut
import Derived.Laws.MakeOwn
import Derived.Laws.CopyOwn
import Derived.Deep.RegionWith
import Derived.Deep.LoopGhost
import Derived.Deep.DeepCutAuto
namespace Go.Proofs.Ytnablkfoikkkdaa
open Go.RowKit Go.HL
set_option linter.unusedVariables false
set_option linter.unusedSimpArgs false

def r6c (A Ax Ay Az : Option Addr) (n c cx cy cz : Nat) (l : List UInt8) (v : Int) : List (Option Value) :=
  [some (.slice Ax (n + 1) cx),
   some (.string (str (l ++ be 1 (v % 256)))),
   some (.slice A n c),
   some (.int .u32 v),
   some (.int .u32 (v % 256)),
   none,
   some (.string (str (l ++ be 1 (v % 256)))),
   some (.bool false),
   some (.bool false),
   some (.slice Ay (n + 2) cy),
   some (.string (str (l ++ be 2 (v % 65536)))),
   some (.slice A n c),
   some (.int .u32 v),
   some (.int .u32 (v % 65536)),
   none,
   some (.string (str (l ++ be 2 (v % 65536)))),
   some (.bool false),
   some (.bool false),
   some (.bool false),
   some (.slice Az (n + 4) cz),
   some (.string (str (l ++ be 4 v))),
   some (.slice A n c),
   some (.int .u32 v),
   none,
   some (.string (str (l ++ be 4 v))),
   some (.bool false),
   some (.bool false)]
def r6G (A Ax Ay Az : Option Addr) (n c cx cy cz : Nat) (l : List UInt8) (v : Int) : Nat → Value → World → Prop
  | 5, u, W => ∃ A1 c1, u = .slice A1 (n + 1) c1 ∧ Rd W 1 A1 (n + 1) c1 (bs (l ++ be 1 (v % 256)))
  | 14, u, W => ∃ A1 c1, u = .slice A1 (n + 2) c1 ∧ Rd W 1 A1 (n + 2) c1 (bs (l ++ be 2 (v % 65536)))
  | 23, u, W => ∃ A1 c1, u = .slice A1 (n + 4) c1 ∧ Rd W 1 A1 (n + 4) c1 (bs (l ++ be 4 v))
  | _, _, _ => True
theorem r6G_st (A Ax Ay Az : Option Addr) (n c cx cy cz : Nat) (l : List UInt8) (v : Int) : ∀ j u W W', Below W.heap.size W W' → r6G A Ax Ay Az n c cx cy cz l v j u W → r6G A Ax Ay Az n c cx cy cz l v j u W' := by
  intro j u W W' hb h
  unfold r6G at h ⊢
  split at h
  · obtain ⟨A1, c1, h1, h2⟩ := h; exact ⟨A1, c1, h1, h2.below hb⟩
  · obtain ⟨A1, c1, h1, h2⟩ := h; exact ⟨A1, c1, h1, h2.below hb⟩
  · obtain ⟨A1, c1, h1, h2⟩ := h; exact ⟨A1, c1, h1, h2.below hb⟩
  · trivial
def r18c (A Az : Option Addr) (g n c cz : Nat) (l : List UInt8) (v : Int) : List (Option Value) :=
  [some (.slice (some ⟨g, 0, none⟩) n (n + 8)),
   some (.string (str l)),
   some (.slice A n c),
   some (.string (str l)),
   some (.bool true),
   some (.bool true),
   some (.slice Az (n + 4) cz),
   some (.string (str (l ++ be 4 v))),
   some (.slice A n c),
   some (.int .u32 v),
   none,
   some (.string (str (l ++ be 4 v))),
   some (.bool true),
   some (.bool true),
   some (.bool true),
   some (.bool true),
   some (.bool true),
   some (.bool true)]
def r18G (A Az : Option Addr) (g n c cz : Nat) (l : List UInt8) (v : Int) : Nat → Value → World → Prop
  | 10, u, W => ∃ A1 c1, u = .slice A1 (n + 4) c1 ∧ Rd W 1 A1 (n + 4) c1 (bs (l ++ be 4 v))
  | _, _, _ => True
theorem r18G_st (A Az : Option Addr) (g n c cz : Nat) (l : List UInt8) (v : Int) : ∀ j u W W', Below W.heap.size W W' → r18G A Az g n c cz l v j u W → r18G A Az g n c cz l v j u W' := by
  intro j u W W' hb h
  unfold r18G at h ⊢
  split at h
  · obtain ⟨A1, c1, h1, h2⟩ := h; exact ⟨A1, c1, h1, h2.below hb⟩
  · trivial
theorem u8_of_wf {x : Int} (h : (Lit.int .u8 x).wf = true) : ∃ b : UInt8, x = (b.toNat : Int) := by
  have h1 : 0 ≤ x ∧ x < 256 := by simp [Lit.wf, IntKind.min, IntKind.max, IntKind.signed, IntKind.bits] at h; omega
  refine ⟨UInt8.ofNat x.toNat, ?_⟩
  rw [UInt8.toNat_ofNat', Nat.mod_eq_of_lt (by omega)]
  omega
theorem splice_head {α : Type} (cur cs : List α) : splice cur 0 cs = cs ++ cur.drop cs.length := by simp [splice]
set_option maxRecDepth 100000 in
set_option maxHeartbeats 4000000 in
theorem octetPuts_walk (w : World) (A : Option Addr) (n c : Nat) (l : List UInt8) (v : Int) (hr : Rd w 1 A n c (bs l)) (hc : c * 1 ≤ 140737488351232) (hv0 : 0 ≤ v) (hv1 : v < 4294967296) :
    Calls Try.prog 3 #[.slice A n c, .int .u32 v] w (Tells w (.bool true)) := by
  have hbl := hr.blen
  have hle := hr.le
  obtain ⟨i0, hi, hz0, hz1, hz2⟩ := info_parts info_u8
  have hmk : ∀ W, (Instr.makeSlice 22 (.int .i64 (n : Int)) (.int .i64 ((n : Int) + 8))).run Try.prog W = .ok (.slice (some ⟨W.heap.size, 0, none⟩) n (n + 8)) (W.alloc (.cells (madeCells #[.int .u8 0] (n + 8)) 5)) := by
    intro W
    have := run_make (P := Try.prog) W 22 5 i0 (.int .u8 0) Try.underlying22 hi hz0 .i64 .i64 (n : Int) ((n : Int) + 8) (by omega) (by omega) (by rw [hz2]; omega) (by omega)
    rw [hz1, Nat.mul_one] at this
    rw [this]
    rfl
  have hsz : (Try.prog.info? 5).map (·.size) = some 1 := by rw [hi]; simp [hz1]
  have hw16 : IntKind.u16.wrap v = v % 65536 := IntKind.wrap_u16 v
  have hblk : (w.alloc (.cells (madeCells #[.int .u8 0] (n + 8)) 5)).heap[w.heap.size]? = some (.cells (List.replicate (n + 8) (.int .u8 0)).toArray 5 (0, 0)) := by
    rw [heap_alloc_new]
    congr 2
    apply Array.ext'
    rw [toList_madeCells_one]
  clear hi hz0 hz1 hz2
  go_enter Try.func3, Try.ntmps3
  go_wp2_with (refine wpList_copy_splice (w := w.alloc (.cells (madeCells #[.int .u8 0] (n + 8)) 5)) rfl (.tmp 18) (.tmp 19) 22 22 rfl 5 Try.underlying22 hsz (some ⟨w.heap.size, 0, none⟩) A n (n + 8) n c rfl rfl w.heap.size 0 _ _ hblk (bs l) ?c1 ?c2 ?c3 (bs_one l) w.heap.size w (below_new w _) (Nat.le_refl _) ?_)
  case c1 => rw [bs_length, hbl]; exact (Nat.min_self n).symm
  case c2 =>
    intro hp
    cases A with
    | none => have := (hr.nil_ rfl).1; rw [bs_length] at hp; omega
    | some ad => first | exact ⟨rfl, ad, rfl, (hr.alloc _).cells ad rfl⟩ | exact ⟨ad, rfl, (hr.alloc _).cells ad rfl⟩
  case c3 => rw [bs_length]; simp; omega
  intro w1 hblk1 hb1
  have hroom : w1.heap[w.heap.size]? = some (.cells (bs (l ++ List.replicate 8 0)).toArray 5 (0, 0)) := by
    have h := hblk1.out
    rw [splice_head, bs_length, hbl] at h
    rw [h, bs_append]
    congr 4
    simp [bs]
  have hrm0 : Rd w1 1 (some ⟨w.heap.size, 0, none⟩) (n + 8) (n + 8) (bs (l ++ List.replicate 8 0)) :=
    ⟨by simp [bs, hbl], fun ha => (by cases ha), Nat.le_refl _, fun a ha => by cases ha; exact fun j u hu => World.news_of_block hroom j u (by simpa using hu)⟩
  have hrm := hrm0.bpre n (by omega)
  have e0 : (l ++ List.replicate 8 (0 : UInt8)).take n = l := by rw [← hbl]; simp
  rw [e0] at hrm
  have hrw := hr.below hb1
  clear hblk hblk1 hmk hsz
  go_wp2_with (go_at_call 9; refine (put8 _ _ _ _ (by omega) (by omega) (by omega) _ _ hrm).mono ?_; rintro e w2 ⟨sv, rfl, ho2, hb2⟩)
  rw [← bs_append] at ho2
  obtain ⟨Ax, cx, rfl, hrx⟩ := own_rd ho2
  have hrm2 := hrm.below hb2
  go_wp2_with (go_at_call 10; refine (put16 _ _ _ _ (by omega) (by omega) (by omega) _ _ hrm2).mono ?_; rintro e w3 ⟨sv, rfl, ho3, hb3⟩)
  rw [← bs_append] at ho3
  obtain ⟨Ay, cy, rfl, hry⟩ := own_rd ho3
  have hrm3 := hrm2.below hb3
  go_wp2_with (go_at_call 11; refine (put32 _ _ _ _ (by omega) (by omega) (by omega) _ _ hrm3).mono ?_; rintro e w4 ⟨sv, rfl, ho4, hb4⟩)
  rw [← bs_append] at ho4
  obtain ⟨Az, cz, rfl, hrz⟩ := own_rd ho4
  have hrx4 := (hrx.below hb3).below hb4
  have hry4 := hry.below hb4
  have hrw4 := ((hrw.below hb2).below hb3).below hb4
  have hb14 : Below w.heap.size w w4 := below_trans (below_trans (⟨hb1.os, hb1.tape, hb1.output, hb1.size, hb1.block⟩) hb2 |> fun h => below_trans h hb3) hb4
  have hroom4 : w4.heap[w.heap.size]? = some (.cells (bs (l ++ List.replicate 8 0)).toArray 5 (0, 0)) := by
    have g1 := (Array.getElem?_eq_some_iff.1 hroom).1
    rw [hb4.block _ (by have := hb2.size; have := hb3.size; omega), hb3.block _ (by have := hb2.size; omega), hb2.block _ g1]
    exact hroom
  have hox : w4.ownsRow w.heap.size 5 1 (.slice Ax (n + 1) cx) (n + 1) (bs (l ++ be 1 (v % 256))) := own_lower (own_below (own_below ho2 hb3) hb4) hb1.size
  have hgx : ∀ q, (Value.slice Ax (n + 1) cx).ownBlock = some q → w.heap.size < q ∧ q < w2.heap.size := fun q hq => by
    have h1 := ho2.lt q hq
    have h2 := (Array.getElem?_eq_some_iff.1 hroom).1
    omega
  have hgz : ∀ a, Az = some a → w2.heap.size ≤ a.block := fun a ha => by
    have h1 := ho4.lt a.block (by rw [ha]; rfl)
    have := hb3.size
    omega
  clear ho2 ho3 ho4 hrx hry hrm hrm2 hrm3 hrm0 hrw hroom hb1 hb2 hb3 hb4 e0
  have ha8 : bits .and .u32 v 255 = v % 256 := bits_mask .u32 32 (by decide) (fun n h0 h1 => wraps_u32 n h0 h1) 8 (by decide) v hv0 (by omega)
  have ha16 : bits .and .u32 v 65535 = v % 65536 := bits_mask .u32 32 (by decide) (fun n h0 h1 => wraps_u32 n h0 h1) 16 (by decide) v hv0 (by omega)
  have HRb := hrw4
  have HRx := hrx4
  have HRy := hry4
  have HRz := hrz
  clear hrw4 hrx4 hry4 hrz
  go_wp2_with (fail)
  refine wp_region_grow (by kernel_rfl) (by kernel_rfl) ?fr ?hfr (VV (r6c A Ax Ay Az n c cx cy cz l v) (r6G A Ax Ay Az n c cx cy cz l v)) (VV.stable (r6G_st A Ax Ay Az n c cx cy cz l v)) ?hob ?hQ
  case hfr =>
    intro xs
    simp only [fillL]
    go_simp
    exact rfl
  case hob =>
    refine ⟨?_, ?_, ?_, ?_, ?_, ?_, ?_, ?_, ?_, ?_, ?_, ?_, ?_, ?_, ?_, ?_, ?_, ?_, ?_, ?_, ?_, ?_, ?_, ?_, ?_, ?_, ?_, trivial⟩
    · -- 0: slot 32 := move t6
      intro xs W hb hA
      clear hA
      go_simp
      exact ⟨Below.refl _ _, rfl⟩
    · -- 1: slot 33 := convert 22 9 t32
      intro xs W hb hA
      have x0 : xs 0 = .slice Ax (n + 1) cx := hA 0 (by decide)
      have hc := run_conv_str (P := Try.prog) W (dst := 9) Try.underlying22 Try.underlying5 Try.underlying9 (HRx.below hb)
      clear hA
      go_simp
      exact ⟨Below.refl _ _, rfl⟩
    · -- 2: slot 34 := move t0
      intro xs W hb hA
      clear hA
      go_simp
      exact ⟨Below.refl _ _, rfl⟩
    · -- 3: slot 35 := move t1
      intro xs W hb hA
      clear hA
      go_simp
      exact ⟨Below.refl _ _, rfl⟩
    · -- 4: slot 36 := binOp BinOp.and 23 t35 (const (255:u32)) 23
      intro xs W hb hA
      have x3 : xs 3 = .int .u32 v := hA 3 (by decide)
      clear hA
      go_simp
      exact ⟨Below.refl _ _, rfl⟩
    · -- 5: slot 37 := call { value (Operand.func 12), args := #[t34, t36, const (1:i64)], argTypes := #[22, 23, 
      intro xs W hb hA
      have x2 : xs 2 = .slice A n c := hA 2 (by decide)
      have x4 : xs 4 = .int .u32 (v % 256) := hA 4 (by decide)
      clear hA
      go_simp
      refine (rput (w := W) A n c (v % 256) 1 (by omega) (by omega) (by omega) (by omega) (bs l) (HRb.below hb) (bs_one l)).mono ?_
      rintro e w5 ⟨sv, rfl, ho5, hb5⟩
      rw [← bs_append] at ho5
      obtain ⟨Ap, cp, rfl, hrp⟩ := own_rd ho5
      exact ⟨_, rfl, hb5, Ap, cp, rfl, hrp⟩
    · -- 6: slot 38 := convert 22 9 t37
      intro xs W hb hA
      have g5 : (r6G A Ax Ay Az n c cx cy cz l v 5 (xs 5) W) := hA 5 (by decide)
      obtain ⟨A1, c1, e1, hr1⟩ := g5
      have hc := run_conv_str (P := Try.prog) W (dst := 9) Try.underlying22 Try.underlying5 Try.underlying9 (hr1)
      clear hA
      go_simp
      exact ⟨Below.refl _ _, rfl⟩
    · -- 7: slot 39 := binOp BinOp.neq 9 t33 t38 9
      intro xs W hb hA
      have x1 : xs 1 = .string (str (l ++ be 1 (v % 256))) := hA 1 (by decide)
      have x6 : xs 6 = .string (str (l ++ be 1 (v % 256))) := hA 6 (by decide)
      clear hA
      go_simp
      exact ⟨Below.refl _ _, rfl⟩
    · -- 8: slot 40 := move t39
      intro xs W hb hA
      have x7 : xs 7 = .bool false := hA 7 (by decide)
      clear hA
      go_simp
      exact ⟨Below.refl _ _, rfl⟩
    · -- 9: slot 41 := move t7
      intro xs W hb hA
      have x8 : xs 8 = .bool false := hA 8 (by decide)
      clear hA
      go_simp
      exact ⟨Below.refl _ _, rfl⟩
    · -- 10: slot 42 := convert 22 9 t41
      intro xs W hb hA
      have x9 : xs 9 = .slice Ay (n + 2) cy := hA 9 (by decide)
      have x8 : xs 8 = .bool false := hA 8 (by decide)
      have hc := run_conv_str (P := Try.prog) W (dst := 9) Try.underlying22 Try.underlying5 Try.underlying9 (HRy.below hb)
      clear hA
      go_simp
      exact ⟨Below.refl _ _, rfl⟩
    · -- 11: slot 43 := move t0
      intro xs W hb hA
      have x8 : xs 8 = .bool false := hA 8 (by decide)
      clear hA
      go_simp
      exact ⟨Below.refl _ _, rfl⟩
    · -- 12: slot 44 := move t1
      intro xs W hb hA
      have x8 : xs 8 = .bool false := hA 8 (by decide)
      clear hA
      go_simp
      exact ⟨Below.refl _ _, rfl⟩
    · -- 13: slot 45 := binOp BinOp.and 23 t44 (const (65535:u32)) 23
      intro xs W hb hA
      have x12 : xs 12 = .int .u32 v := hA 12 (by decide)
      have x8 : xs 8 = .bool false := hA 8 (by decide)
      clear hA
      go_simp
      exact ⟨Below.refl _ _, rfl⟩
    · -- 14: slot 46 := call { value (Operand.func 12), args := #[t43, t45, const (2:i64)], argTypes := #[22, 23, 
      intro xs W hb hA
      have x11 : xs 11 = .slice A n c := hA 11 (by decide)
      have x13 : xs 13 = .int .u32 (v % 65536) := hA 13 (by decide)
      have x8 : xs 8 = .bool false := hA 8 (by decide)
      clear hA
      go_simp
      refine (rput (w := W) A n c (v % 65536) 2 (by omega) (by omega) (by omega) (by omega) (bs l) (HRb.below hb) (bs_one l)).mono ?_
      rintro e w5 ⟨sv, rfl, ho5, hb5⟩
      rw [← bs_append] at ho5
      obtain ⟨Ap, cp, rfl, hrp⟩ := own_rd ho5
      exact ⟨_, rfl, hb5, Ap, cp, rfl, hrp⟩
    · -- 15: slot 47 := convert 22 9 t46
      intro xs W hb hA
      have g14 : (r6G A Ax Ay Az n c cx cy cz l v 14 (xs 14) W) := hA 14 (by decide)
      have x8 : xs 8 = .bool false := hA 8 (by decide)
      obtain ⟨A1, c1, e1, hr1⟩ := g14
      have hc := run_conv_str (P := Try.prog) W (dst := 9) Try.underlying22 Try.underlying5 Try.underlying9 (hr1)
      clear hA
      go_simp
      exact ⟨Below.refl _ _, rfl⟩
    · -- 16: slot 48 := binOp BinOp.neq 9 t42 t47 9
      intro xs W hb hA
      have x10 : xs 10 = .string (str (l ++ be 2 (v % 65536))) := hA 10 (by decide)
      have x15 : xs 15 = .string (str (l ++ be 2 (v % 65536))) := hA 15 (by decide)
      have x8 : xs 8 = .bool false := hA 8 (by decide)
      clear hA
      go_simp
      exact ⟨Below.refl _ _, rfl⟩
    · -- 17: slot 49 := pick t40 (const (Value.bool true)) t48
      intro xs W hb hA
      have x8 : xs 8 = .bool false := hA 8 (by decide)
      have x16 : xs 16 = .bool false := hA 16 (by decide)
      clear hA
      go_simp
      exact ⟨Below.refl _ _, rfl⟩
    · -- 18: slot 50 := move t49
      intro xs W hb hA
      have x17 : xs 17 = .bool false := hA 17 (by decide)
      clear hA
      go_simp
      exact ⟨Below.refl _ _, rfl⟩
    · -- 19: slot 51 := move t8
      intro xs W hb hA
      have x18 : xs 18 = .bool false := hA 18 (by decide)
      clear hA
      go_simp
      exact ⟨Below.refl _ _, rfl⟩
    · -- 20: slot 52 := convert 22 9 t51
      intro xs W hb hA
      have x19 : xs 19 = .slice Az (n + 4) cz := hA 19 (by decide)
      have x18 : xs 18 = .bool false := hA 18 (by decide)
      have hc := run_conv_str (P := Try.prog) W (dst := 9) Try.underlying22 Try.underlying5 Try.underlying9 (HRz.below hb)
      clear hA
      go_simp
      exact ⟨Below.refl _ _, rfl⟩
    · -- 21: slot 53 := move t0
      intro xs W hb hA
      have x18 : xs 18 = .bool false := hA 18 (by decide)
      clear hA
      go_simp
      exact ⟨Below.refl _ _, rfl⟩
    · -- 22: slot 54 := move t1
      intro xs W hb hA
      have x18 : xs 18 = .bool false := hA 18 (by decide)
      clear hA
      go_simp
      exact ⟨Below.refl _ _, rfl⟩
    · -- 23: slot 55 := call { value (Operand.func 12), args := #[t53, t54, const (4:i64)], argTypes := #[22, 23, 
      intro xs W hb hA
      have x21 : xs 21 = .slice A n c := hA 21 (by decide)
      have x22 : xs 22 = .int .u32 v := hA 22 (by decide)
      have x18 : xs 18 = .bool false := hA 18 (by decide)
      clear hA
      go_simp
      refine (rput (w := W) A n c (v) 4 (by omega) (by omega) (by omega) (by omega) (bs l) (HRb.below hb) (bs_one l)).mono ?_
      rintro e w5 ⟨sv, rfl, ho5, hb5⟩
      rw [← bs_append] at ho5
      obtain ⟨Ap, cp, rfl, hrp⟩ := own_rd ho5
      exact ⟨_, rfl, hb5, Ap, cp, rfl, hrp⟩
    · -- 24: slot 56 := convert 22 9 t55
      intro xs W hb hA
      have g23 : (r6G A Ax Ay Az n c cx cy cz l v 23 (xs 23) W) := hA 23 (by decide)
      have x18 : xs 18 = .bool false := hA 18 (by decide)
      obtain ⟨A1, c1, e1, hr1⟩ := g23
      have hc := run_conv_str (P := Try.prog) W (dst := 9) Try.underlying22 Try.underlying5 Try.underlying9 (hr1)
      clear hA
      go_simp
      exact ⟨Below.refl _ _, rfl⟩
    · -- 25: slot 57 := binOp BinOp.neq 9 t52 t56 9
      intro xs W hb hA
      have x20 : xs 20 = .string (str (l ++ be 4 v)) := hA 20 (by decide)
      have x24 : xs 24 = .string (str (l ++ be 4 v)) := hA 24 (by decide)
      have x18 : xs 18 = .bool false := hA 18 (by decide)
      clear hA
      go_simp
      exact ⟨Below.refl _ _, rfl⟩
    · -- 26: slot 58 := pick t50 (const (Value.bool true)) t57
      intro xs W hb hA
      have x18 : xs 18 = .bool false := hA 18 (by decide)
      have x25 : xs 25 = .bool false := hA 25 (by decide)
      clear hA
      go_simp
      exact ⟨Below.refl _ _, rfl⟩
  case hQ =>
    intro xs W hb hV
    have x0 : xs 0 = .slice Ax (n + 1) cx := hV 0 (by decide)
    have x1 : xs 1 = .string (str (l ++ be 1 (v % 256))) := hV 1 (by decide)
    have x2 : xs 2 = .slice A n c := hV 2 (by decide)
    have x3 : xs 3 = .int .u32 v := hV 3 (by decide)
    have x4 : xs 4 = .int .u32 (v % 256) := hV 4 (by decide)
    have x5 : r6G A Ax Ay Az n c cx cy cz l v 5 (xs 5) W := hV 5 (by decide)
    have x6 : xs 6 = .string (str (l ++ be 1 (v % 256))) := hV 6 (by decide)
    have x7 : xs 7 = .bool false := hV 7 (by decide)
    have x8 : xs 8 = .bool false := hV 8 (by decide)
    have x9 : xs 9 = .slice Ay (n + 2) cy := hV 9 (by decide)
    have x10 : xs 10 = .string (str (l ++ be 2 (v % 65536))) := hV 10 (by decide)
    have x11 : xs 11 = .slice A n c := hV 11 (by decide)
    have x12 : xs 12 = .int .u32 v := hV 12 (by decide)
    have x13 : xs 13 = .int .u32 (v % 65536) := hV 13 (by decide)
    have x14 : r6G A Ax Ay Az n c cx cy cz l v 14 (xs 14) W := hV 14 (by decide)
    have x15 : xs 15 = .string (str (l ++ be 2 (v % 65536))) := hV 15 (by decide)
    have x16 : xs 16 = .bool false := hV 16 (by decide)
    have x17 : xs 17 = .bool false := hV 17 (by decide)
    have x18 : xs 18 = .bool false := hV 18 (by decide)
    have x19 : xs 19 = .slice Az (n + 4) cz := hV 19 (by decide)
    have x20 : xs 20 = .string (str (l ++ be 4 v)) := hV 20 (by decide)
    have x21 : xs 21 = .slice A n c := hV 21 (by decide)
    have x22 : xs 22 = .int .u32 v := hV 22 (by decide)
    have x23 : r6G A Ax Ay Az n c cx cy cz l v 23 (xs 23) W := hV 23 (by decide)
    have x24 : xs 24 = .string (str (l ++ be 4 v)) := hV 24 (by decide)
    have x25 : xs 25 = .bool false := hV 25 (by decide)
    have x26 : xs 26 = .bool false := hV 26 (by decide)
    clear hV
    have hbw := below_trans hb14 hb
    have hroomW : W.heap[w.heap.size]? = some (.cells (bs (l ++ List.replicate 8 0)).toArray 5 (0, 0)) := by rw [hb.block _ ((Array.getElem?_eq_some_iff.1 hroom4).1)]; exact hroom4
    have hoxW := own_below hox hb
    have HRbW := HRb.below hb
    have HRzW := HRz.below hb
    clear x0 x1 x2 x3 x4 x5 x6 x7 x8 x9 x10 x11 x12 x13 x14 x15 x16 x17 x18 x19 x20 x21 x22 x23 x24 x25 hroom4 hox hb HRb HRx HRy HRz hb14
    rw [x26]
    clear x26
    obtain ⟨m, hm⟩ : ∃ m, l ++ be 1 (v % 256) = m := ⟨_, rfl⟩
    have hml : m.length = n + 1 := by rw [← hm, List.length_append, be_length]; omega
    rw [hm] at hoxW
    clear hm
    rcases hoxW.2 with ⟨hAx, _⟩ | ⟨gx, capx, cur, hAx, hgb, hgh, hgc, _⟩
    · cases hAx
    cases hAx
    have hg1 : w.heap.size < gx ∧ gx < w2.heap.size := hgx gx rfl
    have hzne : ∀ a, Az = some a → some a.block ≠ some gx := fun a ha e => by have := hgz a ha; cases e; omega
    have hw2 : gx < W.heap.size := (Array.getElem?_eq_some_iff.1 hgh).1
    clear hgx hgz hgh hgb
    go_wp2
    go_loopw [9] (fun i wr => ∃ (k : Nat) (m : List UInt8), k ≤ n + 1 ∧ i = .int .i64 k ∧ m.length = n + 1 ∧ wr.ownsRow w.heap.size 5 1 (.slice (some ⟨gx, 0, none⟩) (n + 1) cx) (n + 1) (bs m) ∧ wr.heap[w.heap.size]? = some (.cells (bs (l ++ List.replicate 8 0)).toArray 5 (0, 0)) ∧ Rd wr 1 Az (n + 4) cz (bs (l ++ be 4 v)) ∧ Below w.heap.size w wr) (fun i _ => n + 1 - (intOf i).toNat)
    case atStart => exact ⟨0, m, Nat.zero_le _, rfl, hml, hoxW, hroomW, HRzW, hbw⟩
    case round =>
      clear hml hoxW hroomW HRbW HRzW hbw hw2
      obtain ⟨k, m, hk, rfl, hml, ho, hroom, HRz, hb⟩ := hrel
      by_cases hlt : k < n + 1
      · have hkn : (k : Int) < (n : Int) + 1 := by omega
        have hck := own_cellj ho k _ (bs_get m k (by omega))
        have hfk := own_free ho k
        obtain ⟨b, hbv⟩ : ∃ b, m.getD k 0 = b := ⟨_, rfl⟩
        rw [hbv] at hck
        have hbb := b.toNat_lt
        go_wp2
        go_roundw
        case rel =>
          obtain ⟨b', hb'⟩ := u8_of_wf (wf_bits .xor .u8 (if IntKind.u8.signed = true then -1 else IntKind.u8.max) (b.toNat : Int))
          rw [hb']
          have hp := own_put ho k (.int .u8 (b'.toNat : Int)) hlt
          have e1 : (bs m).set k (.int .u8 (b'.toNat : Int)) = bs (m.set k b') := by simp [bs, List.map_set]
          rw [e1] at hp
          refine ⟨k + 1, m.set k b', by omega, by go_num, by simpa using hml, hp, ?_, rd_grown HRz (grown_set _ _ _) hzne, hb.setCell (by show _ ≤ gx; omega) _⟩
          rw [(grown_set wr ⟨gx, k, none⟩ (.int .u8 (b'.toNat : Int))).block _ ((Array.getElem?_eq_some_iff.1 hroom).1) (by simp; omega)]
          exact hroom
        case measure => simp [intOf]; omega
      · obtain rfl : k = n + 1 := by omega
        clear ho
        have hcell : ∀ j, n ≤ j → j < n + 8 → wr.cell? ⟨w.heap.size, j, none⟩ = some (.int .u8 0) := fun j h1 h2 => by
          rw [cell_of_row wr _ j _ _ _ hroom]
          have := bs_get (l ++ List.replicate 8 0) j (by simp; omega)
          rw [List.getD_eq_getElem?_getD, List.getElem?_append_right (by omega), List.getElem?_replicate, if_pos (by omega)] at this
          simpa using this
        obtain ⟨wo, rfl⟩ : ∃ wo : World, wo = wr := ⟨_, rfl⟩
        go_wp2
        go_loop [11] (fun i => ∃ k : Nat, n ≤ k ∧ k ≤ n + 8 ∧ i = .int .i64 k) (fun i => n + 8 - (intOf i).toNat)
        case atStart => exact ⟨n, Nat.le_refl _, by omega, rfl⟩
        case round =>
          obtain ⟨k, hk1, hk2, rfl⟩ := hrel
          by_cases hlt : k < n + 8
          · have hc0 := hcell k hk1 hlt
            have hkn : (k : Int) < (n : Int) + 8 := by omega
            clear hroom HRz hcell
            go_wp2
            go_round
            case rel => exact ⟨k + 1, by omega, by omega, by go_num⟩
            case measure => simp [intOf]; omega
          · obtain rfl : k = n + 8 := by omega
            have HRb := hr.below hb
            have HRr0 : Rd wo 1 (some ⟨w.heap.size, 0, none⟩) (n + 8) (n + 8) (bs (l ++ List.replicate 8 0)) :=
              ⟨by simp [bs, hbl], fun ha => (by cases ha), Nat.le_refl _, fun a ha => by cases ha; exact fun j u hu => World.news_of_block hroom j u (by simpa using hu)⟩
            have HRr := HRr0.bpre n (by omega)
            have e0 : (l ++ List.replicate 8 (0 : UInt8)).take n = l := by rw [← hbl]; simp
            rw [e0] at HRr
            obtain ⟨g, hg⟩ : ∃ g, w.heap.size = g := ⟨_, rfl⟩
            have Hb := Lib.hid hb
            rw [hg] at HRr ⊢
            clear hcell HRr0 e0 hb hroom
            go_wp2_with (fail)
            refine wp_region_grow (by kernel_rfl) (by kernel_rfl) ?fr_r18 ?hfr_r18 (VV (r18c A Az g n c cz l v) (r18G A Az g n c cz l v)) (VV.stable (r18G_st A Az g n c cz l v)) ?hob_r18 ?hQ_r18
            case hfr_r18 =>
              intro xs
              simp only [fillL]
              go_simp
              exact rfl
            case hob_r18 =>
              refine ⟨?_, ?_, ?_, ?_, ?_, ?_, ?_, ?_, ?_, ?_, ?_, ?_, ?_, ?_, ?_, ?_, ?_, ?_, trivial⟩
              · -- 0: slot 90 := move t5
                intro xs W hb hA
                clear hA
                go_simp
                exact ⟨Below.refl _ _, rfl⟩
              · -- 1: slot 91 := convert 22 9 t90
                intro xs W hb hA
                have x0 : xs 0 = .slice (some ⟨g, 0, none⟩) n (n + 8) := hA 0 (by decide)
                have hc := run_conv_str (P := Try.prog) W (dst := 9) Try.underlying22 Try.underlying5 Try.underlying9 (HRr.below hb)
                clear hA
                go_simp
                exact ⟨Below.refl _ _, rfl⟩
              · -- 2: slot 92 := move t0
                intro xs W hb hA
                clear hA
                go_simp
                exact ⟨Below.refl _ _, rfl⟩
              · -- 3: slot 93 := convert 22 9 t92
                intro xs W hb hA
                have x2 : xs 2 = .slice A n c := hA 2 (by decide)
                have hc := run_conv_str (P := Try.prog) W (dst := 9) Try.underlying22 Try.underlying5 Try.underlying9 (HRb.below hb)
                clear hA
                go_simp
                exact ⟨Below.refl _ _, rfl⟩
              · -- 4: slot 94 := binOp BinOp.eql 9 t91 t93 9
                intro xs W hb hA
                have x1 : xs 1 = .string (str l) := hA 1 (by decide)
                have x3 : xs 3 = .string (str l) := hA 3 (by decide)
                clear hA
                go_simp
                exact ⟨Below.refl _ _, rfl⟩
              · -- 5: slot 95 := move t94
                intro xs W hb hA
                have x4 : xs 4 = .bool true := hA 4 (by decide)
                clear hA
                go_simp
                exact ⟨Below.refl _ _, rfl⟩
              · -- 6: slot 96 := move t8
                intro xs W hb hA
                have x5 : xs 5 = .bool true := hA 5 (by decide)
                clear hA
                go_simp
                exact ⟨Below.refl _ _, rfl⟩
              · -- 7: slot 97 := convert 22 9 t96
                intro xs W hb hA
                have x6 : xs 6 = .slice Az (n + 4) cz := hA 6 (by decide)
                have x5 : xs 5 = .bool true := hA 5 (by decide)
                have hc := run_conv_str (P := Try.prog) W (dst := 9) Try.underlying22 Try.underlying5 Try.underlying9 (HRz.below hb)
                clear hA
                go_simp
                exact ⟨Below.refl _ _, rfl⟩
              · -- 8: slot 98 := move t0
                intro xs W hb hA
                have x5 : xs 5 = .bool true := hA 5 (by decide)
                clear hA
                go_simp
                exact ⟨Below.refl _ _, rfl⟩
              · -- 9: slot 99 := move t1
                intro xs W hb hA
                have x5 : xs 5 = .bool true := hA 5 (by decide)
                clear hA
                go_simp
                exact ⟨Below.refl _ _, rfl⟩
              · -- 10: slot 100 := call { value (Operand.func 12), args := #[t98, t99, const (4:i64)], argTypes := #[22, 23, 
                intro xs W hb hA
                have x8 : xs 8 = .slice A n c := hA 8 (by decide)
                have x9 : xs 9 = .int .u32 v := hA 9 (by decide)
                have x5 : xs 5 = .bool true := hA 5 (by decide)
                clear hA
                go_simp
                refine (rput (w := W) A n c (v) 4 (by omega) (by omega) (by omega) (by omega) (bs l) (HRb.below hb) (bs_one l)).mono ?_
                rintro e w5 ⟨sv, rfl, ho5, hb5⟩
                rw [← bs_append] at ho5
                obtain ⟨Ap, cp, rfl, hrp⟩ := own_rd ho5
                exact ⟨_, rfl, hb5, Ap, cp, rfl, hrp⟩
              · -- 11: slot 101 := convert 22 9 t100
                intro xs W hb hA
                have g10 : (r18G A Az g n c cz l v 10 (xs 10) W) := hA 10 (by decide)
                have x5 : xs 5 = .bool true := hA 5 (by decide)
                obtain ⟨A1, c1, e1, hr1⟩ := g10
                have hc := run_conv_str (P := Try.prog) W (dst := 9) Try.underlying22 Try.underlying5 Try.underlying9 (hr1)
                clear hA
                go_simp
                exact ⟨Below.refl _ _, rfl⟩
              · -- 12: slot 102 := binOp BinOp.eql 9 t97 t101 9
                intro xs W hb hA
                have x7 : xs 7 = .string (str (l ++ be 4 v)) := hA 7 (by decide)
                have x11 : xs 11 = .string (str (l ++ be 4 v)) := hA 11 (by decide)
                have x5 : xs 5 = .bool true := hA 5 (by decide)
                clear hA
                go_simp
                exact ⟨Below.refl _ _, rfl⟩
              · -- 13: slot 103 := pick t95 t102 (const (Value.bool false))
                intro xs W hb hA
                have x5 : xs 5 = .bool true := hA 5 (by decide)
                have x12 : xs 12 = .bool true := hA 12 (by decide)
                clear hA
                go_simp
                exact ⟨Below.refl _ _, rfl⟩
              · -- 14: slot 104 := move t103
                intro xs W hb hA
                have x13 : xs 13 = .bool true := hA 13 (by decide)
                clear hA
                go_simp
                exact ⟨Below.refl _ _, rfl⟩
              · -- 15: slot 105 := call { value (Operand.func 13), args := #[], argTypes := #[] }
                intro xs W hb hA
                have x14 : xs 14 = .bool true := hA 14 (by decide)
                clear hA
                go_simp
                refine (wakes W).mono ?_
                rintro e w5 ⟨rfl, hb5⟩
                exact ⟨_, rfl, hb5, rfl⟩
              · -- 16: slot 106 := pick t104 t105 (const (Value.bool false))
                intro xs W hb hA
                have x14 : xs 14 = .bool true := hA 14 (by decide)
                have x15 : xs 15 = .bool true := hA 15 (by decide)
                clear hA
                go_simp
                exact ⟨Below.refl _ _, rfl⟩
              · -- 17: slot 4 := assign t106
                intro xs W hb hA
                have x16 : xs 16 = .bool true := hA 16 (by decide)
                clear hA
                go_simp
                exact ⟨Below.refl _ _, rfl⟩
            case hQ_r18 =>
              intro xs W hb hV
              have x0 : xs 0 = .slice (some ⟨g, 0, none⟩) n (n + 8) := hV 0 (by decide)
              have x1 : xs 1 = .string (str l) := hV 1 (by decide)
              have x2 : xs 2 = .slice A n c := hV 2 (by decide)
              have x3 : xs 3 = .string (str l) := hV 3 (by decide)
              have x4 : xs 4 = .bool true := hV 4 (by decide)
              have x5 : xs 5 = .bool true := hV 5 (by decide)
              have x6 : xs 6 = .slice Az (n + 4) cz := hV 6 (by decide)
              have x7 : xs 7 = .string (str (l ++ be 4 v)) := hV 7 (by decide)
              have x8 : xs 8 = .slice A n c := hV 8 (by decide)
              have x9 : xs 9 = .int .u32 v := hV 9 (by decide)
              have x10 : r18G A Az g n c cz l v 10 (xs 10) W := hV 10 (by decide)
              have x11 : xs 11 = .string (str (l ++ be 4 v)) := hV 11 (by decide)
              have x12 : xs 12 = .bool true := hV 12 (by decide)
              have x13 : xs 13 = .bool true := hV 13 (by decide)
              have x14 : xs 14 = .bool true := hV 14 (by decide)
              have x15 : xs 15 = .bool true := hV 15 (by decide)
              have x16 : xs 16 = .bool true := hV 16 (by decide)
              have x17 : xs 17 = .bool true := hV 17 (by decide)
              clear hV
              rw [x17]
              go_wp2
              go_ret
              exact ⟨rfl, below_trans Hb.out hb⟩
end Go.Proofs.Ytnablkfoikkkdaa
