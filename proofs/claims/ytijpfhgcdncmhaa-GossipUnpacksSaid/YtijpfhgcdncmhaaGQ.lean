/- gossip: the document's Unpack, walked; GossipUnpacks. -/
import Derived.Test.YtijpfhgcdncmhaaGH
import Derived.Test.YtijpfhgcdncmhaaHC
namespace Go.Proofs.Ytijpfhgcdncmhaa
open Go.RowKit Go.HL
set_option linter.unusedVariables false
set_option linter.unusedSimpArgs false

theorem rt_ok (w : World) (A : Option Addr) (n c : Nat) (l : List UInt8) (k : Nat) (p : Int) (i : Nat) (hk : k ≤ 4) (hk0 : 0 < k) (hr : Rd w 1 A n c (bs l)) (hn : n ≤ 140737488355328) (hp : p = i) (h : i + k ≤ n) :
    Calls Try.prog 26 #[.slice A n c, .int .i64 p, .int .i64 k] w fun e w' => e = .returned (.tuple #[.int .u32 (vat k l i), .int .i64 (p + k), .int .i64 0]) ∧ w = w' := by
  have hl := hr.blen
  have ht := rtake A n c p k hk hk0 hn w l hr
  have e1 : takeR k l p = (vat k l i, p + k, 0) := by
    unfold takeR vat
    rw [if_neg (by omega), if_neg (by omega), hp, Int.toNat_natCast]
  rw [e1] at ht
  exact ht
theorem rt_no (w : World) (A : Option Addr) (n c : Nat) (l : List UInt8) (k : Nat) (p : Int) (i : Nat) (hk : k ≤ 4) (hk0 : 0 < k) (hr : Rd w 1 A n c (bs l)) (hn : n ≤ 140737488355328) (hp : p = i) (hi : i ≤ n) (h : n < i + k) :
    Calls Try.prog 26 #[.slice A n c, .int .i64 p, .int .i64 k] w fun e w' => e = .returned (.tuple #[.int .u32 0, .int .i64 0, .int .i64 6]) ∧ w = w' := by
  have hl := hr.blen
  have ht := rtake A n c p k hk hk0 hn w l hr
  have e1 : takeR k l p = (0, 0, 6) := by
    unfold takeR
    rw [if_neg (by omega), if_pos (by omega)]
  rw [e1] at ht
  exact ht
def rumV (l : List UInt8) (i : Nat) : Value := if rumE l i = 0 then (rumM l i).val else .agg #[.int .u32 0, .int .u32 0, .int .u8 0, .string ⟨#[]⟩]
def rumP (l : List UInt8) (i : Nat) : Int := if rumE l i = 0 then (rumN l i : Int) else 0
def RumP (w : World) (l : List UInt8) (i : Nat) (e : Ending) (w' : World) : Prop := e = .returned (.tuple #[rumV l i, .int .i64 (rumP l i), .int .i64 (rumE l i)]) ∧ Below w.heap.size w w'
theorem rumP_no {w : World} {l : List UInt8} {i : Nat} {e : Ending} {w' : World} (x : Int) (hx : rumE l i = x) (hx0 : x ≠ 0) (he : e = .returned (.tuple #[.agg #[.int .u32 0, .int .u32 0, .int .u8 0, .string ⟨#[]⟩], .int .i64 0, .int .i64 x])) (hb : Below w.heap.size w w') : RumP w l i e w' := by
  have h0 : ¬ rumE l i = 0 := by rw [hx]; exact hx0
  refine ⟨?_, hb⟩
  unfold rumV rumP
  rw [if_neg h0, if_neg h0, hx]
  exact he
theorem rumP_ok {w : World} {l : List UInt8} {i : Nat} {e : Ending} {w' : World} {p : Int} {v : Value} (hx : rumE l i = 0) (hp : p = rumN l i) (hv : v = (rumM l i).val) (he : e = .returned (.tuple #[v, .int .i64 p, .int .i64 0])) (hb : Below w.heap.size w w') : RumP w l i e w' := by
  refine ⟨?_, hb⟩
  unfold rumV rumP
  rw [if_pos hx, if_pos hx, hx, ← hp, ← hv]
  exact he
set_option maxHeartbeats 1000000 in
theorem rum_c1 (w : World) (A : Option Addr) (n c : Nat) (l : List UInt8) (i : Nat) (hr : Rd w 1 A n c (bs l)) (hn : n ≤ 140737488355328) (hi : i ≤ n) (h1 : n < i + 4) :
    Calls Try.prog 27 #[.slice A n c, .int .i64 i] w (RumP w l i) := by
  have hl := hr.blen
  have hn2 := hn
  have hb2 := below_alloc (below_new w (.cells zmb.toArray 41)) (.cells zmb.toArray 41)
  have HB4 := (Blk.new w 41 zmb.toArray).alloc (.cells zmb.toArray 41)
  have HB7 := Blk.new (w.alloc (.cells zmb.toArray 41)) 41 zmb.toArray
  rw [World.size_alloc] at HB7
  have hr2 := hr.below hb2
  have hE : rumE l i = 6 := by unfold rumE; rw [if_pos (by omega)]
  have HE := Lib.hid hE
  clear hE
  go_enter Try.func27, Try.ntmps27
  go_upto_region 3 with (go_at_call 26; refine (rt_no _ A n c l 4 _ i (by omega) (by omega) hr2 hn2 (by omega) (by omega) (by omega)).mono ?_; rintro e w' ⟨rfl, rfl⟩)
  go_wp2_with (first | (refine wpList_get rfl 41 (.tmp 7) rfl (w.heap.size + 1) rfl 41 zmb _ HB7 Try.underlying41 rfl sizeMb ?_) | (refine wpList_put rfl 41 (.tmp 4) _ rfl w.heap.size zmb.toArray rfl rfl 41 zmb HB4 sizeMb rfl rfl ?_; have HB9 := HB4.row zmb.toArray; have hb9 := hb2.grown (grown_row _ w.heap.size zmb.toArray) hb2.size (fun j hj => by cases hj; exact Nat.le_refl _)))
  refine bodyPost_ret (results_rec3 rfl _ _ _ _ _ rfl HB9 Try.underlying41 rfl sizeMb) rfl ?_
  exact rumP_no 6 HE.out (by decide) rfl hb9
set_option maxHeartbeats 1000000 in
theorem rum_c2 (w : World) (A : Option Addr) (n c : Nat) (l : List UInt8) (i : Nat) (hr : Rd w 1 A n c (bs l)) (hn : n ≤ 140737488355328) (hi : i ≤ n) (h0 : i + 4 ≤ n) (h1 : n < i + 8) :
    Calls Try.prog 27 #[.slice A n c, .int .i64 i] w (RumP w l i) := by
  have hl := hr.blen
  have hn2 := hn
  have hb2 := below_alloc (below_new w (.cells zmb.toArray 41)) (.cells zmb.toArray 41)
  have HB4 := (Blk.new w 41 zmb.toArray).alloc (.cells zmb.toArray 41)
  have HB7 := Blk.new (w.alloc (.cells zmb.toArray 41)) 41 zmb.toArray
  rw [World.size_alloc] at HB7
  have hr2 := hr.below hb2
  have hE : rumE l i = 6 := by unfold rumE; rw [if_pos (by omega)]
  have HE := Lib.hid hE
  clear hE
  have v0 := vat_nonneg 4 l i
  go_enter Try.func27, Try.ntmps27
  go_upto_region 3 with (go_at_call 26; refine (rt_ok _ A n c l 4 _ i (by omega) (by omega) hr2 hn2 (by omega) (by omega)).mono ?_; rintro e w' ⟨rfl, rfl⟩)
  go_upto_region 6 with (go_at_call 26; refine (rt_no _ A n c l 4 _ (i + 4) (by omega) (by omega) hr2 hn2 (by omega) (by omega) (by omega)).mono ?_; rintro e w' ⟨rfl, rfl⟩)
  go_wp2_with (first | (refine wpList_get rfl 41 (.tmp 7) rfl (w.heap.size + 1) rfl 41 zmb _ HB7 Try.underlying41 rfl sizeMb ?_) | (refine wpList_put rfl 41 (.tmp 4) _ rfl w.heap.size zmb.toArray rfl rfl 41 zmb HB4 sizeMb rfl rfl ?_; have HB9 := HB4.row zmb.toArray; have hb9 := hb2.grown (grown_row _ w.heap.size zmb.toArray) hb2.size (fun j hj => by cases hj; exact Nat.le_refl _)))
  refine bodyPost_ret (results_rec3 rfl _ _ _ _ _ rfl HB9 Try.underlying41 rfl sizeMb) rfl ?_
  exact rumP_no 6 HE.out (by decide) rfl hb9
set_option maxHeartbeats 1000000 in
theorem rum_c3 (w : World) (A : Option Addr) (n c : Nat) (l : List UInt8) (i : Nat) (hr : Rd w 1 A n c (bs l)) (hn : n ≤ 140737488355328) (hi : i ≤ n) (h0 : i + 8 ≤ n) (h1 : n < i + 9) :
    Calls Try.prog 27 #[.slice A n c, .int .i64 i] w (RumP w l i) := by
  have hl := hr.blen
  have hn2 := hn
  have hb2 := below_alloc (below_new w (.cells zmb.toArray 41)) (.cells zmb.toArray 41)
  have HB4 := (Blk.new w 41 zmb.toArray).alloc (.cells zmb.toArray 41)
  have HB7 := Blk.new (w.alloc (.cells zmb.toArray 41)) 41 zmb.toArray
  rw [World.size_alloc] at HB7
  have hr2 := hr.below hb2
  have hE : rumE l i = 6 := by unfold rumE; rw [if_pos (by omega)]
  have HE := Lib.hid hE
  clear hE
  go_enter Try.func27, Try.ntmps27
  go_upto_region 3 with (go_at_call 26; refine (rt_ok _ A n c l 4 _ i (by omega) (by omega) hr2 hn2 (by omega) (by omega)).mono ?_; rintro e w' ⟨rfl, rfl⟩)
  go_upto_region 6 with (go_at_call 26; refine (rt_ok _ A n c l 4 _ (i + 4) (by omega) (by omega) hr2 hn2 (by omega) (by omega)).mono ?_; rintro e w' ⟨rfl, rfl⟩)
  go_upto_region 9 with (go_at_call 26; refine (rt_no _ A n c l 1 _ (i + 8) (by omega) (by omega) hr2 hn2 (by omega) (by omega) (by omega)).mono ?_; rintro e w' ⟨rfl, rfl⟩)
  go_wp2_with (first | (refine wpList_get rfl 41 (.tmp 7) rfl (w.heap.size + 1) rfl 41 zmb _ HB7 Try.underlying41 rfl sizeMb ?_) | (refine wpList_put rfl 41 (.tmp 4) _ rfl w.heap.size zmb.toArray rfl rfl 41 zmb HB4 sizeMb rfl rfl ?_; have HB9 := HB4.row zmb.toArray; have hb9 := hb2.grown (grown_row _ w.heap.size zmb.toArray) hb2.size (fun j hj => by cases hj; exact Nat.le_refl _)))
  refine bodyPost_ret (results_rec3 rfl _ _ _ _ _ rfl HB9 Try.underlying41 rfl sizeMb) rfl ?_
  exact rumP_no 6 HE.out (by decide) rfl hb9
set_option maxHeartbeats 1000000 in
theorem rum_c4 (w : World) (A : Option Addr) (n c : Nat) (l : List UInt8) (i : Nat) (hr : Rd w 1 A n c (bs l)) (hn : n ≤ 140737488355328) (hi : i ≤ n) (h0 : i + 9 ≤ n) (h1 : 3 < vat 1 l (i + 8)) :
    Calls Try.prog 27 #[.slice A n c, .int .i64 i] w (RumP w l i) := by
  have hl := hr.blen
  have hn2 := hn
  have hb2 := below_alloc (below_new w (.cells zmb.toArray 41)) (.cells zmb.toArray 41)
  have HB4 := (Blk.new w 41 zmb.toArray).alloc (.cells zmb.toArray 41)
  have HB7 := Blk.new (w.alloc (.cells zmb.toArray 41)) 41 zmb.toArray
  rw [World.size_alloc] at HB7
  have hr2 := hr.below hb2
  have hE : rumE l i = 170 := by unfold rumE; rw [if_neg (by omega), if_pos h1]
  have HE := Lib.hid hE
  clear hE
  go_enter Try.func27, Try.ntmps27
  go_upto_region 3 with (go_at_call 26; refine (rt_ok _ A n c l 4 _ i (by omega) (by omega) hr2 hn2 (by omega) (by omega)).mono ?_; rintro e w' ⟨rfl, rfl⟩)
  go_upto_region 6 with (go_at_call 26; refine (rt_ok _ A n c l 4 _ (i + 4) (by omega) (by omega) hr2 hn2 (by omega) (by omega)).mono ?_; rintro e w' ⟨rfl, rfl⟩)
  go_upto_region 9 with (go_at_call 26; refine (rt_ok _ A n c l 1 _ (i + 8) (by omega) (by omega) hr2 hn2 (by omega) (by omega)).mono ?_; rintro e w' ⟨rfl, rfl⟩)
  go_wp2_with (first | (refine wpList_get rfl 41 (.tmp 7) rfl (w.heap.size + 1) rfl 41 zmb _ HB7 Try.underlying41 rfl sizeMb ?_) | (refine wpList_put rfl 41 (.tmp 4) _ rfl w.heap.size zmb.toArray rfl rfl 41 zmb HB4 sizeMb rfl rfl ?_; have HB9 := HB4.row zmb.toArray; have hb9 := hb2.grown (grown_row _ w.heap.size zmb.toArray) hb2.size (fun j hj => by cases hj; exact Nat.le_refl _)))
  refine bodyPost_ret (results_rec3 rfl _ _ _ _ _ rfl HB9 Try.underlying41 rfl sizeMb) rfl ?_
  exact rumP_no 170 HE.out (by decide) rfl hb9
set_option maxHeartbeats 1000000 in
theorem rum_c5 (w : World) (A : Option Addr) (n c : Nat) (l : List UInt8) (i : Nat) (hr : Rd w 1 A n c (bs l)) (hn : n ≤ 140737488355328) (hi : i ≤ n) (h0 : i + 9 ≤ n) (h1 : ¬ 3 < vat 1 l (i + 8)) (h2 : n < i + 11) :
    Calls Try.prog 27 #[.slice A n c, .int .i64 i] w (RumP w l i) := by
  have hl := hr.blen
  have hn2 := hn
  have hb2 := below_alloc (below_new w (.cells zmb.toArray 41)) (.cells zmb.toArray 41)
  have HB4 := (Blk.new w 41 zmb.toArray).alloc (.cells zmb.toArray 41)
  have HB7 := Blk.new (w.alloc (.cells zmb.toArray 41)) 41 zmb.toArray
  rw [World.size_alloc] at HB7
  have hr2 := hr.below hb2
  have hE : rumE l i = 6 := by unfold rumE; rw [if_neg (by omega), if_neg h1, if_pos (by omega)]
  have HE := Lib.hid hE
  clear hE
  go_enter Try.func27, Try.ntmps27
  go_upto_region 3 with (go_at_call 26; refine (rt_ok _ A n c l 4 _ i (by omega) (by omega) hr2 hn2 (by omega) (by omega)).mono ?_; rintro e w' ⟨rfl, rfl⟩)
  go_upto_region 6 with (go_at_call 26; refine (rt_ok _ A n c l 4 _ (i + 4) (by omega) (by omega) hr2 hn2 (by omega) (by omega)).mono ?_; rintro e w' ⟨rfl, rfl⟩)
  go_upto_region 9 with (go_at_call 26; refine (rt_ok _ A n c l 1 _ (i + 8) (by omega) (by omega) hr2 hn2 (by omega) (by omega)).mono ?_; rintro e w' ⟨rfl, rfl⟩)
  go_upto_region 14 with (go_at_call 26; refine (rt_no _ A n c l 2 _ (i + 9) (by omega) (by omega) hr2 hn2 (by omega) (by omega) (by omega)).mono ?_; rintro e w' ⟨rfl, rfl⟩)
  go_wp2_with (first | (refine wpList_get rfl 41 (.tmp 7) rfl (w.heap.size + 1) rfl 41 zmb _ HB7 Try.underlying41 rfl sizeMb ?_) | (refine wpList_put rfl 41 (.tmp 4) _ rfl w.heap.size zmb.toArray rfl rfl 41 zmb HB4 sizeMb rfl rfl ?_; have HB9 := HB4.row zmb.toArray; have hb9 := hb2.grown (grown_row _ w.heap.size zmb.toArray) hb2.size (fun j hj => by cases hj; exact Nat.le_refl _)))
  refine bodyPost_ret (results_rec3 rfl _ _ _ _ _ rfl HB9 Try.underlying41 rfl sizeMb) rfl ?_
  exact rumP_no 6 HE.out (by decide) rfl hb9
set_option maxHeartbeats 1000000 in
theorem rum_c6 (w : World) (A : Option Addr) (n c : Nat) (l : List UInt8) (i : Nat) (hr : Rd w 1 A n c (bs l)) (hn : n ≤ 140737488355328) (hi : i ≤ n) (h0 : i + 11 ≤ n) (h1 : ¬ 3 < vat 1 l (i + 8)) (h2 : 400 < vat 2 l (i + 9)) :
    Calls Try.prog 27 #[.slice A n c, .int .i64 i] w (RumP w l i) := by
  have hl := hr.blen
  have hn2 := hn
  have hb2 := below_alloc (below_new w (.cells zmb.toArray 41)) (.cells zmb.toArray 41)
  have HB4 := (Blk.new w 41 zmb.toArray).alloc (.cells zmb.toArray 41)
  have HB7 := Blk.new (w.alloc (.cells zmb.toArray 41)) 41 zmb.toArray
  rw [World.size_alloc] at HB7
  have hr2 := hr.below hb2
  have hE : rumE l i = 170 := by unfold rumE; rw [if_neg (by omega), if_neg h1, if_neg (by omega), if_pos h2]
  have HE := Lib.hid hE
  clear hE
  go_enter Try.func27, Try.ntmps27
  go_upto_region 3 with (go_at_call 26; refine (rt_ok _ A n c l 4 _ i (by omega) (by omega) hr2 hn2 (by omega) (by omega)).mono ?_; rintro e w' ⟨rfl, rfl⟩)
  go_upto_region 6 with (go_at_call 26; refine (rt_ok _ A n c l 4 _ (i + 4) (by omega) (by omega) hr2 hn2 (by omega) (by omega)).mono ?_; rintro e w' ⟨rfl, rfl⟩)
  go_upto_region 9 with (go_at_call 26; refine (rt_ok _ A n c l 1 _ (i + 8) (by omega) (by omega) hr2 hn2 (by omega) (by omega)).mono ?_; rintro e w' ⟨rfl, rfl⟩)
  go_upto_region 14 with (go_at_call 26; refine (rt_ok _ A n c l 2 _ (i + 9) (by omega) (by omega) hr2 hn2 (by omega) (by omega)).mono ?_; rintro e w' ⟨rfl, rfl⟩)
  go_wp2_with (first | (refine wpList_get rfl 41 (.tmp 7) rfl (w.heap.size + 1) rfl 41 zmb _ HB7 Try.underlying41 rfl sizeMb ?_) | (refine wpList_put rfl 41 (.tmp 4) _ rfl w.heap.size zmb.toArray rfl rfl 41 zmb HB4 sizeMb rfl rfl ?_; have HB9 := HB4.row zmb.toArray; have hb9 := hb2.grown (grown_row _ w.heap.size zmb.toArray) hb2.size (fun j hj => by cases hj; exact Nat.le_refl _)))
  refine bodyPost_ret (results_rec3 rfl _ _ _ _ _ rfl HB9 Try.underlying41 rfl sizeMb) rfl ?_
  exact rumP_no 170 HE.out (by decide) rfl hb9
set_option maxHeartbeats 1000000 in
theorem rum_c7 (w : World) (A : Option Addr) (n c : Nat) (l : List UInt8) (i : Nat) (hr : Rd w 1 A n c (bs l)) (hn : n ≤ 140737488355328) (hi : i ≤ n) (h0 : i + 11 ≤ n) (h1 : ¬ 3 < vat 1 l (i + 8)) (h2 : ¬ 400 < vat 2 l (i + 9)) (h3 : (n : Int) < ((i + 11 : Nat) : Int) + vat 2 l (i + 9)) :
    Calls Try.prog 27 #[.slice A n c, .int .i64 i] w (RumP w l i) := by
  have hl := hr.blen
  have hn2 := hn
  have hb2 := below_alloc (below_new w (.cells zmb.toArray 41)) (.cells zmb.toArray 41)
  have HB4 := (Blk.new w 41 zmb.toArray).alloc (.cells zmb.toArray 41)
  have HB7 := Blk.new (w.alloc (.cells zmb.toArray 41)) 41 zmb.toArray
  rw [World.size_alloc] at HB7
  have hr2 := hr.below hb2
  have hE : rumE l i = 6 := by unfold rumE; rw [if_neg (by omega), if_neg h1, if_neg (by omega), if_neg h2, if_pos (by omega)]
  have HE := Lib.hid hE
  clear hE
  have v0 := vat_nonneg 2 l (i + 9)
  go_enter Try.func27, Try.ntmps27
  go_upto_region 3 with (go_at_call 26; refine (rt_ok _ A n c l 4 _ i (by omega) (by omega) hr2 hn2 (by omega) (by omega)).mono ?_; rintro e w' ⟨rfl, rfl⟩)
  go_upto_region 6 with (go_at_call 26; refine (rt_ok _ A n c l 4 _ (i + 4) (by omega) (by omega) hr2 hn2 (by omega) (by omega)).mono ?_; rintro e w' ⟨rfl, rfl⟩)
  go_upto_region 9 with (go_at_call 26; refine (rt_ok _ A n c l 1 _ (i + 8) (by omega) (by omega) hr2 hn2 (by omega) (by omega)).mono ?_; rintro e w' ⟨rfl, rfl⟩)
  go_upto_region 14 with (go_at_call 26; refine (rt_ok _ A n c l 2 _ (i + 9) (by omega) (by omega) hr2 hn2 (by omega) (by omega)).mono ?_; rintro e w' ⟨rfl, rfl⟩)
  go_wp2_with (first | (refine wpList_get rfl 41 (.tmp 7) rfl (w.heap.size + 1) rfl 41 zmb _ HB7 Try.underlying41 rfl sizeMb ?_) | (refine wpList_put rfl 41 (.tmp 4) _ rfl w.heap.size zmb.toArray rfl rfl 41 zmb HB4 sizeMb rfl rfl ?_; have HB9 := HB4.row zmb.toArray; have hb9 := hb2.grown (grown_row _ w.heap.size zmb.toArray) hb2.size (fun j hj => by cases hj; exact Nat.le_refl _)))
  refine bodyPost_ret (results_rec3 rfl _ _ _ _ _ rfl HB9 Try.underlying41 rfl sizeMb) rfl ?_
  exact rumP_no 6 HE.out (by decide) rfl hb9
set_option maxHeartbeats 1000000 in
theorem rum_ok (w : World) (A : Option Addr) (n c : Nat) (l : List UInt8) (i : Nat) (hr : Rd w 1 A n c (bs l)) (hn : n ≤ 140737488355328) (hi : i ≤ n) (h0 : i + 11 ≤ n) (h1 : ¬ 3 < vat 1 l (i + 8)) (h2 : ¬ 400 < vat 2 l (i + 9)) (h3 : ¬ (n : Int) < ((i + 11 : Nat) : Int) + vat 2 l (i + 9)) :
    Calls Try.prog 27 #[.slice A n c, .int .i64 i] w (RumP w l i) := by
  have hl := hr.blen
  have hn2 := hn
  have hb2 := below_alloc (below_new w (.cells zmb.toArray 41)) (.cells zmb.toArray 41)
  have HB4 := (Blk.new w 41 zmb.toArray).alloc (.cells zmb.toArray 41)
  have HB7 := Blk.new (w.alloc (.cells zmb.toArray 41)) 41 zmb.toArray
  rw [World.size_alloc] at HB7
  have hr2 := hr.below hb2
  have hE : rumE l i = 0 := by unfold rumE; rw [if_neg (by omega), if_neg h1, if_neg (by omega), if_neg h2, if_neg (by omega)]
  have v0 := vat_nonneg 2 l (i + 9)
  obtain ⟨K, hK⟩ : ∃ K : Nat, vat 2 l (i + 9) = (K : Int) := ⟨(vat 2 l (i + 9)).toNat, by omega⟩
  have v1 := vat_nonneg 1 l (i + 8)
  have hM : rumM l i = ⟨vat 4 l i, vat 4 l (i + 4), vat 1 l (i + 8), str ((l.drop (i + 11)).take K)⟩ := by unfold rumM; rw [hK]; rfl
  have hN : (rumN l i : Int) = (i : Int) + 11 + (K : Int) := by unfold rumN; rw [hK]; omega
  have hKn : i + 11 + K ≤ n := by omega
  have hK4 : (K : Int) ≤ 400 := by omega
  have HE := Lib.hid (And.intro hE (And.intro hM hN))
  clear hE hM hN h2 h3 v0
  have HS := hr2.bcutO (i + 11) K c hKn (by have := hr.le; omega) (Nat.le_refl _)
  obtain ⟨X, hX⟩ : ∃ X, str ((l.drop (i + 11)).take K) = X := ⟨_, rfl⟩
  have hcv := run_conv_str (P := Try.prog) _ (dst := 9) Try.underlying27 Try.underlying5 Try.underlying9 HS
  rw [hX] at hcv HE
  clear hX HS
  have hnc := hr.le
  go_enter Try.func27, Try.ntmps27
  go_upto_region 3 with (go_at_call 26; refine (rt_ok _ A n c l 4 _ i (by omega) (by omega) hr2 hn2 (by omega) (by omega)).mono ?_; rintro e w' ⟨rfl, rfl⟩)
  go_upto_region 6 with (go_at_call 26; refine (rt_ok _ A n c l 4 _ (i + 4) (by omega) (by omega) hr2 hn2 (by omega) (by omega)).mono ?_; rintro e w' ⟨rfl, rfl⟩)
  go_upto_region 9 with (go_at_call 26; refine (rt_ok _ A n c l 1 _ (i + 8) (by omega) (by omega) hr2 hn2 (by omega) (by omega)).mono ?_; rintro e w' ⟨rfl, rfl⟩)
  go_upto_region 14 with (go_at_call 26; refine (rt_ok _ A n c l 2 _ (i + 9) (by omega) (by omega) hr2 hn2 (by omega) (by omega)).mono ?_; rintro e w' ⟨rfl, rfl⟩)
  have hfin : ∀ e W', e = Ending.returned (.tuple #[.agg #[.int .u32 (vat 4 l i), .int .u32 (vat 4 l (i + 4)), .int .u8 (vat 1 l (i + 8)), .string X], .int .i64 ((i : Int) + 4 + 4 + 1 + 2 + (K : Int)), .int .i64 0]) → Below w.heap.size w W' → RumP w l i e W' := fun e W' he hb => rumP_ok HE.out.1 (by rw [HE.out.2.2]; omega) (by rw [HE.out.2.1]; rfl) he hb
  have HFIN := Lib.hid hfin
  clear hfin
  go_wp2_with (first | (refine wpList_cut rfl 27 5 (.tmp 71) (.tmp 72) (.tmp 76) rfl Try.underlying27 (size := 1) (by kernel_rfl) A n c rfl rfl rfl (i + 11) K (by omega) (by omega) (by omega) ?_) | (refine wpList_put rfl 41 (.tmp 4) _ rfl w.heap.size #[.int .u32 (vat 4 l i), .int .u32 (vat 4 l (i + 4)), .int .u8 (vat 1 l (i + 8)), .string X] rfl rfl 41 zmb HB4 sizeMb rfl rfl ?_; have HB9 := HB4.row #[.int .u32 (vat 4 l i), .int .u32 (vat 4 l (i + 4)), .int .u8 (vat 1 l (i + 8)), .string X]; have hb9 := hb2.grown (grown_row _ w.heap.size #[.int .u32 (vat 4 l i), .int .u32 (vat 4 l (i + 4)), .int .u8 (vat 1 l (i + 8)), .string X]) hb2.size (fun j hj => by cases hj; exact Nat.le_refl _)))
  refine bodyPost_ret (results_rec3 rfl _ _ _ _ _ rfl HB9 Try.underlying41 rfl sizeMb) rfl ?_
  exact HFIN.out _ _ rfl hb9
theorem rumor_ (w : World) (A : Option Addr) (n c : Nat) (l : List UInt8) (i : Nat) (hr : Rd w 1 A n c (bs l)) (hn : n ≤ 140737488355328) (hi : i ≤ n) : Calls Try.prog 27 #[.slice A n c, .int .i64 i] w (RumP w l i) := by
  have hl := hr.blen
  by_cases c1 : n < i + 4
  · exact rum_c1 w A n c l i hr hn hi c1
  by_cases c2 : n < i + 8
  · exact rum_c2 w A n c l i hr hn hi (by omega) c2
  by_cases c3 : n < i + 9
  · exact rum_c3 w A n c l i hr hn hi (by omega) c3
  by_cases c4 : 3 < vat 1 l (i + 8)
  · exact rum_c4 w A n c l i hr hn hi (by omega) c4
  by_cases c5 : n < i + 11
  · exact rum_c5 w A n c l i hr hn hi (by omega) c4 c5
  by_cases c6 : 400 < vat 2 l (i + 9)
  · exact rum_c6 w A n c l i hr hn hi (by omega) c4 c6
  by_cases c7 : (n : Int) < ((i + 11 : Nat) : Int) + vat 2 l (i + 9)
  · exact rum_c7 w A n c l i hr hn hi (by omega) c4 c6 c7
  · exact rum_ok w A n c l i hr hn hi (by omega) c4 c6 c7
end Go.Proofs.Ytijpfhgcdncmhaa
