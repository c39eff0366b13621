/- gossip: the document's Unpack, walked whole; GossipUnpacks. -/
import Derived.Test.YtijpfhgcdncmhaaGQ
namespace Go.Proofs.Ytijpfhgcdncmhaa
open Go.RowKit Go.HL
set_option linter.unusedVariables false
set_option linter.unusedSimpArgs false

theorem unpE_hd {l : List UInt8} (h : ¬ 16384 < l.length) (h0 : hdE l ≠ 0) : unpE l = hdE l := by unfold unpE; rw [if_neg h, if_neg h0]
theorem cell0 {w : World} {ad : Addr} {n c : Nat} {l : List UInt8} (hr : Rd w 1 (some ad) n c (bs l)) (hn : 0 < n) : w.cell? ad = some (.int .u8 (vat 1 l 0)) := by
  have hl := hr.blen
  have h := hr.cells ad rfl 0 (.int .u8 ((l.getD 0 0).toNat : Int)) (bs_get l 0 (by omega))
  rw [Addr.add_zero'] at h
  rw [h]
  unfold vat
  rw [val_take1 l 0 (by omega)]
set_option maxHeartbeats 1000000 in
theorem run_e0 (w : World) (A : Option Addr) (n c : Nat) (l : List UInt8) (hr : Rd w 1 A n c (bs l)) (h : 16384 < n) : Calls Try.prog 12 #[.slice A n c] w (UnpP w l) := by
  have hl := hr.blen
  have hb2 := below_alloc (below_new w (.cells #[.int .u8 0, .int .u32 0, .int .u32 0, .slice none 0 0] 26)) (.cells #[.int .u8 0, .int .u32 0, .int .u32 0, .slice none 0 0] 26)
  have HB2 := (Blk.new w 26 #[.int .u8 0, .int .u32 0, .int .u32 0, .slice none 0 0]).alloc (.cells #[.int .u8 0, .int .u32 0, .int .u32 0, .slice none 0 0] 26)
  have HB4 := Blk.new (w.alloc (.cells #[.int .u8 0, .int .u32 0, .int .u32 0, .slice none 0 0] 26)) 26 #[.int .u8 0, .int .u32 0, .int .u32 0, .slice none 0 0]
  rw [World.size_alloc] at HB4
  have hr2 := hr.below hb2
  have h' : (16384 : Int) < (n : Int) := by omega
  have HE := Lib.hid (show unpE l = 2 by unfold unpE; rw [if_pos (by omega)])
  go_enter Try.func12, Try.ntmps12
  go_wp2_with (first | (refine wpList_get rfl 26 (.tmp 4) rfl (w.heap.size + 1) rfl 26 zpk _ HB4 Try.underlying26 rfl sizePk ?_) | (refine wpList_put rfl 26 (.tmp 2) _ rfl w.heap.size zpk.toArray rfl rfl 26 zpk HB2 sizePk rfl rfl ?_; have HB9 := HB2.row zpk.toArray; have hb9 := hb2.grown (grown_row _ w.heap.size zpk.toArray) hb2.size (fun j hj => by cases hj; exact Nat.le_refl _)))
  refine bodyPost_ret (results_rec rfl _ _ _ _ _ rfl HB9 Try.underlying26 rfl sizePk) rfl ?_
  exact unpP_no 2 HE.out (by decide) rfl hb9
set_option maxHeartbeats 1000000 in
theorem run_e1 (w : World) (A : Option Addr) (n c : Nat) (l : List UInt8) (hr : Rd w 1 A n c (bs l)) (h : n < 1) : Calls Try.prog 12 #[.slice A n c] w (UnpP w l) := by
  have hl := hr.blen
  have hb2 := below_alloc (below_new w (.cells #[.int .u8 0, .int .u32 0, .int .u32 0, .slice none 0 0] 26)) (.cells #[.int .u8 0, .int .u32 0, .int .u32 0, .slice none 0 0] 26)
  have HB2 := (Blk.new w 26 #[.int .u8 0, .int .u32 0, .int .u32 0, .slice none 0 0]).alloc (.cells #[.int .u8 0, .int .u32 0, .int .u32 0, .slice none 0 0] 26)
  have HB4 := Blk.new (w.alloc (.cells #[.int .u8 0, .int .u32 0, .int .u32 0, .slice none 0 0] 26)) 26 #[.int .u8 0, .int .u32 0, .int .u32 0, .slice none 0 0]
  rw [World.size_alloc] at HB4
  have hr2 := hr.below hb2
  have h1 : ¬ (16384 : Int) < (n : Int) := by omega
  have h2 : (n : Int) < 1 := by omega
  have HE := Lib.hid (show unpE l = 6 by
    have hd : hdE l = 6 := by unfold hdE; rw [if_pos (by omega)]
    rw [unpE_hd (by omega) (by rw [hd]; decide), hd])
  go_enter Try.func12, Try.ntmps12
  go_wp2_with (first | (refine wpList_get rfl 26 (.tmp 4) rfl (w.heap.size + 1) rfl 26 zpk _ HB4 Try.underlying26 rfl sizePk ?_) | (refine wpList_put rfl 26 (.tmp 2) _ rfl w.heap.size zpk.toArray rfl rfl 26 zpk HB2 sizePk rfl rfl ?_; have HB9 := HB2.row zpk.toArray; have hb9 := hb2.grown (grown_row _ w.heap.size zpk.toArray) hb2.size (fun j hj => by cases hj; exact Nat.le_refl _)))
  refine bodyPost_ret (results_rec rfl _ _ _ _ _ rfl HB9 Try.underlying26 rfl sizePk) rfl ?_
  exact unpP_no 6 HE.out (by decide) rfl hb9
set_option maxHeartbeats 1000000 in
theorem run_e2 (w : World) (ad : Addr) (n c : Nat) (l : List UInt8) (hr : Rd w 1 (some ad) n c (bs l)) (hn0 : 0 < n) (hn' : ¬ 16384 < n) (h0 : headB (vat 1 l 0) 0 = false) :
    Calls Try.prog 12 #[.slice (some ad) n c] w (UnpP w l) := by
  have hl := hr.blen
  have hb2 := below_alloc (below_new w (.cells #[.int .u8 0, .int .u32 0, .int .u32 0, .slice none 0 0] 26)) (.cells #[.int .u8 0, .int .u32 0, .int .u32 0, .slice none 0 0] 26)
  have HB2 := (Blk.new w 26 #[.int .u8 0, .int .u32 0, .int .u32 0, .slice none 0 0]).alloc (.cells #[.int .u8 0, .int .u32 0, .int .u32 0, .slice none 0 0] 26)
  have HB4 := Blk.new (w.alloc (.cells #[.int .u8 0, .int .u32 0, .int .u32 0, .slice none 0 0] 26)) 26 #[.int .u8 0, .int .u32 0, .int .u32 0, .slice none 0 0]
  rw [World.size_alloc] at HB4
  have hr2 := hr.below hb2
  have hE : unpE l = 190 := by
    have hd : hdE l = 190 := by unfold hdE; rw [if_neg (by omega), if_pos h0]
    rw [unpE_hd (by omega) (by rw [hd]; decide), hd]
  have HE := Lib.hid hE
  clear hE
  have hn2 : n ≤ 140737488355328 := by omega
  have hn3 : ¬ (16384 : Int) < (n : Int) := by omega
  have hn4 : ¬ (n : Int) < 1 := by omega
  have hn5 : (0 : Int) < (n : Int) := by omega
  have hc0 := cell0 hr2 hn0
  clear hn'
  go_enter Try.func12, Try.ntmps12
  go_wp2_with (first | (go_at_call 18; refine (rhead_ _ _ _).mono ?_; rintro e w' ⟨rfl, rfl⟩) | (refine wpList_get rfl 26 (.tmp 4) rfl (w.heap.size + 1) rfl 26 zpk _ HB4 Try.underlying26 rfl sizePk ?_) | (refine wpList_put rfl 26 (.tmp 2) _ rfl w.heap.size zpk.toArray rfl rfl 26 zpk HB2 sizePk rfl rfl ?_; have HB9 := HB2.row zpk.toArray; have hb9 := hb2.grown (grown_row _ w.heap.size zpk.toArray) hb2.size (fun j hj => by cases hj; exact Nat.le_refl _)))
  refine bodyPost_ret (results_rec rfl _ _ _ _ _ rfl HB9 Try.underlying26 rfl sizePk) rfl ?_
  exact unpP_no 190 HE.out (by decide) rfl hb9
set_option maxHeartbeats 1000000 in
theorem run_e3 (w : World) (ad : Addr) (n c : Nat) (l : List UInt8) (hr : Rd w 1 (some ad) n c (bs l)) (hn0 : 0 < n) (hn' : ¬ 16384 < n) (h0 : headB (vat 1 l 0) 0 = true) (h1 : n < 5) :
    Calls Try.prog 12 #[.slice (some ad) n c] w (UnpP w l) := by
  have hl := hr.blen
  have hb2 := below_alloc (below_new w (.cells #[.int .u8 0, .int .u32 0, .int .u32 0, .slice none 0 0] 26)) (.cells #[.int .u8 0, .int .u32 0, .int .u32 0, .slice none 0 0] 26)
  have HB2 := (Blk.new w 26 #[.int .u8 0, .int .u32 0, .int .u32 0, .slice none 0 0]).alloc (.cells #[.int .u8 0, .int .u32 0, .int .u32 0, .slice none 0 0] 26)
  have HB4 := Blk.new (w.alloc (.cells #[.int .u8 0, .int .u32 0, .int .u32 0, .slice none 0 0] 26)) 26 #[.int .u8 0, .int .u32 0, .int .u32 0, .slice none 0 0]
  rw [World.size_alloc] at HB4
  have hr2 := hr.below hb2
  have hE : unpE l = 6 := by
    have hd : hdE l = 6 := by unfold hdE; rw [if_neg (by omega), if_neg (by rw [h0]; decide), if_pos (by omega)]
    rw [unpE_hd (by omega) (by rw [hd]; decide), hd]
  have HE := Lib.hid hE
  clear hE
  have hn2 : n ≤ 140737488355328 := by omega
  have hn3 : ¬ (16384 : Int) < (n : Int) := by omega
  have hn4 : ¬ (n : Int) < 1 := by omega
  have hn5 : (0 : Int) < (n : Int) := by omega
  have hc0 := cell0 hr2 hn0
  clear hn'
  go_enter Try.func12, Try.ntmps12
  go_upto_region 8 with (go_at_call 18; refine (rhead_ _ _ _).mono ?_; rintro e w' ⟨rfl, rfl⟩)
  go_wp2_with (first | (go_at_call 26; refine (rt_no _ (some ad) n c l 4 _ 1 (by omega) (by omega) hr2 hn2 (by omega) (by omega) (by omega)).mono ?_; rintro e w' ⟨rfl, rfl⟩) | (refine wpList_get rfl 26 (.tmp 4) rfl (w.heap.size + 1) rfl 26 zpk _ HB4 Try.underlying26 rfl sizePk ?_) | (refine wpList_put rfl 26 (.tmp 2) _ rfl w.heap.size zpk.toArray rfl rfl 26 zpk HB2 sizePk rfl rfl ?_; have HB9 := HB2.row zpk.toArray; have hb9 := hb2.grown (grown_row _ w.heap.size zpk.toArray) hb2.size (fun j hj => by cases hj; exact Nat.le_refl _)))
  refine bodyPost_ret (results_rec rfl _ _ _ _ _ rfl HB9 Try.underlying26 rfl sizePk) rfl ?_
  exact unpP_no 6 HE.out (by decide) rfl hb9
set_option maxHeartbeats 1000000 in
theorem run_e4 (w : World) (ad : Addr) (n c : Nat) (l : List UInt8) (hr : Rd w 1 (some ad) n c (bs l)) (hn0 : 0 < n) (hn' : ¬ 16384 < n) (h0 : headB (vat 1 l 0) 0 = true) (h1 : 5 ≤ n) (h2 : n < 9) :
    Calls Try.prog 12 #[.slice (some ad) n c] w (UnpP w l) := by
  have hl := hr.blen
  have hb2 := below_alloc (below_new w (.cells #[.int .u8 0, .int .u32 0, .int .u32 0, .slice none 0 0] 26)) (.cells #[.int .u8 0, .int .u32 0, .int .u32 0, .slice none 0 0] 26)
  have HB2 := (Blk.new w 26 #[.int .u8 0, .int .u32 0, .int .u32 0, .slice none 0 0]).alloc (.cells #[.int .u8 0, .int .u32 0, .int .u32 0, .slice none 0 0] 26)
  have HB4 := Blk.new (w.alloc (.cells #[.int .u8 0, .int .u32 0, .int .u32 0, .slice none 0 0] 26)) 26 #[.int .u8 0, .int .u32 0, .int .u32 0, .slice none 0 0]
  rw [World.size_alloc] at HB4
  have hr2 := hr.below hb2
  have hE : unpE l = 6 := by
    have hd : hdE l = 6 := by unfold hdE; rw [if_neg (by omega), if_neg (by rw [h0]; decide), if_pos (by omega)]
    rw [unpE_hd (by omega) (by rw [hd]; decide), hd]
  have HE := Lib.hid hE
  clear hE
  have hn2 : n ≤ 140737488355328 := by omega
  have hn3 : ¬ (16384 : Int) < (n : Int) := by omega
  have hn4 : ¬ (n : Int) < 1 := by omega
  have hn5 : (0 : Int) < (n : Int) := by omega
  have hc0 := cell0 hr2 hn0
  clear hn'
  go_enter Try.func12, Try.ntmps12
  go_upto_region 8 with (go_at_call 18; refine (rhead_ _ _ _).mono ?_; rintro e w' ⟨rfl, rfl⟩)
  go_upto_region 11 with (go_at_call 26; refine (rt_ok _ (some ad) n c l 4 _ 1 (by omega) (by omega) hr2 hn2 (by omega) (by omega)).mono ?_; rintro e w' ⟨rfl, rfl⟩)
  go_wp2_with (first | (go_at_call 26; refine (rt_no _ (some ad) n c l 4 _ 5 (by omega) (by omega) hr2 hn2 (by omega) (by omega) (by omega)).mono ?_; rintro e w' ⟨rfl, rfl⟩) | (refine wpList_get rfl 26 (.tmp 4) rfl (w.heap.size + 1) rfl 26 zpk _ HB4 Try.underlying26 rfl sizePk ?_) | (refine wpList_put rfl 26 (.tmp 2) _ rfl w.heap.size zpk.toArray rfl rfl 26 zpk HB2 sizePk rfl rfl ?_; have HB9 := HB2.row zpk.toArray; have hb9 := hb2.grown (grown_row _ w.heap.size zpk.toArray) hb2.size (fun j hj => by cases hj; exact Nat.le_refl _)))
  refine bodyPost_ret (results_rec rfl _ _ _ _ _ rfl HB9 Try.underlying26 rfl sizePk) rfl ?_
  exact unpP_no 6 HE.out (by decide) rfl hb9
set_option maxHeartbeats 1000000 in
theorem run_e5 (w : World) (ad : Addr) (n c : Nat) (l : List UInt8) (hr : Rd w 1 (some ad) n c (bs l)) (hn0 : 0 < n) (hn' : ¬ 16384 < n) (h0 : headB (vat 1 l 0) 0 = true) (h1 : 9 ≤ n) (h2 : headB (vat 1 l 0) (vat 4 l 5) = false) :
    Calls Try.prog 12 #[.slice (some ad) n c] w (UnpP w l) := by
  have hl := hr.blen
  have hb2 := below_alloc (below_new w (.cells #[.int .u8 0, .int .u32 0, .int .u32 0, .slice none 0 0] 26)) (.cells #[.int .u8 0, .int .u32 0, .int .u32 0, .slice none 0 0] 26)
  have HB2 := (Blk.new w 26 #[.int .u8 0, .int .u32 0, .int .u32 0, .slice none 0 0]).alloc (.cells #[.int .u8 0, .int .u32 0, .int .u32 0, .slice none 0 0] 26)
  have HB4 := Blk.new (w.alloc (.cells #[.int .u8 0, .int .u32 0, .int .u32 0, .slice none 0 0] 26)) 26 #[.int .u8 0, .int .u32 0, .int .u32 0, .slice none 0 0]
  rw [World.size_alloc] at HB4
  have hr2 := hr.below hb2
  have hE : unpE l = 190 := by
    have hd : hdE l = 190 := by unfold hdE; rw [if_neg (by omega), if_neg (by rw [h0]; decide), if_neg (by omega), if_pos h2]
    rw [unpE_hd (by omega) (by rw [hd]; decide), hd]
  have HE := Lib.hid hE
  clear hE
  have hn2 : n ≤ 140737488355328 := by omega
  have hn3 : ¬ (16384 : Int) < (n : Int) := by omega
  have hn4 : ¬ (n : Int) < 1 := by omega
  have hn5 : (0 : Int) < (n : Int) := by omega
  have hc0 := cell0 hr2 hn0
  clear hn'
  go_enter Try.func12, Try.ntmps12
  go_upto_region 8 with (go_at_call 18; refine (rhead_ _ _ _).mono ?_; rintro e w' ⟨rfl, rfl⟩)
  go_upto_region 11 with (go_at_call 26; refine (rt_ok _ (some ad) n c l 4 _ 1 (by omega) (by omega) hr2 hn2 (by omega) (by omega)).mono ?_; rintro e w' ⟨rfl, rfl⟩)
  go_upto_region 14 with (go_at_call 26; refine (rt_ok _ (some ad) n c l 4 _ 5 (by omega) (by omega) hr2 hn2 (by omega) (by omega)).mono ?_; rintro e w' ⟨rfl, rfl⟩)
  go_wp2_with (first | (go_at_call 18; refine (rhead_ _ _ _).mono ?_; rintro e w' ⟨rfl, rfl⟩) | (refine wpList_get rfl 26 (.tmp 4) rfl (w.heap.size + 1) rfl 26 zpk _ HB4 Try.underlying26 rfl sizePk ?_) | (refine wpList_put rfl 26 (.tmp 2) _ rfl w.heap.size zpk.toArray rfl rfl 26 zpk HB2 sizePk rfl rfl ?_; have HB9 := HB2.row zpk.toArray; have hb9 := hb2.grown (grown_row _ w.heap.size zpk.toArray) hb2.size (fun j hj => by cases hj; exact Nat.le_refl _)))
  refine bodyPost_ret (results_rec rfl _ _ _ _ _ rfl HB9 Try.underlying26 rfl sizePk) rfl ?_
  exact unpP_no 190 HE.out (by decide) rfl hb9
set_option maxHeartbeats 1000000 in
theorem run_e6 (w : World) (ad : Addr) (n c : Nat) (l : List UInt8) (hr : Rd w 1 (some ad) n c (bs l)) (hn0 : 0 < n) (hn' : ¬ 16384 < n) (h0 : headB (vat 1 l 0) 0 = true) (h1 : 9 ≤ n) (h2 : headB (vat 1 l 0) (vat 4 l 5) = true) (h3 : n < 10) :
    Calls Try.prog 12 #[.slice (some ad) n c] w (UnpP w l) := by
  have hl := hr.blen
  have hb2 := below_alloc (below_new w (.cells #[.int .u8 0, .int .u32 0, .int .u32 0, .slice none 0 0] 26)) (.cells #[.int .u8 0, .int .u32 0, .int .u32 0, .slice none 0 0] 26)
  have HB2 := (Blk.new w 26 #[.int .u8 0, .int .u32 0, .int .u32 0, .slice none 0 0]).alloc (.cells #[.int .u8 0, .int .u32 0, .int .u32 0, .slice none 0 0] 26)
  have HB4 := Blk.new (w.alloc (.cells #[.int .u8 0, .int .u32 0, .int .u32 0, .slice none 0 0] 26)) 26 #[.int .u8 0, .int .u32 0, .int .u32 0, .slice none 0 0]
  rw [World.size_alloc] at HB4
  have hr2 := hr.below hb2
  have hE : unpE l = 6 := by
    have hd : hdE l = 6 := by unfold hdE; rw [if_neg (by omega), if_neg (by rw [h0]; decide), if_neg (by omega), if_neg (by rw [h2]; decide), if_pos (by omega)]
    rw [unpE_hd (by omega) (by rw [hd]; decide), hd]
  have HE := Lib.hid hE
  clear hE
  have hn2 : n ≤ 140737488355328 := by omega
  have hn3 : ¬ (16384 : Int) < (n : Int) := by omega
  have hn4 : ¬ (n : Int) < 1 := by omega
  have hn5 : (0 : Int) < (n : Int) := by omega
  have hc0 := cell0 hr2 hn0
  clear hn'
  go_enter Try.func12, Try.ntmps12
  go_upto_region 8 with (go_at_call 18; refine (rhead_ _ _ _).mono ?_; rintro e w' ⟨rfl, rfl⟩)
  go_upto_region 11 with (go_at_call 26; refine (rt_ok _ (some ad) n c l 4 _ 1 (by omega) (by omega) hr2 hn2 (by omega) (by omega)).mono ?_; rintro e w' ⟨rfl, rfl⟩)
  go_upto_region 14 with (go_at_call 26; refine (rt_ok _ (some ad) n c l 4 _ 5 (by omega) (by omega) hr2 hn2 (by omega) (by omega)).mono ?_; rintro e w' ⟨rfl, rfl⟩)
  go_upto_region 16 with (go_at_call 18; refine (rhead_ _ _ _).mono ?_; rintro e w' ⟨rfl, rfl⟩)
  go_wp2_with (first | (go_at_call 26; refine (rt_no _ (some ad) n c l 1 _ 9 (by omega) (by omega) hr2 hn2 (by omega) (by omega) (by omega)).mono ?_; rintro e w' ⟨rfl, rfl⟩) | (refine wpList_get rfl 26 (.tmp 4) rfl (w.heap.size + 1) rfl 26 zpk _ HB4 Try.underlying26 rfl sizePk ?_) | (refine wpList_put rfl 26 (.tmp 2) _ rfl w.heap.size zpk.toArray rfl rfl 26 zpk HB2 sizePk rfl rfl ?_; have HB9 := HB2.row zpk.toArray; have hb9 := hb2.grown (grown_row _ w.heap.size zpk.toArray) hb2.size (fun j hj => by cases hj; exact Nat.le_refl _)))
  refine bodyPost_ret (results_rec rfl _ _ _ _ _ rfl HB9 Try.underlying26 rfl sizePk) rfl ?_
  exact unpP_no 6 HE.out (by decide) rfl hb9
set_option maxHeartbeats 1000000 in
theorem run_e7 (w : World) (ad : Addr) (n c : Nat) (l : List UInt8) (hr : Rd w 1 (some ad) n c (bs l)) (hn0 : 0 < n) (hn' : ¬ 16384 < n) (h0 : headB (vat 1 l 0) 0 = true) (h1 : 10 ≤ n) (h2 : headB (vat 1 l 0) (vat 4 l 5) = true) (h3 : 32 < vat 1 l 9) :
    Calls Try.prog 12 #[.slice (some ad) n c] w (UnpP w l) := by
  have hl := hr.blen
  have hb2 := below_alloc (below_new w (.cells #[.int .u8 0, .int .u32 0, .int .u32 0, .slice none 0 0] 26)) (.cells #[.int .u8 0, .int .u32 0, .int .u32 0, .slice none 0 0] 26)
  have HB2 := (Blk.new w 26 #[.int .u8 0, .int .u32 0, .int .u32 0, .slice none 0 0]).alloc (.cells #[.int .u8 0, .int .u32 0, .int .u32 0, .slice none 0 0] 26)
  have HB4 := Blk.new (w.alloc (.cells #[.int .u8 0, .int .u32 0, .int .u32 0, .slice none 0 0] 26)) 26 #[.int .u8 0, .int .u32 0, .int .u32 0, .slice none 0 0]
  rw [World.size_alloc] at HB4
  have hr2 := hr.below hb2
  have hE : unpE l = 2 := by
    have hd : hdE l = 2 := by unfold hdE; rw [if_neg (by omega), if_neg (by rw [h0]; decide), if_neg (by omega), if_neg (by rw [h2]; decide), if_neg (by omega), if_pos h3]
    rw [unpE_hd (by omega) (by rw [hd]; decide), hd]
  have HE := Lib.hid hE
  clear hE
  have hn2 : n ≤ 140737488355328 := by omega
  have hn3 : ¬ (16384 : Int) < (n : Int) := by omega
  have hn4 : ¬ (n : Int) < 1 := by omega
  have hn5 : (0 : Int) < (n : Int) := by omega
  have hc0 := cell0 hr2 hn0
  clear hn'
  go_enter Try.func12, Try.ntmps12
  go_upto_region 8 with (go_at_call 18; refine (rhead_ _ _ _).mono ?_; rintro e w' ⟨rfl, rfl⟩)
  go_upto_region 11 with (go_at_call 26; refine (rt_ok _ (some ad) n c l 4 _ 1 (by omega) (by omega) hr2 hn2 (by omega) (by omega)).mono ?_; rintro e w' ⟨rfl, rfl⟩)
  go_upto_region 14 with (go_at_call 26; refine (rt_ok _ (some ad) n c l 4 _ 5 (by omega) (by omega) hr2 hn2 (by omega) (by omega)).mono ?_; rintro e w' ⟨rfl, rfl⟩)
  go_upto_region 16 with (go_at_call 18; refine (rhead_ _ _ _).mono ?_; rintro e w' ⟨rfl, rfl⟩)
  go_wp2_with (first | (go_at_call 26; refine (rt_ok _ (some ad) n c l 1 _ 9 (by omega) (by omega) hr2 hn2 (by omega) (by omega)).mono ?_; rintro e w' ⟨rfl, rfl⟩) | (refine wpList_get rfl 26 (.tmp 4) rfl (w.heap.size + 1) rfl 26 zpk _ HB4 Try.underlying26 rfl sizePk ?_) | (refine wpList_put rfl 26 (.tmp 2) _ rfl w.heap.size zpk.toArray rfl rfl 26 zpk HB2 sizePk rfl rfl ?_; have HB9 := HB2.row zpk.toArray; have hb9 := hb2.grown (grown_row _ w.heap.size zpk.toArray) hb2.size (fun j hj => by cases hj; exact Nat.le_refl _)))
  refine bodyPost_ret (results_rec rfl _ _ _ _ _ rfl HB9 Try.underlying26 rfl sizePk) rfl ?_
  exact unpP_no 2 HE.out (by decide) rfl hb9
set_option maxRecDepth 100000 in
set_option maxHeartbeats 4000000 in
theorem run_main (w : World) (ad : Addr) (n c : Nat) (l : List UInt8) (hr : Rd w 1 (some ad) n c (bs l)) (hn0 : 0 < n) (hn' : ¬ 16384 < n) (h0 : headB (vat 1 l 0) 0 = true) (h1 : 10 ≤ n) (h2 : headB (vat 1 l 0) (vat 4 l 5) = true) (h3 : ¬ 32 < vat 1 l 9) :
    Calls Try.prog 12 #[.slice (some ad) n c] w (UnpP w l) := by
  have hl := hr.blen
  have hb2 := below_alloc (below_new w (.cells #[.int .u8 0, .int .u32 0, .int .u32 0, .slice none 0 0] 26)) (.cells #[.int .u8 0, .int .u32 0, .int .u32 0, .slice none 0 0] 26)
  have HB2 := (Blk.new w 26 #[.int .u8 0, .int .u32 0, .int .u32 0, .slice none 0 0]).alloc (.cells #[.int .u8 0, .int .u32 0, .int .u32 0, .slice none 0 0] 26)
  have HB4 := Blk.new (w.alloc (.cells #[.int .u8 0, .int .u32 0, .int .u32 0, .slice none 0 0] 26)) 26 #[.int .u8 0, .int .u32 0, .int .u32 0, .slice none 0 0]
  rw [World.size_alloc] at HB4
  have hr2 := hr.below hb2
  have hd0 := Lib.hid ((hdE_zero l).2 ⟨by omega, h2, by omega⟩)
  have hn6 := Lib.hid hn'
  have hn2 : n ≤ 140737488355328 := by omega
  have hn3 : ¬ (16384 : Int) < (n : Int) := by omega
  have hn4 : ¬ (n : Int) < 1 := by omega
  have hn5 : (0 : Int) < (n : Int) := by omega
  have hc0 := cell0 hr2 hn0
  clear hn'
  go_enter Try.func12, Try.ntmps12
  go_upto_region 8 with (go_at_call 18; refine (rhead_ _ _ _).mono ?_; rintro e w' ⟨rfl, rfl⟩)
  go_upto_region 11 with (go_at_call 26; refine (rt_ok _ (some ad) n c l 4 _ 1 (by omega) (by omega) hr2 hn2 (by omega) (by omega)).mono ?_; rintro e w' ⟨rfl, rfl⟩)
  go_upto_region 14 with (go_at_call 26; refine (rt_ok _ (some ad) n c l 4 _ 5 (by omega) (by omega) hr2 hn2 (by omega) (by omega)).mono ?_; rintro e w' ⟨rfl, rfl⟩)
  go_upto_region 16 with (go_at_call 18; refine (rhead_ _ _ _).mono ?_; rintro e w' ⟨rfl, rfl⟩)
  have v9 := vat_nonneg 1 l 9
  obtain ⟨Q, hQ⟩ : ∃ Q : Nat, vat 1 l 9 = (Q : Int) := ⟨(vat 1 l 9).toNat, by omega⟩
  rw [hQ] at h3
  have hQ32 : (Q : Int) ≤ 32 := by omega
  go_upto_region 19 with (go_at_call 26; refine (rt_ok _ (some ad) n c l 1 _ 9 (by omega) (by omega) hr2 hn2 (by omega) (by omega)).mono ?_; rintro e w' ⟨rfl, rfl⟩)
  have HQ9 := Lib.hid hQ
  clear hQ v9
  obtain ⟨B, hB⟩ : ∃ B, w.heap.size = B := ⟨_, rfl⟩
  have hB' : w.heap.size ≤ B := by omega
  rw [hB] at HB2 HB4 ⊢
  obtain ⟨W2, hW⟩ : ∃ x, (w.alloc (.cells #[.int .u8 0, .int .u32 0, .int .u32 0, .slice none 0 0] 26)).alloc (.cells #[.int .u8 0, .int .u32 0, .int .u32 0, .slice none 0 0] 26) = x := ⟨_, rfl⟩
  rw [hW] at HB2 HB4 hr2 hb2 hc0 ⊢
  have hsz : B + 1 + 1 ≤ W2.heap.size := by rw [← hW, World.size_alloc, World.size_alloc]; omega
  clear hW
  go_wp2
  go_loopw [6, 10, 11] (fun u6 u10 u11 wr => ∃ (j i : Nat) (X : List Mb) (Ax : Option Addr) (cx : Nat), j ≤ Q ∧ u11 = .int .i64 j ∧ u6 = .int .i64 i ∧ u10 = .slice Ax j cx ∧ i ≤ n ∧ Below (B + 2) W2 wr ∧ wr.ownsRow (B + 2) 41 4 (.slice Ax j cx) j (mbs X) ∧ Hid (rums l Q 10 = (X ++ (rums l (Q - j) i).1, (rums l (Q - j) i).2))) (fun _ _ u11 _ => Q - (intOf u11).toNat)
  case atStart => exact ⟨0, 10, [], none, 0, Nat.zero_le _, rfl, rfl, rfl, h1, Below.refl _ _, World.ownsRow_nil _ _ _ _, Lib.hid rfl⟩
  case round =>
    obtain ⟨j, i, X, Ax, cx, hj, rfl, rfl, rfl, hi, hbr, HOX, HQ⟩ := hrel
    have hk : ∀ {g : Nat} {t : TypeId} {cs : List Value}, Blk W2 g t cs → g < B + 2 → Blk wr g t cs := fun hb' hg => (hbr.block _ hg).trans hb'
    have HR2 := hk HB2 (by omega)
    have HR4 := hk HB4 (by omega)
    have hbw : Below w.heap.size w wr := hb2.trans ⟨hbr.os, hbr.tape, hbr.output, hbr.size, fun k hk => hbr.block k (by omega)⟩
    have hbf := hbw.grown (grown_row wr B zpk.toArray) hbw.size (fun j hj => by cases hj; omega)
    have hrr := hr.below hbw
    have hcr := cell0 hrr hn0
    have hbase : B + 2 ≤ wr.heap.size := Nat.le_trans hsz hbr.size
    clear hk
    by_cases hlt : j < Q
    · have hlt' : (j : Int) < (Q : Int) := by omega
      have hR := rumor_ wr (some ad) n c l i hrr hn2 hi
      unfold RumP rumV rumP at hR
      by_cases h7 : rumE l i = 0
      · rw [if_pos h7, if_pos h7, h7] at hR
        obtain ⟨m, hm⟩ : ∃ m, rumM l i = m := ⟨_, rfl⟩
        obtain ⟨i', hi'⟩ : ∃ m, rumN l i = m := ⟨_, rfl⟩
        have hle' := rumN_le h7
        rw [hi'] at hR hle'
        rw [hm] at hR
        unfold Mb.val at hR
        have HM := Lib.hid (And.intro h7 (And.intro hm hi'))
        clear h7 hm hi'
        go_upto_region 28 with (go_at_call 27; refine hR.mono ?_; clear hR; rintro e w3 ⟨rfl, hb3⟩)
        have HO4 := (own_below HOX hb3).kept (World.grownBy_alloc w3 (.cells #[.int .u32 m.ad, .int .u32 m.inc, .int .u8 m.st, .string m.me] 41) none) (by cases (Value.slice Ax j cx).ownBlock <;> simp)
        have HBm := Blk.new w3 41 #[.int .u32 m.ad, .int .u32 m.inc, .int .u8 m.st, .string m.me]
        have hb4 : Below (B + 2) wr (w3.alloc (.cells #[.int .u32 m.ad, .int .u32 m.inc, .int .u8 m.st, .string m.me] 41)) := by
          have h := below_alloc hb3 (.cells #[.int .u32 m.ad, .int .u32 m.inc, .int .u8 m.st, .string m.me] 41)
          exact ⟨h.os, h.tape, h.output, h.size, fun k hk => h.block k (by omega)⟩
        obtain ⟨W4, hW⟩ : ∃ x, w3.alloc (.cells #[.int .u32 m.ad, .int .u32 m.inc, .int .u8 m.st, .string m.me] 41) = x := ⟨_, rfl⟩
        obtain ⟨gm, hgm⟩ : ∃ x, w3.heap.size = x := ⟨_, rfl⟩
        rw [hW] at HO4 HBm hb4 ⊢
        rw [hgm] at HBm ⊢
        clear hW hgm hb3
        have hbase4 : B + 2 ≤ W4.heap.size := Nat.le_trans hbase hb4.size
        go_wp2_with (first | (refine wpList_get rfl 41 (.tmp 12) rfl gm rfl 41 [.int .u32 m.ad, .int .u32 m.inc, .int .u8 m.st, .string m.me] _ HBm Try.underlying41 rfl sizeMb ?_) | (refine wpList_app (w0 := W4) _ (B + 2) rfl (.tmp 85) (.tmp 87) 24 24 41 (.agg #[.int .u32 0, .int .u32 0, .int .u8 0, .string ⟨#[]⟩]) 4 32 rfl Try.underlying24 info_mb rfl (by decide) (by decide) (.slice Ax j cx) j (mbs X) rfl (.own (own_below HO4 (below_new _ _))) _ 1 m.cells rfl (.slice (rd_box _ m) (by intro u hu; simp [Mb.cells] at hu; rcases hu with rfl | rfl | rfl | rfl <;> rfl)) ((Below.refl _ _).alloc hbase4 _) (by rw [World.size_alloc]; omega) (by omega) ?_; intro v1 w1 _ ho1 hb1 hg1; have ho2 := ho1 (.inl (by decide)); clear ho1; obtain ⟨A1, c1, rfl, _⟩ := own_rd ho2; clear hg1))
        have O11 : w1.ownsRow (B + 2) 41 4 (.slice A1 (j + 1) c1) (j + 1) (mbs (X ++ [m])) := by
          rw [mbs_append]
          simpa [mbs] using ho2
        go_roundw
        case rel => exact ⟨j + 1, i', X ++ [m], A1, c1, by omega, by go_num, rfl, rfl, by omega, (hbr.trans hb4).trans hb1, O11, step_ok hlt HM.out.1 HM.out.2.1.symm HM.out.2.2.symm HQ⟩
        case measure => simp [intOf]; omega
      · rw [if_neg h7, if_neg h7] at hR
        have hE := step_no hlt h7 HQ (by have := hn6.out; omega) hd0.out HQ9.out.symm
        obtain ⟨x, hx⟩ : ∃ x, rumE l i = x := ⟨_, rfl⟩
        rw [hx] at hE hR h7
        have hne : (x != 0) = true := by simpa using h7
        have HE := Lib.hid hE
        clear hE hx
        go_upto_region 27 with (go_at_call 27; refine hR.mono ?_; clear hR; rintro e w3 ⟨rfl, hb3⟩)
        have HX2 := (HR2.below hb3).alloc (.cells #[.int .u32 0, .int .u32 0, .int .u8 0, .string ⟨#[]⟩] 41)
        have HX4 := (HR4.below hb3).alloc (.cells #[.int .u32 0, .int .u32 0, .int .u8 0, .string ⟨#[]⟩] 41)
        have hbx := below_alloc (below_trans hbw hb3) (.cells #[.int .u32 0, .int .u32 0, .int .u8 0, .string ⟨#[]⟩] 41)
        have hbg := hbx.grown (grown_row _ B zpk.toArray) hbx.size (fun j hj => by cases hj; omega)
        go_wp2_with (first | (refine wpList_get rfl 26 (.tmp 4) rfl (B + 1) rfl 26 zpk _ HX4 Try.underlying26 rfl sizePk ?_) | (refine wpList_put rfl 26 (.tmp 2) _ rfl B zpk.toArray rfl rfl 26 zpk HX2 sizePk rfl rfl ?_; have HB9 := Blk.row HX2 zpk.toArray))
        refine bodyPost_ret (results_rec rfl _ _ _ _ _ rfl HB9 Try.underlying26 rfl sizePk) rfl ?_
        exact unpP_no x HE.out h7 rfl hbg
    · have hlt' : ¬ (j : Int) < (Q : Int) := by omega
      have hq3 : rums l Q 10 = (X, i, 0) := by
        have hq2 := HQ.out
        rw [show Q - j = 0 by omega] at hq2
        rw [hq2]; simp [rums]
      have hqn : (vat 1 l 9).toNat = Q := by rw [HQ9.out]; rfl
      by_cases hin : i = n
      · have hun : unpE l = 0 := by
          unfold unpE
          rw [if_neg (by have := hn6.out; omega), if_pos hd0.out, hqn, hq3]
          dsimp only
          rw [if_pos rfl, if_pos (by omega)]
        have hrX := (own_rd HOX)
        have hbO := hbw.grown (grown_row wr B #[.int .u8 (vat 1 l 0), .int .u32 (vat 4 l 1), .int .u32 (vat 4 l 5), .slice Ax j cx]) hbw.size (fun j hj => by cases hj; omega)
        have HB9 := HR2.row #[.int .u8 (vat 1 l 0), .int .u32 (vat 4 l 1), .int .u32 (vat 4 l 5), .slice Ax j cx]
        have hfin : ∀ e, e = Ending.returned (.tuple #[pkVal (vat 1 l 0) (vat 4 l 1) (vat 4 l 5) Ax j cx, .int .i64 0]) → UnpP w l e (wr.setRow B #[.int .u8 (vat 1 l 0), .int .u32 (vat 4 l 1), .int .u32 (vat 4 l 5), .slice Ax j cx]) := fun e he => by
          obtain ⟨A', c', he', hr'⟩ := hrX
          cases he'
          refine unpP_ok hun rfl rfl rfl (by rw [hqn, hq3]) he (rd_grown hr' (grown_row wr B _) (fun a ha h => ?_)) hbO
          have := (HOX.lt a.block (by rw [ha]; rfl)).1
          simp at h
          omega
        have HFIN := Lib.hid hfin
        clear hfin hrX hun hqn hq3 hbO hd0
        have hii : ((i : Int) != (n : Int)) = false := by simp [hin]
        subst hin
        go_wp2_with (refine wpList_put rfl 26 (.tmp 2) _ rfl B #[.int .u8 (vat 1 l 0), .int .u32 (vat 4 l 1), .int .u32 (vat 4 l 5), .slice Ax j cx] rfl rfl 26 zpk HR2 sizePk rfl rfl ?_)
        refine bodyPost_ret (results_rec rfl _ _ _ _ _ rfl HB9 Try.underlying26 rfl sizePk) rfl ?_
        exact HFIN.out _ rfl
      · have hun : unpE l = 60 := by
          unfold unpE
          rw [if_neg (by have := hn6.out; omega), if_pos hd0.out, hqn, hq3]
          dsimp only
          rw [if_pos rfl, if_neg (by omega)]
        have hin' : ((i : Int) != (n : Int)) = true := by simp; omega
        have HE := Lib.hid hun
        clear hun hqn hq3
        go_wp2_with (first | (refine wpList_get rfl 26 (.tmp 4) rfl (B + 1) rfl 26 zpk _ HR4 Try.underlying26 rfl sizePk ?_) | (refine wpList_put rfl 26 (.tmp 2) _ rfl B zpk.toArray rfl rfl 26 zpk HR2 sizePk rfl rfl ?_; have HB9 := Blk.row HR2 zpk.toArray))
        refine bodyPost_ret (results_rec rfl _ _ _ _ _ rfl HB9 Try.underlying26 rfl sizePk) rfl ?_
        exact unpP_no 60 HE.out (by decide) rfl hbf
end Go.Proofs.Ytijpfhgcdncmhaa
