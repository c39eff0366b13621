/- Names in small letters: name.Fold, hearsayref01.Fold: contracts. -/
import Derived.Test.YtioehogncgloiaaNA
import Derived.Lib.ConvBytes
namespace Go.Proofs.Ytioehogncgloiaa
open Go.RowKit Go.HL
set_option linter.unusedVariables false
set_option linter.unusedSimpArgs false
/-- A byte in small letters. -/
def lowB (b : UInt8) : UInt8 := if 65 ≤ b.toNat ∧ b.toNat ≤ 90 then UInt8.ofNat (b.toNat + 32) else b
def lowI (b : Int) : Int := if 65 ≤ b ∧ b ≤ 90 then b + 32 else b
theorem lowB_toNat (b : UInt8) : ((lowB b).toNat : Int) = lowI b.toNat := by
  unfold lowB lowI
  split
  · rename_i h
    rw [if_pos (by omega), UInt8.toNat_ofNat']
    omega
  · rename_i h
    rw [if_neg (by omega)]
theorem lowB_idem (b : UInt8) : lowB (lowB b) = lowB b := by
  unfold lowB
  split
  · rename_i h
    have : (UInt8.ofNat (b.toNat + 32)).toNat = b.toNat + 32 := by rw [UInt8.toNat_ofNat']; omega
    rw [if_neg (by rw [this]; omega)]
  · rfl
/-- A name in small letters. -/
def foldS (s : ByteArray) : ByteArray := str (s.data.toList.map lowB)
theorem foldS_size (s : ByteArray) : (foldS s).size = s.size := by unfold foldS; rw [str_size]; simp
theorem foldS_idem (s : ByteArray) : foldS (foldS s) = foldS s := by
  unfold foldS
  rw [str_toList, List.map_map]
  congr 1
  apply List.map_congr_left
  intro b _
  exact lowB_idem b
theorem _root_.List.set_getElem?_self' {α : Type} {l : List α} {i : Nat} {a : α} (h : l[i]? = some a) : l.set i a = l := by
  obtain ⟨h1, h2⟩ := List.getElem?_eq_some_iff.1 h
  rw [← h2]
  exact List.set_getElem_self h1
theorem low_step {l : List UInt8} {k : Nat} {b : UInt8} (h : l[k]? = some b) : ((l.take k).map lowB ++ l.drop k).set k (lowB b) = (l.take (k + 1)).map lowB ++ l.drop (k + 1) := by
  obtain ⟨h2, h3⟩ := List.getElem?_eq_some_iff.1 h
  have hlen : ((l.take k).map lowB).length = k := by rw [List.length_map, List.length_take]; omega
  rw [List.set_append, hlen, if_neg (Nat.lt_irrefl k), Nat.sub_self, List.take_succ_eq_append_getElem h2, List.drop_eq_getElem_cons h2, h3]
  simp
/-- Bytes in a row of a conversion's. -/
def Cv (w : World) (g n : Nat) (l : List UInt8) : Prop := ∃ (cur : Array Value) (m : Nat), w.heap[g]? = some (.cells cur 5 (m, m + 1)) ∧ n ≤ m ∧ cur.size = m ∧ l.length = n ∧ cur.toList.take n = bs l
theorem Cv.cell {w : World} {g n : Nat} {l : List UInt8} (h : Cv w g n l) (j : Nat) (b : UInt8) (hb : l[j]? = some b) : w.cell? ⟨g, j, none⟩ = some (.int .u8 (b.toNat : Int)) := by
  obtain ⟨cur, m, h1, h2, h3, h4, h5⟩ := h
  have hj := (List.getElem?_eq_some_iff.1 hb).1
  have h6 : (bs l)[j]? = some (.int .u8 (b.toNat : Int)) := by simp [bs, hb]
  rw [← h5, List.getElem?_take, if_pos (by omega)] at h6
  rw [cell_of_row w g j _ _ _ h1]
  simpa using h6
theorem Cv.free {w : World} {g n : Nat} {l : List UInt8} (h : Cv w g n l) (j : Nat) (hj : j < n) : w.frozen? ⟨g, j, none⟩ = false := by
  obtain ⟨cur, m, h1, h2, h3, h4, h5⟩ := h
  simp [World.frozen?, h1]
  omega
theorem Cv.set {w : World} {g n : Nat} {l : List UInt8} (h : Cv w g n l) (j : Nat) (b : UInt8) (hj : j < n) : Cv (w.setCell ⟨g, j, none⟩ (.int .u8 (b.toNat : Int))) g n (l.set j b) := by
  obtain ⟨cur, m, h1, h2, h3, h4, h5⟩ := h
  have hlt := (Array.getElem?_eq_some_iff.1 h1).1
  refine ⟨cur.set! j (.int .u8 (b.toNat : Int)), m, ?_, h2, by simpa using h3, by simpa using h4, ?_⟩
  · have h1' := (Array.getElem?_eq_some_iff.1 h1).2
    simp only [World.setCell]
    rw [Array.getElem?_modify, if_pos rfl, h1]
    simp
  · simp only [Array.set!_eq_setIfInBounds, Array.toList_setIfInBounds]
    rw [List.take_set, h5]
    simp [bs, List.map_set]
theorem Cv.rd {w : World} {g n : Nat} {l : List UInt8} (h : Cv w g n l) (c : Nat) (hc : n ≤ c) : Rd w 1 (some ⟨g, 0, none⟩) n c (bs l) := by
  have h0 := h
  obtain ⟨cur, m, h1, h2, h3, h4, h5⟩ := h
  refine ⟨by rw [bs_length, h4]; omega, fun ha => (by cases ha), hc, fun a ha j u hu => ?_⟩
  cases ha
  rw [add_plain]
  have hj : j < l.length := by have := (List.getElem?_eq_some_iff.1 hu).1; rwa [bs_length] at this
  rw [h0.cell j l[j] (List.getElem?_eq_getElem hj)]
  rw [← hu]
  simp [bs, hj]
theorem Cv.new (w : World) (s : ByteArray) : Cv (Lib.bytesWorld w 5 s) w.heap.size s.size s.data.toList := by
  have h := Lib.bytesWorld_at_new w 5 s
  refine ⟨_, _, h, ?_, rfl, by simp, ?_⟩
  · unfold Lib.bytesCells
    have : s.data.size = s.size := rfl
    simp
  · unfold Lib.bytesCells
    rw [Array.toList_append, List.take_left' (by simp)]
    simp [bs]
theorem below_bytes (w : World) (s : ByteArray) : Below w.heap.size w (Lib.bytesWorld w 5 s) := by
  refine ⟨?_, ?_, ?_, by rw [Lib.bytesWorld_size]; omega, fun i hi => Lib.bytesWorld_at_old w _ s i hi⟩ <;> simp [Lib.bytesWorld, World.freeze, World.alloc, World.drew, -World.alloc_eq, -World.drew_eq]
theorem below_setCell {n : Nat} {w w' : World} (h : Below n w w') (a : Addr) (v : Value) (ha : n ≤ a.block) : Below n w (w'.setCell a v) := by
  obtain ⟨h1, h2, h3, h4, h5⟩ := h
  refine ⟨h1, h2, h3, by simpa [World.setCell] using h4, fun i hi => ?_⟩
  rw [← h5 i hi]
  simp only [World.setCell]
  rw [Array.getElem?_modify, if_neg (by omega)]
theorem or32 (b : Int) (h1 : 65 ≤ b) (h2 : b ≤ 90) : bits .or .u8 b 32 = b + 32 := by
  have : b = 65 ∨ b = 66 ∨ b = 67 ∨ b = 68 ∨ b = 69 ∨ b = 70 ∨ b = 71 ∨ b = 72 ∨ b = 73 ∨ b = 74 ∨ b = 75 ∨ b = 76 ∨ b = 77 ∨ b = 78 ∨ b = 79 ∨ b = 80 ∨ b = 81 ∨ b = 82 ∨ b = 83 ∨ b = 84 ∨ b = 85 ∨ b = 86 ∨ b = 87 ∨ b = 88 ∨ b = 89 ∨ b = 90 := by omega
  rcases this with h | h | h | h | h | h | h | h | h | h | h | h | h | h | h | h | h | h | h | h | h | h | h | h | h | h <;> (subst h; decide +kernel)
theorem low_ (w : World) (b : Int) (h0 : 0 ≤ b) (h1 : b < 256) : Calls Try.prog 49 #[.int .u8 b] w fun e w' => e = .returned (.int .u8 (lowI b)) ∧ w' = w := by
  go_enter Try.func49, Try.ntmps49
  by_cases h2 : 65 ≤ b
  · by_cases h3 : b ≤ 90
    · have e : lowI b = b + 32 := by unfold lowI; rw [if_pos ⟨h2, h3⟩]
      have ho := or32 b h2 h3
      rw [e]
      go_wp2
      go_ret
      exact ⟨rfl, rfl⟩
    · have e : lowI b = b := by unfold lowI; rw [if_neg (by omega)]
      rw [e]
      go_wp2
      go_ret
      exact ⟨rfl, rfl⟩
  · have e : lowI b = b := by unfold lowI; rw [if_neg (by omega)]
    rw [e]
    go_wp2
    go_ret
    exact ⟨rfl, rfl⟩
theorem fold_ (w : World) (s : ByteArray) (hs : s.size ≤ 140737488355328) : Calls Try.prog 33 #[.string s] w (fun e w' => e = .returned (.string (foldS s)) ∧ Below w.heap.size w w') := by
  have hconv := Lib.run_convert_string_bytes (P := Try.prog) w 22 99 5 s Try.underlying22 Try.underlying99 Try.underlying5
  have hnew := Cv.new w s
  have hbn := below_bytes w s
  have hcap := grownCap_ge w s.size 0 5
  have hbs := hbn.size
  obtain ⟨c, hc⟩ : ∃ c, grownCap w s.size 0 5 = c := ⟨_, rfl⟩
  obtain ⟨W1, hW1⟩ : ∃ x, Lib.bytesWorld w 5 s = x := ⟨_, rfl⟩
  rw [hc] at hconv hcap
  rw [hW1] at hconv hnew hbn
  obtain ⟨n, hn⟩ : ∃ n, s.size = n := ⟨_, rfl⟩
  rw [hn] at hconv hnew hcap hs
  obtain ⟨l, hl⟩ : ∃ l, s.data.toList = l := ⟨_, rfl⟩
  have hfold : foldS s = str (l.map lowB) := by unfold foldS; rw [hl]
  rw [hl] at hnew
  have hll : l.length = n := by rw [← hl, ← hn]; simp
  obtain ⟨g, hg⟩ : ∃ g, w.heap.size = g := ⟨_, rfl⟩
  rw [hg] at hconv hnew
  rw [hfold]
  clear hW1 hc hbs hfold
  go_enter Try.func33, Try.ntmps33
  go_wp2
  clear hconv
  go_loopw [10] (fun i wr => ∃ k : Nat, k ≤ n ∧ i = .int .i64 k ∧ Cv wr g n ((l.take k).map lowB ++ l.drop k) ∧ Below w.heap.size w wr) (fun i _ => n - (intOf i).toNat)
  case atStart => exact ⟨0, Nat.zero_le _, rfl, by simpa using hnew, hbn⟩
  case round =>
    obtain ⟨k, hk, rfl, hcv, hb⟩ := hrel
    by_cases hlt : k < n
    · obtain ⟨b, hbk⟩ : ∃ b, l[k]? = some b := ⟨l[k], List.getElem?_eq_getElem (by omega)⟩
      have hat : ((l.take k).map lowB ++ l.drop k)[k]? = some b := by
        rw [List.getElem?_append_right (by simp; omega), List.length_map, List.length_take, Nat.min_eq_left (by omega), List.getElem?_drop]
        simpa using hbk
      have hcell := hcv.cell k b hat
      have hfree := hcv.free k hlt
      have hb2 : b.toNat < 256 := b.toNat_lt
      have hlow := fun W => low_ W (b.toNat : Int) (by omega) (by omega)
      have hset := hcv.set k (lowB b) hlt
      rw [← lowB_toNat] at hlow
      go_wp2_with (go_at_call 49; refine (hlow _).mono ?_; rintro e w1 ⟨rfl, rfl⟩)
      go_roundw
      case rel =>
        refine ⟨k + 1, by omega, by go_num, ?_, below_setCell hb _ _ (by show _ ≤ g; omega)⟩
        have e := low_step hbk
        rw [← e]
        exact hset
      case measure => simp [intOf]; omega
    · obtain rfl : k = n := by omega
      have hcv2 : Cv wr g k (l.map lowB) := by
        have := hcv
        rwa [List.take_of_length_le (by omega), List.drop_of_length_le (by omega), List.append_nil] at this
      have hrd := hcv2.rd c (by omega)
      have hcs := run_conv_str (P := Try.prog) wr Try.underlying99 Try.underlying5 Try.underlying22 hrd
      go_wp2
      go_ret
      exact ⟨rfl, hb⟩
set_option maxHeartbeats 1000000 in
theorem refLow_ (w : World) (s : ByteArray) (hs : s.size ≤ 140737488355328) : Calls Try.prog 38 #[.string s] w (fun e w' => e = .returned (.string (foldS s)) ∧ Below w.heap.size w w') := by
  have hconv := Lib.run_convert_string_bytes (P := Try.prog) w 9 99 5 s Try.underlying9 Try.underlying99 Try.underlying5
  have hnew := Cv.new w s
  have hbn := below_bytes w s
  have hcap := grownCap_ge w s.size 0 5
  have hbs := hbn.size
  obtain ⟨c, hc⟩ : ∃ c, grownCap w s.size 0 5 = c := ⟨_, rfl⟩
  obtain ⟨W1, hW1⟩ : ∃ x, Lib.bytesWorld w 5 s = x := ⟨_, rfl⟩
  rw [hc] at hconv hcap
  rw [hW1] at hconv hnew hbn
  obtain ⟨n, hn⟩ : ∃ n, s.size = n := ⟨_, rfl⟩
  rw [hn] at hconv hnew hcap hs
  obtain ⟨l, hl⟩ : ∃ l, s.data.toList = l := ⟨_, rfl⟩
  have hfold : foldS s = str (l.map lowB) := by unfold foldS; rw [hl]
  rw [hl] at hnew
  have hll : l.length = n := by rw [← hl, ← hn]; simp
  obtain ⟨g, hg⟩ : ∃ g, w.heap.size = g := ⟨_, rfl⟩
  rw [hg] at hconv hnew
  rw [hfold]
  clear hW1 hc hbs hfold
  go_enter Try.func38, Try.ntmps38
  go_wp2
  clear hconv
  go_loopw [4] (fun i wr => ∃ k : Nat, k ≤ n ∧ i = .int .i64 k ∧ Cv wr g n ((l.take k).map lowB ++ l.drop k) ∧ Below w.heap.size w wr) (fun i _ => n - (intOf i).toNat)
  case atStart => exact ⟨0, Nat.zero_le _, rfl, by simpa using hnew, hbn⟩
  case round =>
    obtain ⟨k, hk, rfl, hcv, hb⟩ := hrel
    by_cases hlt : k < n
    · obtain ⟨b, hbk⟩ : ∃ b, l[k]? = some b := ⟨l[k], List.getElem?_eq_getElem (by omega)⟩
      have hat : ((l.take k).map lowB ++ l.drop k)[k]? = some b := by
        rw [List.getElem?_append_right (by simp; omega), List.length_map, List.length_take, Nat.min_eq_left (by omega), List.getElem?_drop]
        simpa using hbk
      have hcell := hcv.cell k b hat
      have hfree := hcv.free k hlt
      have hb2 : b.toNat < 256 := b.toNat_lt
      have hset := hcv.set k (lowB b) hlt
      rw [lowB_toNat] at hset
      have e := low_step hbk
      rw [e] at hset
      obtain ⟨q, hq⟩ : ∃ q, b.toNat = q := ⟨_, rfl⟩
      rw [hq] at hcell hset hb2
      by_cases h65 : 65 ≤ q
      · have h65' : (65 : Int) ≤ (q : Int) := by omega
        by_cases h90 : q ≤ 90
        · have h90' : (q : Int) ≤ 90 := by omega
          have he : lowI q = (q : Int) + 32 := by unfold lowI; rw [if_pos (by omega)]
          rw [he] at hset
          go_wp2
          go_roundw
          case rel => exact ⟨k + 1, by omega, by go_num, hset, below_setCell hb _ _ (by show _ ≤ g; omega)⟩
          case measure => simp [intOf]; omega
        · have h90' : ¬ (q : Int) ≤ 90 := by omega
          have he : lowB b = b := by unfold lowB; rw [if_neg (by omega)]
          have hsame : Cv wr g n ((l.take (k + 1)).map lowB ++ l.drop (k + 1)) := by
            rw [← e, he, List.set_getElem?_self' hat]
            exact hcv
          go_wp2
          go_roundw
          case rel => exact ⟨k + 1, by omega, by go_num, hsame, hb⟩
          case measure => simp [intOf]; omega
      · have h65' : ¬ (65 : Int) ≤ (q : Int) := by omega
        have he : lowB b = b := by unfold lowB; rw [if_neg (by omega)]
        have hsame : Cv wr g n ((l.take (k + 1)).map lowB ++ l.drop (k + 1)) := by
          rw [← e, he, List.set_getElem?_self' hat]
          exact hcv
        go_wp2
        go_roundw
        case rel => exact ⟨k + 1, by omega, by go_num, hsame, hb⟩
        case measure => simp [intOf]; omega
    · obtain rfl : k = n := by omega
      have hcv2 : Cv wr g k (l.map lowB) := by
        have := hcv
        rwa [List.take_of_length_le (by omega), List.drop_of_length_le (by omega), List.append_nil] at this
      have hrd := hcv2.rd c (by omega)
      have hcs := run_conv_str (P := Try.prog) wr Try.underlying99 Try.underlying5 Try.underlying9 hrd
      go_wp2
      go_ret
      exact ⟨rfl, hb⟩
theorem refFold_ (w : World) (s : ByteArray) (hs : s.size ≤ 140737488355328) : Calls Try.prog 16 #[.string s] w (fun e w' => e = .returned (.string (foldS s)) ∧ Below w.heap.size w w') := by
  go_enter Try.func16, Try.ntmps16
  go_wp2_with (go_at_call 38; refine (refLow_ _ _ hs).mono ?_; rintro e w1 ⟨rfl, hb⟩)
  go_ret
  exact ⟨rfl, hb⟩
end Go.Proofs.Ytioehogncgloiaa
