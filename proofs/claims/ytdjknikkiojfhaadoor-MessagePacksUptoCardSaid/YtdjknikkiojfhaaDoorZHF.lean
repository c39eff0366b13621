import Derived.Test.YtdjknikkiojfhaaDoorZRDA
import Derived.Lib.ConvBytes
import Derived.Test.YtdjknikkiojfhaaDoorZRG
/- Names in small letters: name.Fold, hearsayref01.Fold: contracts. -/
namespace Go.Proofs.YtdjknikkiojfhaaDoor
open Go.RowKit Go.HL
set_option linter.unusedVariables false
set_option linter.unusedSimpArgs false
/-- A byte in small letters. -/
def lowB (b : UInt8) : UInt8 := if 65 ≤ b.toNat ∧ b.toNat ≤ 90 then UInt8.ofNat (b.toNat + 32) else b
def lowI (b : Int) : Int := if 65 ≤ b ∧ b ≤ 90 then b + 32 else b
theorem lowB_toNat (b : UInt8) : ((lowB b).toNat : Int) = lowI b.toNat := by
  unfold lowB lowI
  split
  · rename_i h
    rw [if_pos (by omega), UInt8.toNat_ofNat']
    omega
  · rename_i h
    rw [if_neg (by omega)]
theorem lowB_idem (b : UInt8) : lowB (lowB b) = lowB b := by
  unfold lowB
  split
  · rename_i h
    have : (UInt8.ofNat (b.toNat + 32)).toNat = b.toNat + 32 := by rw [UInt8.toNat_ofNat']; omega
    rw [if_neg (by rw [this]; omega)]
  · rfl
/-- A name in small letters. -/
def foldS (s : ByteArray) : ByteArray := str (s.data.toList.map lowB)
theorem foldS_size (s : ByteArray) : (foldS s).size = s.size := by unfold foldS; rw [str_size]; simp
theorem foldS_idem (s : ByteArray) : foldS (foldS s) = foldS s := by
  unfold foldS
  rw [str_toList, List.map_map]
  congr 1
  apply List.map_congr_left
  intro b _
  exact lowB_idem b
theorem _root_.List.set_getElem?_self' {α : Type} {l : List α} {i : Nat} {a : α} (h : l[i]? = some a) : l.set i a = l := by
  obtain ⟨h1, h2⟩ := List.getElem?_eq_some_iff.1 h
  rw [← h2]
  exact List.set_getElem_self h1
theorem low_step {l : List UInt8} {k : Nat} {b : UInt8} (h : l[k]? = some b) : ((l.take k).map lowB ++ l.drop k).set k (lowB b) = (l.take (k + 1)).map lowB ++ l.drop (k + 1) := by
  obtain ⟨h2, h3⟩ := List.getElem?_eq_some_iff.1 h
  have hlen : ((l.take k).map lowB).length = k := by rw [List.length_map, List.length_take]; omega
  rw [List.set_append, hlen, if_neg (Nat.lt_irrefl k), Nat.sub_self, List.take_succ_eq_append_getElem h2, List.drop_eq_getElem_cons h2, h3]
  simp
/-- Bytes in a row of a conversion's. -/
def Cv (w : World) (g n : Nat) (l : List UInt8) : Prop := ∃ (cur : Array Value) (m : Nat), w.heap[g]? = some (.cells cur 5 (m, m + 1)) ∧ n ≤ m ∧ cur.size = m ∧ l.length = n ∧ cur.toList.take n = bs l
theorem Cv.cell {w : World} {g n : Nat} {l : List UInt8} (h : Cv w g n l) (j : Nat) (b : UInt8) (hb : l[j]? = some b) : w.cell? ⟨g, j, none⟩ = some (.int .u8 (b.toNat : Int)) := by
  obtain ⟨cur, m, h1, h2, h3, h4, h5⟩ := h
  have hj := (List.getElem?_eq_some_iff.1 hb).1
  have h6 : (bs l)[j]? = some (.int .u8 (b.toNat : Int)) := by simp [bs, hb]
  rw [← h5, List.getElem?_take, if_pos (by omega)] at h6
  rw [cell_of_row w g j _ _ _ h1]
  simpa using h6
theorem Cv.free {w : World} {g n : Nat} {l : List UInt8} (h : Cv w g n l) (j : Nat) (hj : j < n) : w.frozen? ⟨g, j, none⟩ = false := by
  obtain ⟨cur, m, h1, h2, h3, h4, h5⟩ := h
  simp [World.frozen?, h1]
  omega
theorem Cv.set {w : World} {g n : Nat} {l : List UInt8} (h : Cv w g n l) (j : Nat) (b : UInt8) (hj : j < n) : Cv (w.setCell ⟨g, j, none⟩ (.int .u8 (b.toNat : Int))) g n (l.set j b) := by
  obtain ⟨cur, m, h1, h2, h3, h4, h5⟩ := h
  have hlt := (Array.getElem?_eq_some_iff.1 h1).1
  refine ⟨cur.set! j (.int .u8 (b.toNat : Int)), m, ?_, h2, by simpa using h3, by simpa using h4, ?_⟩
  · have h1' := (Array.getElem?_eq_some_iff.1 h1).2
    simp only [World.setCell]
    rw [Array.getElem?_modify, if_pos rfl, h1]
    simp
  · simp only [Array.set!_eq_setIfInBounds, Array.toList_setIfInBounds]
    rw [List.take_set, h5]
    simp [bs, List.map_set]
theorem Cv.rd {w : World} {g n : Nat} {l : List UInt8} (h : Cv w g n l) (c : Nat) (hc : n ≤ c) : Rd w 1 (some ⟨g, 0, none⟩) n c (bs l) := by
  have h0 := h
  obtain ⟨cur, m, h1, h2, h3, h4, h5⟩ := h
  refine ⟨by rw [bs_length, h4]; omega, fun ha => (by cases ha), hc, fun a ha j u hu => ?_⟩
  cases ha
  rw [add_plain]
  have hj : j < l.length := by have := (List.getElem?_eq_some_iff.1 hu).1; rwa [bs_length] at this
  rw [h0.cell j l[j] (List.getElem?_eq_getElem hj)]
  rw [← hu]
  simp [bs, hj]
theorem Cv.new (w : World) (s : ByteArray) : Cv (Lib.bytesWorld w 5 s) w.heap.size s.size s.data.toList := by
  have h := Lib.bytesWorld_at_new w 5 s
  refine ⟨_, _, h, ?_, rfl, by simp, ?_⟩
  · unfold Lib.bytesCells
    have : s.data.size = s.size := rfl
    simp
  · unfold Lib.bytesCells
    rw [Array.toList_append, List.take_left' (by simp)]
    simp [bs]
theorem below_bytes (w : World) (s : ByteArray) : Below w.heap.size w (Lib.bytesWorld w 5 s) := by
  refine ⟨?_, ?_, ?_, by rw [Lib.bytesWorld_size]; omega, fun i hi => Lib.bytesWorld_at_old w _ s i hi⟩ <;> simp [Lib.bytesWorld, World.freeze, World.alloc, World.drew, -World.alloc_eq, -World.drew_eq]
theorem below_setCell {n : Nat} {w w' : World} (h : Below n w w') (a : Addr) (v : Value) (ha : n ≤ a.block) : Below n w (w'.setCell a v) := by
  obtain ⟨h1, h2, h3, h4, h5⟩ := h
  refine ⟨h1, h2, h3, by simpa [World.setCell] using h4, fun i hi => ?_⟩
  rw [← h5 i hi]
  simp only [World.setCell]
  rw [Array.getElem?_modify, if_neg (by omega)]
theorem or32 (b : Int) (h1 : 65 ≤ b) (h2 : b ≤ 90) : bits .or .u8 b 32 = b + 32 := by
  have : b = 65 ∨ b = 66 ∨ b = 67 ∨ b = 68 ∨ b = 69 ∨ b = 70 ∨ b = 71 ∨ b = 72 ∨ b = 73 ∨ b = 74 ∨ b = 75 ∨ b = 76 ∨ b = 77 ∨ b = 78 ∨ b = 79 ∨ b = 80 ∨ b = 81 ∨ b = 82 ∨ b = 83 ∨ b = 84 ∨ b = 85 ∨ b = 86 ∨ b = 87 ∨ b = 88 ∨ b = 89 ∨ b = 90 := by omega
  rcases this with h | h | h | h | h | h | h | h | h | h | h | h | h | h | h | h | h | h | h | h | h | h | h | h | h | h <;> (subst h; decide +kernel)
theorem low_ (w : World) (b : Int) (h0 : 0 ≤ b) (h1 : b < 256) : Calls Tryd.prog 80 #[.int .u8 b] w fun e w' => e = .returned (.int .u8 (lowI b)) ∧ w' = w := by
  go_enter Tryd.func80, Tryd.ntmps80
  by_cases h2 : 65 ≤ b
  · by_cases h3 : b ≤ 90
    · have e : lowI b = b + 32 := by unfold lowI; rw [if_pos ⟨h2, h3⟩]
      have ho := or32 b h2 h3
      rw [e]
      go_wp2
      go_ret
      exact ⟨rfl, rfl⟩
    · have e : lowI b = b := by unfold lowI; rw [if_neg (by omega)]
      rw [e]
      go_wp2
      go_ret
      exact ⟨rfl, rfl⟩
  · have e : lowI b = b := by unfold lowI; rw [if_neg (by omega)]
    rw [e]
    go_wp2
    go_ret
    exact ⟨rfl, rfl⟩
theorem fold_ (w : World) (s : ByteArray) (hs : s.size ≤ 140737488355328) : Calls Tryd.prog 56 #[.string s] w (fun e w' => e = .returned (.string (foldS s)) ∧ Below w.heap.size w w') := by
  have hconv := Lib.run_convert_string_bytes (P := Tryd.prog) w 40 27 5 s Tryd.underlying40 Tryd.underlying27 Tryd.underlying5
  have hnew := Cv.new w s
  have hbn := below_bytes w s
  have hcap := grownCap_ge w s.size 0 5
  have hbs := hbn.size
  obtain ⟨c, hc⟩ : ∃ c, grownCap w s.size 0 5 = c := ⟨_, rfl⟩
  obtain ⟨W1, hW1⟩ : ∃ x, Lib.bytesWorld w 5 s = x := ⟨_, rfl⟩
  rw [hc] at hconv hcap
  rw [hW1] at hconv hnew hbn
  obtain ⟨n, hn⟩ : ∃ n, s.size = n := ⟨_, rfl⟩
  rw [hn] at hconv hnew hcap hs
  obtain ⟨l, hl⟩ : ∃ l, s.data.toList = l := ⟨_, rfl⟩
  have hfold : foldS s = str (l.map lowB) := by unfold foldS; rw [hl]
  rw [hl] at hnew
  have hll : l.length = n := by rw [← hl, ← hn]; simp
  obtain ⟨g, hg⟩ : ∃ g, w.heap.size = g := ⟨_, rfl⟩
  rw [hg] at hconv hnew
  rw [hfold]
  clear hW1 hc hbs hfold
  go_enter Tryd.func56, Tryd.ntmps56
  go_wp2
  clear hconv
  go_loopw [10] (fun i wr => ∃ k : Nat, k ≤ n ∧ i = .int .i64 k ∧ Cv wr g n ((l.take k).map lowB ++ l.drop k) ∧ Below w.heap.size w wr) (fun i _ => n - (intOf i).toNat)
  case atStart => exact ⟨0, Nat.zero_le _, rfl, by simpa using hnew, hbn⟩
  case round =>
    obtain ⟨k, hk, rfl, hcv, hb⟩ := hrel
    by_cases hlt : k < n
    · obtain ⟨b, hbk⟩ : ∃ b, l[k]? = some b := ⟨l[k], List.getElem?_eq_getElem (by omega)⟩
      have hat : ((l.take k).map lowB ++ l.drop k)[k]? = some b := by
        rw [List.getElem?_append_right (by simp; omega), List.length_map, List.length_take, Nat.min_eq_left (by omega), List.getElem?_drop]
        simpa using hbk
      have hcell := hcv.cell k b hat
      have hfree := hcv.free k hlt
      have hb2 : b.toNat < 256 := b.toNat_lt
      have hlow := fun W => low_ W (b.toNat : Int) (by omega) (by omega)
      have hset := hcv.set k (lowB b) hlt
      rw [← lowB_toNat] at hlow
      go_wp2_with (go_at_call 80; refine (hlow _).mono ?_; rintro e w1 ⟨rfl, rfl⟩)
      go_roundw
      case rel =>
        refine ⟨k + 1, by omega, by go_num, ?_, below_setCell hb _ _ (by show _ ≤ g; omega)⟩
        have e := low_step hbk
        rw [← e]
        exact hset
      case measure => simp [intOf]; omega
    · obtain rfl : k = n := by omega
      have hcv2 : Cv wr g k (l.map lowB) := by
        have := hcv
        rwa [List.take_of_length_le (by omega), List.drop_of_length_le (by omega), List.append_nil] at this
      have hrd := hcv2.rd c (by omega)
      have hcs := run_conv_str (P := Tryd.prog) wr Tryd.underlying27 Tryd.underlying5 Tryd.underlying40 hrd
      go_wp2
      go_ret
      exact ⟨rfl, hb⟩
end Go.Proofs.YtdjknikkiojfhaaDoor

/- rdata.texts: short texts one behind the other. -/
namespace Go.Proofs.YtdjknikkiojfhaaDoor
open Go.RowKit Go.HL Go.Maps
set_option linter.unusedVariables false
set_option linter.unusedSimpArgs false
/-- Short texts, one behind the other. -/
def txtOk : List UInt8 → Bool
  | [] => true
  | k :: r => if r.length < k.toNat then false else txtOk (r.drop k.toNat)
termination_by l => l.length
decreasing_by simp; omega
def txtV (l : List UInt8) : Bool := txtOk l && !l.isEmpty
theorem txtOk_cons (k : UInt8) (r : List UInt8) : txtOk (k :: r) = if r.length < k.toNat then false else txtOk (r.drop k.toNat) := by rw [txtOk]
theorem info_strR : (Tryd.prog.info? 9).map (fun i => (i.zero, i.size, i.bytes)) = some (some (.string ByteArray.empty), 1, 16) := by kernel_rfl
theorem val_take1 (b : UInt8) (r : List UInt8) : val ((b :: r).take 1) = (b.toNat : Int) := by simp [val]
set_option maxRecDepth 8000 in
set_option maxHeartbeats 1000000 in
theorem texts_ (w : World) (s : ByteArray) (hs : s.size ≤ 100000) : Calls Tryd.prog 60 #[.string s] w fun e w' => (∃ v, e = .returned (.tuple #[v, .bool (txtV s.data.toList)])) ∧ Below w.heap.size w w' := by
  have hconv := fun W => Lib.run_convert_string_bytes (P := Tryd.prog) W 9 27 5 s Tryd.underlying9 Tryd.underlying27 Tryd.underlying5
  have hnew := fun W => Cv.new W s
  have hbn := fun W => below_bytes W s
  have hcap := fun W => grownCap_ge W s.size 0 5
  obtain ⟨n, hn⟩ : ∃ n, s.size = n := ⟨_, rfl⟩
  obtain ⟨l, hl⟩ : ∃ l, s.data.toList = l := ⟨_, rfl⟩
  simp only [hn, hl] at hconv hnew hcap hs
  have hll : l.length = n := by rw [← hl, ← hn]; simp
  rw [hl]
  have HN := Lib.hid hn
  have HNEW := Lib.hid hnew
  have HBN := Lib.hid hbn
  have HCAP := Lib.hid hcap
  have HCV := Lib.hid hconv
  clear hnew hbn hcap hl hconv
  go_enter Tryd.func60, Tryd.ntmps60
  go_wp2
  go_loopw [4, 5] (fun v i wr => ∃ (k q : Nat) (cs : List Value), k ≤ n ∧ i = .int .i64 k ∧ q ≤ k ∧ (0 < k → 0 < q) ∧ wr.ownsRow w.heap.size 9 1 v q cs ∧ txtOk (l.drop k) = txtOk l ∧ Below w.heap.size w wr) (fun _ i _ => n - (intOf i).toNat)
  case atStart => exact ⟨0, 0, [], Nat.zero_le _, rfl, Nat.le_refl _, fun h => h, World.ownsRow_nil _ _ _ _, rfl, Below.refl _ _⟩
  case round =>
    obtain ⟨k, q, cs, hk, rfl, hq, hq0, ho, ht, hb⟩ := hrel
    by_cases hlt : k < n
    · obtain ⟨b, hbk⟩ : ∃ b, l[k]? = some b := ⟨l[k], List.getElem?_eq_getElem (by omega)⟩
      have hdr : l.drop k = b :: l.drop (k + 1) := by
        rw [List.drop_eq_getElem_cons (by omega)]
        rw [List.getElem?_eq_getElem (by omega)] at hbk
        cases hbk
        rfl
      rw [hdr, txtOk_cons, List.length_drop] at ht
      have hki : (k : Int) < (n : Int) := by omega
      have hcv := HCV.out wr
      have hrd := (HNEW.out wr).rd _ (HCAP.out wr)
      have hbw := HBN.out wr
      obtain ⟨c, hc⟩ : ∃ c, grownCap wr n 0 5 = c := ⟨_, rfl⟩
      obtain ⟨W1, hW1⟩ : ∃ x, Lib.bytesWorld wr 5 s = x := ⟨_, rfl⟩
      rw [hc] at hcv hrd
      rw [hW1] at hcv hrd hbw
      have htk := takeText_ (some ⟨wr.heap.size, 0, none⟩) n c k (by omega) W1 l hrd
      have hb1 := below_trans hb hbw
      have ho1 := own_below ho hbw
      have hbt := b.toNat_lt
      have hw1 := hb1.size
      unfold textR at htk
      rw [if_neg (by omega), if_neg (by omega), Int.toNat_natCast, hdr, val_take1] at htk
      clear hdr hbk hW1 hc hrd hbw
      by_cases hsh : l.length - (k + 1) < b.toNat
      · rw [if_pos (by omega)] at htk
        rw [if_pos hsh] at ht
        have HT := Lib.hid ht
        clear ht ho hb
        go_wp2_with (first | (go_at_call 81; refine htk.mono ?_; clear htk; rintro e W2 ⟨rfl, rfl⟩))
        go_ret2
        refine ⟨⟨.slice none 0 0, ?_⟩, hb1⟩
        rw [show txtV l = false by unfold txtV; rw [← HT.out]; rfl]
        rfl
      · rw [if_neg (by omega)] at htk
        rw [if_neg hsh] at ht
        have HT := Lib.hid ht
        have happ : App W1 w.heap.size 9 1 _ q cs := .own ho1
        clear ht ho hb
        go_wp2_with (first | (go_at_call 81; refine htk.mono ?_; clear htk; rintro e W2 ⟨rfl, rfl⟩) | (at_builtin; refine wpList_app1 (w0 := w) w.heap.size rfl _ _ 112 9 (.string ByteArray.empty) 16 rfl Tryd.underlying112 info_strR rfl (by omega) u4 q cs (.string (str ((l.drop (k + 1)).take b.toNat))) rfl happ rfl rfl hb1 hw1 (by omega) ?_; intro v1 w1 ho2 hb2 hg2))
        go_roundw
        case rel => exact ⟨k + 1 + b.toNat, q + 1, _, by omega, by go_num, by omega, fun _ => by omega, ho2, by rw [← HT.out, List.drop_drop], hb2⟩
        case measure => simp [intOf]; omega
    · obtain rfl : k = n := by omega
      obtain ⟨A, c, rfl, -⟩ := own_rd ho
      go_wp2
      go_ret2
      refine ⟨⟨.slice A q c, ?_⟩, hb⟩
      rw [show txtV l = decide (0 < q) from ?_]
      · rfl
      · have e1 : txtOk l = true := by rw [← ht, List.drop_eq_nil_of_le (by omega)]; rw [txtOk]
        unfold txtV
        rw [e1]
        cases l with
        | nil => simp at hll; have : q = 0 := (by omega); simp [this]
        | cons a r => simp at hll; have := hq0 (by omega); simp; omega
end Go.Proofs.YtdjknikkiojfhaaDoor

/- Frames: what a call leaves of what was there, told by the blocks that it may write. No program in sight. -/
set_option linter.unusedVariables false
set_option linter.unusedSimpArgs false
namespace Go.HL
open Go.RowKit
/-- Of what was there just blocks of S are written. -/
structure Fr (S : Nat → Prop) (w w' : World) : Prop where
  os : w'.os = w.os
  tape : w'.tape = w.tape
  output : w'.output = w.output
  size : w.heap.size ≤ w'.heap.size
  block : ∀ k, k < w.heap.size → ¬ S k → w'.heap[k]? = w.heap[k]?
theorem Fr.refl (S : Nat → Prop) (w : World) : Fr S w w := ⟨rfl, rfl, rfl, Nat.le_refl _, fun _ _ _ => rfl⟩
theorem Fr.mono {S T : Nat → Prop} {w w' : World} (h : Fr S w w') (hs : ∀ k, k < w.heap.size → S k → T k) : Fr T w w' := ⟨h.os, h.tape, h.output, h.size, fun k hk hn => h.block k hk (fun hs' => hn (hs k hk hs'))⟩
theorem Fr.trans {S : Nat → Prop} {a b c : World} (h : Fr S a b) (k : Fr (fun i => S i ∨ a.heap.size ≤ i) b c) : Fr S a c :=
  ⟨k.os.trans h.os, k.tape.trans h.tape, k.output.trans h.output, Nat.le_trans h.size k.size, fun i hi hn => (k.block i (Nat.lt_of_lt_of_le hi h.size) (fun e => e.elim hn (fun e => by omega))).trans (h.block i hi hn)⟩
theorem Fr.trans' {S : Nat → Prop} {a b c : World} (h : Fr S a b) (k : Fr S b c) : Fr S a c := h.trans (k.mono fun _ _ h => .inl h)
theorem Fr.of_below {S : Nat → Prop} {w w' : World} (h : Below w.heap.size w w') : Fr S w w' := ⟨h.os, h.tape, h.output, h.size, fun k hk _ => h.block k hk⟩
theorem Fr.toBelow {S : Nat → Prop} {n : Nat} {w a b : World} (h : Below n w a) (k : Fr S a b) (hs : ∀ i, i < a.heap.size → S i → n ≤ i) (hn : n ≤ a.heap.size) : Below n w b :=
  ⟨k.os.trans h.os, k.tape.trans h.tape, k.output.trans h.output, Nat.le_trans h.size k.size, fun i hi => (k.block i (Nat.lt_of_lt_of_le hi hn) (fun e => by have := hs i (Nat.lt_of_lt_of_le hi hn) e; omega)).trans (h.block i hi)⟩
theorem Fr.alloc {S : Nat → Prop} {w w' : World} (h : Fr S w w') (o : Obj) : Fr S w (w'.alloc o) := h.trans (Fr.of_below (below_new _ _))
theorem Fr.drew {S : Nat → Prop} {w w' : World} (h : Fr S w w') : Fr S w w'.drew := ⟨h.os, h.tape, h.output, h.size, h.block⟩
theorem Fr.drewN {S : Nat → Prop} {w w' : World} (h : Fr S w w') : ∀ n, Fr S w (w'.drewN n)
  | 0 => h
  | n + 1 => (h.drewN n).drew
theorem Fr.grown {S : Nat → Prop} {a b c : World} {row : Option Nat} (h : Fr S a b) (k : b.grownBy c row) (hr : ∀ i, row = some i → S i ∨ a.heap.size ≤ i) : Fr S a c :=
  h.trans ⟨k.os, k.tape, k.output, k.size, fun i hi hn => k.block i hi (fun e => hn (hr i e.symm))⟩
theorem Fr.setCell {S : Nat → Prop} {a b : World} (h : Fr S a b) (g j : Nat) (v : Value) (hg : S g ∨ a.heap.size ≤ g) : Fr S a (b.setCell ⟨g, j, none⟩ v) :=
  h.trans ⟨rfl, rfl, rfl, by simp [World.setCell], fun i hi hn => by
    simp only [World.setCell]
    rw [Array.getElem?_modify, if_neg (fun e => hn (by rw [← e]; exact hg))]⟩
theorem Fr.setRow {S : Nat → Prop} {a b : World} (h : Fr S a b) (g : Nat) (cs : Array Value) (hg : S g ∨ a.heap.size ≤ g) : Fr S a (b.setRow g cs) :=
  h.grown (grown_row b g cs) (fun i e => by cases e; exact hg)
theorem Blk.fr {S : Nat → Prop} {w w' : World} {g : Nat} {t : TypeId} {cs : List Value} (h : Blk w g t cs) (k : Fr S w w') (hn : ¬ S g) : Blk w' g t cs := (k.block g h.lt hn).trans h
theorem Blk.set {w : World} {g : Nat} {t : TypeId} {cs : List Value} (h : Blk w g t cs) (j : Nat) (v : Value) : Blk (w.setCell ⟨g, j, none⟩ v) g t (cs.set j v) := by
  have h' : w.heap[g]? = some (.cells cs.toArray t (0, 0)) := h
  unfold Blk
  simp only [World.setCell]
  rw [Array.getElem?_modify, if_pos rfl, h']
  simp
theorem Blk.set_other {w : World} {g g' : Nat} {t : TypeId} {cs : List Value} (h : Blk w g t cs) (j : Nat) (v : Value) (hne : g ≠ g') : Blk (w.setCell ⟨g', j, none⟩ v) g t cs := by
  have h' : w.heap[g]? = some (.cells cs.toArray t (0, 0)) := h
  unfold Blk
  simp only [World.setCell]
  rw [Array.getElem?_modify, if_neg (fun e => hne e.symm)]
  exact h'
theorem cell_fr {S : Nat → Prop} {w w' : World} (k : Fr S w w') {a : Addr} {v : Value} (h : w.cell? a = some v) (hn : ¬ S a.block) : w'.cell? a = some v := by
  have hb := World.block_lt_of_cell? w _ h
  unfold World.cell? at *
  rw [k.block _ hb hn]
  exact h
theorem Rd.fr {S : Nat → Prop} {w w' : World} {size : Nat} {A : Option Addr} {n c : Nat} {cs : List Value} (h : Rd w size A n c cs) (k : Fr S w w') (hn : ∀ a, A = some a → ¬ S a.block) : Rd w' size A n c cs :=
  ⟨h.len, h.nil_, h.le, fun a ha j u hu => cell_fr k (h.cells a ha j u hu) (by
    have := hn a ha
    have e : (a.add j).block = a.block := by unfold Addr.add; split <;> rfl
    rw [e]
    exact this)⟩
theorem own_fr {S : Nat → Prop} {w w' : World} {base n size : Nat} {e : TypeId} {v : Value} {cs : List Value} (h : w.ownsRow base e size v n cs) (k : Fr S w w') (hn : ∀ i, v.ownBlock = some i → ¬ S i) : w'.ownsRow base e size v n cs := by
  obtain ⟨h1, h2⟩ := h
  refine ⟨h1, ?_⟩
  rcases h2 with h2 | ⟨g, cap, cur, hv, hg, hb, r⟩
  · exact .inl h2
  · exact .inr ⟨g, cap, cur, hv, hg, (k.block g (Array.getElem?_eq_some_iff.1 hb).1 (hn g (by rw [hv]; rfl))).trans hb, r⟩
/-- The block of a row of one's own, and what it is of. -/
theorem own_blk {w : World} {base n size : Nat} {e : TypeId} {v : Value} {cs : List Value} (h : w.ownsRow base e size v n cs) {i : Nat} (hi : v.ownBlock = some i) : ∃ cur fr, w.heap[i]? = some (.cells cur e fr) := by
  rcases h.2 with ⟨hv, _⟩ | ⟨g, cap, cur, hv, hg, hb, r⟩
  · rw [hv] at hi; cases hi
  · rw [hv] at hi
    cases hi
    exact ⟨_, _, hb⟩
theorem own_ne_blk {w : World} {base n size : Nat} {e t : TypeId} {v : Value} {cs ds : List Value} {g : Nat} (h : w.ownsRow base e size v n cs) (hb : Blk w g t ds) (hne : e ≠ t) : v.ownBlock ≠ some g := fun hi => by
  obtain ⟨cur, fr, h2⟩ := own_blk h hi
  have h' : w.heap[g]? = some (.cells ds.toArray t (0, 0)) := hb
  rw [h'] at h2
  cases h2
  exact hne rfl
end Go.HL
