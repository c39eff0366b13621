import Derived.Test.YtdjknikkiojfhaaDoorZHL
import Derived.Test.YtdjknikkiojfhaaDoorRows
import Derived.Test.YtdjknikkiojfhaaDoorZRS
/- Names as labels: plain words. No program in sight. -/
namespace Go.HL
open Go.RowKit
set_option linter.unusedVariables false
set_option linter.unusedSimpArgs false

/-- The labels of what stands here, up to a nought that stands last. -/
def labs : Nat → List UInt8 → Option (List (List UInt8))
  | 0, _ => none
  | _ + 1, [] => none
  | f + 1, b :: r => if b = 0 then (if r = [] then some [] else none) else if 63 < b.toNat ∨ r.length < b.toNat then none else (labs f (r.drop b.toNat)).map (r.take b.toNat :: ·)
def labsT (l : List UInt8) : Option (List (List UInt8)) := labs (l.length + 1) l
theorem labs_fuel : ∀ (n : Nat) (f : Nat) (l : List UInt8), l.length ≤ n → l.length + 1 ≤ f → labs f l = labsT l := by
  intro n
  induction n with
  | zero =>
    intro f l hl hf
    obtain rfl : l = [] := List.eq_nil_of_length_eq_zero (by omega)
    cases f with
    | zero => simp at hf
    | succ f => rfl
  | succ n ih =>
    intro f l hl hf
    cases f with
    | zero => omega
    | succ f =>
      cases l with
      | nil => rfl
      | cons b r =>
        simp only [List.length_cons] at hl hf
        have h1 := ih f (r.drop b.toNat) (by rw [List.length_drop]; omega) (by rw [List.length_drop]; omega)
        have h2 := ih (r.length + 1) (r.drop b.toNat) (by rw [List.length_drop]; omega) (by rw [List.length_drop]; omega)
        unfold labsT
        simp only [labs, List.length_cons]
        rw [h1, h2]
theorem labsT_nil : labsT [] = none := rfl
theorem labsT_zero (r : List UInt8) : labsT (0 :: r) = if r = [] then some [] else none := by
  unfold labsT
  simp [labs]
theorem labsT_big (b : UInt8) (r : List UInt8) (h : 63 < b.toNat) : labsT (b :: r) = none := by
  have h0 : b ≠ 0 := fun e => by subst e; simp at h
  unfold labsT
  simp [labs, h0, h]
theorem labsT_cons (b : UInt8) (r : List UInt8) (h0 : b ≠ 0) (h : b.toNat ≤ 63) : labsT (b :: r) = if r.length < b.toNat then none else (labsT (r.drop b.toNat)).map (r.take b.toNat :: ·) := by
  have h1 := labs_fuel r.length (r.length + 1) (r.drop b.toNat) (by rw [List.length_drop]; omega) (by rw [List.length_drop]; omega)
  have h2 : ¬ 63 < b.toNat := by omega
  conv => lhs; unfold labsT
  simp only [labs, List.length_cons]
  rw [if_neg h0, h1]
  simp [h2]
theorem labsT_step (l : List UInt8) (i : Nat) (b : UInt8) (k : Nat) (hb : l[i]? = some b) (h0 : b ≠ 0) (h : b.toNat ≤ 63) :
    (labsT (l.drop i)).map (fun x => x.length + k) = (labsT (l.drop (i + (1 + b.toNat)))).map (fun x => x.length + (k + 1)) := by
  have hi := (List.getElem?_eq_some_iff.1 hb)
  obtain ⟨hil, hie⟩ := hi
  rw [List.drop_eq_getElem_cons hil, hie, labsT_cons b _ h0 h]
  rw [List.drop_drop, show i + 1 + b.toNat = i + (1 + b.toNat) by omega]
  split
  · rename_i h3
    rw [List.length_drop] at h3
    rw [List.drop_eq_nil_of_le (by omega)]
    rfl
  · cases labsT (l.drop (i + (1 + b.toNat))) with
    | none => rfl
    | some x => simp; omega
theorem labsT_at (l : List UInt8) (i : Nat) (hb : l[i]? = some 0) : labsT (l.drop i) = if i + 1 = l.length then some [] else none := by
  obtain ⟨hil, hie⟩ := (List.getElem?_eq_some_iff.1 hb)
  rw [List.drop_eq_getElem_cons hil, hie, labsT_zero]
  by_cases h : i + 1 = l.length
  · rw [if_pos h, if_pos (List.drop_eq_nil_of_le (by omega))]
  · rw [if_neg h, if_neg (fun e => by have := congrArg List.length e; rw [List.length_drop] at this; simp at this; omega)]
theorem labsT_over (l : List UInt8) (i : Nat) (b : UInt8) (hb : l[i]? = some b) (h : 63 < b.toNat) : labsT (l.drop i) = none := by
  obtain ⟨hil, hie⟩ := (List.getElem?_eq_some_iff.1 hb)
  rw [List.drop_eq_getElem_cons hil, hie, labsT_big _ _ h]

/-- Labels as a name. -/
def gl (ls : List (List UInt8)) : List UInt8 := ls.flatMap (fun x => UInt8.ofNat x.length :: x) ++ [0]
def okL (ls : List (List UInt8)) : Prop := ∀ x ∈ ls, 1 ≤ x.length ∧ x.length ≤ 63
theorem okL.tail {x : List UInt8} {ls : List (List UInt8)} (h : okL (x :: ls)) : okL ls := fun y hy => h y (List.mem_cons_of_mem _ hy)
theorem ofNat_len {k : Nat} (h : k ≤ 255) : (UInt8.ofNat k).toNat = k := by rw [UInt8.toNat_ofNat']; omega
theorem gl_nil : gl [] = [0] := rfl
theorem gl_cons (x : List UInt8) (ls : List (List UInt8)) : gl (x :: ls) = UInt8.ofNat x.length :: (x ++ gl ls) := by simp [gl]
theorem gl_len (x : List UInt8) (ls : List (List UInt8)) : (gl (x :: ls)).length = 1 + x.length + (gl ls).length := by rw [gl_cons]; simp; omega
theorem gl_pos (ls : List (List UInt8)) : 1 ≤ (gl ls).length := by simp [gl]
theorem ofNat_ne {k : Nat} (h : 1 ≤ k) (h2 : k ≤ 63) : UInt8.ofNat k ≠ 0 := fun e => by
  have := congrArg UInt8.toNat e
  rw [ofNat_len (by omega)] at this
  simp at this
  omega
theorem labsT_gl : ∀ (ls : List (List UInt8)), okL ls → labsT (gl ls) = some ls
  | [], _ => rfl
  | x :: ls, h => by
    have hx := h x (by simp)
    rw [gl_cons, labsT_cons _ _ (ofNat_ne hx.1 hx.2) (by rw [ofNat_len (by omega)]; omega), ofNat_len (by omega), if_neg (by simp), List.drop_left, List.take_left, labsT_gl ls h.tail]
    rfl
theorem gl_labsT : ∀ (n : Nat) (l : List UInt8) (ls : List (List UInt8)), l.length ≤ n → labsT l = some ls → gl ls = l ∧ okL ls := by
  intro n
  induction n with
  | zero =>
    intro l ls hn h
    obtain rfl : l = [] := List.eq_nil_of_length_eq_zero (by omega)
    cases h
  | succ n ih =>
    intro l ls hn h
    cases l with
    | nil => cases h
    | cons b r =>
      simp only [List.length_cons] at hn
      by_cases h0 : b = 0
      · subst h0
        rw [labsT_zero] at h
        split at h
        · rename_i hr
          subst hr
          cases h
          exact ⟨rfl, fun x hx => by cases hx⟩
        · cases h
      · by_cases h63 : 63 < b.toNat
        · rw [labsT_big _ _ h63] at h; cases h
        · rw [labsT_cons b r h0 (by omega)] at h
          split at h
          · cases h
          · rename_i hlt
            obtain ⟨ls', h1, rfl⟩ := Option.map_eq_some_iff.1 h
            obtain ⟨h2, h3⟩ := ih _ _ (by rw [List.length_drop]; omega) h1
            have hl : (r.take b.toNat).length = b.toNat := by rw [List.length_take]; omega
            have hbn : 1 ≤ b.toNat := by
              rcases Nat.eq_zero_or_pos b.toNat with h | h
              · exact absurd (UInt8.toNat_inj.1 (by simpa using h)) h0
              · exact h
            refine ⟨?_, fun x hx => ?_⟩
            · rw [gl_cons, h2, hl, List.take_append_drop]
              congr 1
              exact UInt8.toNat_inj.1 (ofNat_len (by omega))
            · rcases List.mem_cons.1 hx with rfl | hx
              · omega
              · exact h3 x hx
/-- Is it a name? -/
def isNm (s : ByteArray) : Bool := decide (s.size ≤ 255) && (labsT s.data.toList).isSome
theorem isNm_true {s : ByteArray} (h : isNm s = true) : ∃ ls, s = str (gl ls) ∧ okL ls ∧ (gl ls).length ≤ 255 ∧ labsT s.data.toList = some ls := by
  unfold isNm at h
  rw [Bool.and_eq_true] at h
  obtain ⟨h1, h2⟩ := h
  obtain ⟨ls, h3⟩ := Option.isSome_iff_exists.1 h2
  obtain ⟨h4, h5⟩ := gl_labsT _ _ _ (Nat.le_refl _) h3
  have h1' : s.size ≤ 255 := of_decide_eq_true h1
  refine ⟨ls, ?_, h5, ?_, h3⟩
  · rw [h4]; simp [str]
  · rw [h4, Array.length_toList]; exact h1'
theorem isNm_gl {ls : List (List UInt8)} (h : okL ls) : isNm (str (gl ls)) = decide ((gl ls).length ≤ 255) := by
  unfold isNm
  rw [str_size, str_toList, labsT_gl ls h]
  simp
/-- A name, its ends, but the root. -/
def frs : List (List UInt8) → List ByteArray
  | [] => []
  | x :: r => str (gl (x :: r)) :: frs r
theorem frs_len : ∀ ls, (frs ls).length = ls.length
  | [] => rfl
  | x :: r => by simp [frs, frs_len r]
theorem gl_count : ∀ ls : List (List UInt8), ls.length ≤ (gl ls).length
  | [] => by simp
  | x :: r => by have := gl_count r; rw [gl_len, List.length_cons]; omega
theorem idx_str {P : Program} (t : TypeId) (ht : P.underlying t = some .string) (k : IntKind) (i : Nat) (s : ByteArray) (hi : i < s.size) (w : World) :
    (Instr.index t (.string s) (.int k (i : Int))).run P w = .ok (.int .u8 ((s.data.toList.getD i 0).toNat : Int)) w := by
  rw [run_index_string w t s k _ ht, dif_pos ⟨by omega, by omega⟩]
  have e : ((i : Int)).toNat = i := by omega
  simp only [e]
  have h' : i < s.data.toList.length := by simpa using hi
  rw [List.getD_eq_getElem?_getD, List.getElem?_eq_getElem h']
  rfl
theorem getD_some {l : List UInt8} {i : Nat} (h : i < l.length) : l[i]? = some (l.getD i 0) := by
  rw [List.getD_eq_getElem?_getD, List.getElem?_eq_getElem h]; rfl
end Go.HL

/- What octet's functions do, said of cells: Put, Take, PutText, TakeText, Later, Step. Contracts, by walks. -/
namespace Go.Proofs.YtdjknikkiojfhaaDoor
open Go.RowKit Go.HL
set_option linter.unusedVariables false
set_option linter.unusedSimpArgs false

theorem info_u8 : (Tryd.prog.info? 5).map (fun i => (i.zero, i.size, i.bytes)) = some (some (.int .u8 0), 1, 1) := by kernel_rfl

set_option maxHeartbeats 400000 in
theorem size8 (w : World) :
    Calls Tryd.prog 87 #[] w fun e w' => e = .returned (.int .i64 1) ∧ w = w' := by
  go_enter Tryd.func87, Tryd.ntmps87
  go_wp2
  refine wp_loop_rounds 1 ?_
  rw [rounds_succ]
  go_wp2
  go_ret
  exact ⟨rfl, rfl⟩
set_option maxHeartbeats 400000 in
theorem size16 (w : World) :
    Calls Tryd.prog 61 #[] w fun e w' => e = .returned (.int .i64 2) ∧ w = w' := by
  go_enter Tryd.func61, Tryd.ntmps61
  go_wp2
  refine wp_loop_rounds 2 ?_
  rw [rounds_succ]
  go_wp2
  rw [rounds_succ]
  go_wp2
  go_ret
  exact ⟨rfl, rfl⟩
set_option maxHeartbeats 400000 in
theorem size32 (w : World) :
    Calls Tryd.prog 65 #[] w fun e w' => e = .returned (.int .i64 4) ∧ w = w' := by
  go_enter Tryd.func65, Tryd.ntmps65
  go_wp2
  refine wp_loop_rounds 3 ?_
  rw [rounds_succ]
  go_wp2
  rw [rounds_succ]
  go_wp2
  rw [rounds_succ]
  go_wp2
  go_ret
  exact ⟨rfl, rfl⟩

/-- What a Put leaves: a row of the call's own. -/
def Puts (w : World) (cs : List Value) (n : Nat) (k : Nat) (v : Int) (e : Ending) (w' : World) : Prop :=
  ∃ sv, e = .returned sv ∧ w'.ownsRow w.heap.size 5 1 sv (n + k) (cs ++ bs (be k v)) ∧ Below w.heap.size w w'

set_option maxHeartbeats 400000 in
theorem put16 (A : Option Addr) (n c : Nat) (v : Int) (hv0 : 0 ≤ v) (hv1 : v < 65536) (hn : n ≤ 140737488355200) (w : World) (cs : List Value) (hr : Rd w 1 A n c cs) :
    Calls Tryd.prog 38 #[.slice A n c, .int .u16 v] w (Puts w cs n 2 v) := by
  have hnc := hr.le
  go_enter Tryd.func38, Tryd.ntmps38
  go_wp2_with (go_at_call 61; refine (size16 _).mono ?_; rintro e w' ⟨rfl, rfl⟩)
  refine wp_loop_rounds 3 ?_
  rw [rounds_succ]
  have ha := App.full (e := 5) (base := w.heap.size) hr
  go_wp2_with (at_builtin; go_must (refine wpList_app1 (w0 := w) w.heap.size rfl _ _ 27 5 (.int .u8 0) 1 rfl Tryd.underlying27 info_u8 rfl (by omega) (.slice A n n) n cs _ rfl ha rfl rfl (Below.refl _ _) (Nat.le_refl _) (by omega) ?_); intro v1 w1 ho1 hb1 hg1)
  clear ha
  rw [rounds_succ]
  have hz := hb1.size
  go_wp2_with (at_builtin; go_must (refine wpList_app1 (w0 := w) w.heap.size rfl _ _ 27 5 (.int .u8 0) 1 rfl Tryd.underlying27 info_u8 rfl (by omega) v1 (n+1) _ _ rfl (.own ho1) rfl rfl hb1 hz (by omega) ?_); intro v2 w2 ho2 hb2 hg2)
  rw [rounds_succ]
  go_wp2
  go_ret
  refine ⟨v2, rfl, ?_, hb2⟩
  have e1 : B (byteAt v 1) = .int .u8 (v / 256) := by rw [B, byteAt_toNat]; congr 1; omega
  have e0 : B (byteAt v 0) = .int .u8 (v % 256) := by rw [B, byteAt_toNat]; congr 1; omega
  simpa [bs, be, e0, e1] using ho2
set_option maxHeartbeats 800000 in
theorem put32 (A : Option Addr) (n c : Nat) (v : Int) (hv0 : 0 ≤ v) (hv1 : v < 4294967296) (hn : n ≤ 140737488355200) (w : World) (cs : List Value) (hr : Rd w 1 A n c cs) :
    Calls Tryd.prog 42 #[.slice A n c, .int .u32 v] w (Puts w cs n 4 v) := by
  have hnc := hr.le
  go_enter Tryd.func42, Tryd.ntmps42
  go_wp2_with (go_at_call 65; refine (size32 _).mono ?_; rintro e w' ⟨rfl, rfl⟩)
  refine wp_loop_rounds 5 ?_
  rw [rounds_succ]
  have ha := App.full (e := 5) (base := w.heap.size) hr
  go_wp2_with (at_builtin; go_must (refine wpList_app1 (w0 := w) w.heap.size rfl _ _ 27 5 (.int .u8 0) 1 rfl Tryd.underlying27 info_u8 rfl (by omega) (.slice A n n) n cs _ rfl ha rfl rfl (Below.refl _ _) (Nat.le_refl _) (by omega) ?_); intro v1 w1 ho1 hb1 hg1)
  clear ha
  rw [rounds_succ]
  have hz := hb1.size
  go_wp2_with (at_builtin; go_must (refine wpList_app1 (w0 := w) w.heap.size rfl _ _ 27 5 (.int .u8 0) 1 rfl Tryd.underlying27 info_u8 rfl (by omega) v1 (n+1) _ _ rfl (.own ho1) rfl rfl hb1 hz (by omega) ?_); intro v2 w2 ho2 hb2 hg2)
  clear hz
  rw [rounds_succ]
  have hz := hb2.size
  go_wp2_with (at_builtin; go_must (refine wpList_app1 (w0 := w) w.heap.size rfl _ _ 27 5 (.int .u8 0) 1 rfl Tryd.underlying27 info_u8 rfl (by omega) v2 (n+1+1) _ _ rfl (.own ho2) rfl rfl hb2 hz (by omega) ?_); intro v3 w3 ho3 hb3 hg3)
  clear hz
  rw [rounds_succ]
  have hz := hb3.size
  go_wp2_with (at_builtin; go_must (refine wpList_app1 (w0 := w) w.heap.size rfl _ _ 27 5 (.int .u8 0) 1 rfl Tryd.underlying27 info_u8 rfl (by omega) v3 (n+1+1+1) _ _ rfl (.own ho3) rfl rfl hb3 hz (by omega) ?_); intro v4 w4 ho4 hb4 hg4)
  rw [rounds_succ]
  go_wp2
  go_ret
  refine ⟨v4, rfl, ?_, hb4⟩
  have e3 : B (byteAt v 3) = .int .u8 (v / 16777216) := by rw [B, byteAt_toNat]; congr 1; omega
  have e2 : B (byteAt v 2) = .int .u8 (v / 65536 % 256) := by rw [B, byteAt_toNat]; congr 1
  have e1 : B (byteAt v 1) = .int .u8 (v / 256 % 256) := by rw [B, byteAt_toNat]; congr 1
  have e0 : B (byteAt v 0) = .int .u8 (v % 256) := by rw [B, byteAt_toNat]; congr 1; omega
  simpa [bs, be, e0, e1, e2, e3] using ho4

/-! ### Take -/
theorem take8_arg (A : Option Addr) (n c : Nat) (i : Int) (hn : n ≤ c) (hc : n ≤ 140737488355328) (hi : i < 0 ∨ (n : Int) < i) (w : World) :
    Calls Tryd.prog 73 #[.slice A n c, .int .i64 i] w fun e w' => e = .returned (.tuple #[.int .u8 0, .int .i64 0, .int .i64 1]) ∧ w = w' := by
  by_cases h0 : i < 0
  · go_enter Tryd.func73, Tryd.ntmps73
    go_wp2_with (go_at_call 87; refine (size8 _).mono ?_; rintro e w' ⟨rfl, rfl⟩)
    go_ret3
    exact ⟨rfl, rfl⟩
  · have h1 : (n : Int) < i := by omega
    go_enter Tryd.func73, Tryd.ntmps73
    go_wp2_with (go_at_call 87; refine (size8 _).mono ?_; rintro e w' ⟨rfl, rfl⟩)
    go_ret3
    exact ⟨rfl, rfl⟩
theorem take8_short (A : Option Addr) (n c : Nat) (i : Int) (hn : n ≤ c) (hc : n ≤ 140737488355328) (h0 : 0 ≤ i) (h1 : i ≤ n) (h2 : (n : Int) < i + 1) (w : World) :
    Calls Tryd.prog 73 #[.slice A n c, .int .i64 i] w fun e w' => e = .returned (.tuple #[.int .u8 0, .int .i64 0, .int .i64 6]) ∧ w = w' := by
  go_enter Tryd.func73, Tryd.ntmps73
  go_wp2_with (go_at_call 87; refine (size8 _).mono ?_; rintro e w' ⟨rfl, rfl⟩)
  go_ret3
  exact ⟨rfl, rfl⟩
set_option maxHeartbeats 800000 in
theorem take8_okN (ad : Addr) (n c : Nat) (i : Nat) (hc : n ≤ 140737488355328) (h1 : i + 1 ≤ n) (w : World) (l : List UInt8) (hr : Rd w 1 (some ad) n c (bs l)) :
    Calls Tryd.prog 73 #[.slice (some ad) n c, .int .i64 i] w fun e w' => e = .returned (.tuple #[.int .u8 (val ((l.drop i).take 1)), .int .i64 (i + 1), .int .i64 0]) ∧ w = w' := by
  have hn := hr.le
  have hbl := hr.blen
  have c0 := hr.at i (by omega)
  obtain ⟨b0, hb0⟩ : ∃ b : Int, ((l.getD i 0).toNat : Int) = b := ⟨_, rfl⟩
  have p0 : 0 ≤ b0 := by omega
  have q0 : b0 < 256 := by have := (l.getD i 0).toNat_lt; omega
  rw [hb0] at c0
  have hv : val ((l.drop i).take 1) = b0 := by
    rw [val_take1 l i (by omega), ← hb0]
  rw [hv]
  clear hb0
  clear hv
  have o0 : bits .or .u32 0 b0 = b0 := or_zero _ (by omega) (by omega)
  go_enter Tryd.func73, Tryd.ntmps73
  go_wp2_with (go_at_call 87; refine (size8 _).mono ?_; rintro e w' ⟨rfl, rfl⟩)
  refine wp_loop_rounds 2 ?_
  rw [rounds_succ]
  go_wp2
  rw [rounds_succ]
  go_wp2
  go_ret3
  exact ⟨rfl, rfl⟩
theorem take16_arg (A : Option Addr) (n c : Nat) (i : Int) (hn : n ≤ c) (hc : n ≤ 140737488355328) (hi : i < 0 ∨ (n : Int) < i) (w : World) :
    Calls Tryd.prog 50 #[.slice A n c, .int .i64 i] w fun e w' => e = .returned (.tuple #[.int .u16 0, .int .i64 0, .int .i64 1]) ∧ w = w' := by
  by_cases h0 : i < 0
  · go_enter Tryd.func50, Tryd.ntmps50
    go_wp2_with (go_at_call 61; refine (size16 _).mono ?_; rintro e w' ⟨rfl, rfl⟩)
    go_ret3
    exact ⟨rfl, rfl⟩
  · have h1 : (n : Int) < i := by omega
    go_enter Tryd.func50, Tryd.ntmps50
    go_wp2_with (go_at_call 61; refine (size16 _).mono ?_; rintro e w' ⟨rfl, rfl⟩)
    go_ret3
    exact ⟨rfl, rfl⟩
theorem take16_short (A : Option Addr) (n c : Nat) (i : Int) (hn : n ≤ c) (hc : n ≤ 140737488355328) (h0 : 0 ≤ i) (h1 : i ≤ n) (h2 : (n : Int) < i + 2) (w : World) :
    Calls Tryd.prog 50 #[.slice A n c, .int .i64 i] w fun e w' => e = .returned (.tuple #[.int .u16 0, .int .i64 0, .int .i64 6]) ∧ w = w' := by
  go_enter Tryd.func50, Tryd.ntmps50
  go_wp2_with (go_at_call 61; refine (size16 _).mono ?_; rintro e w' ⟨rfl, rfl⟩)
  go_ret3
  exact ⟨rfl, rfl⟩
set_option maxHeartbeats 800000 in
theorem take16_okN (ad : Addr) (n c : Nat) (i : Nat) (hc : n ≤ 140737488355328) (h1 : i + 2 ≤ n) (w : World) (l : List UInt8) (hr : Rd w 1 (some ad) n c (bs l)) :
    Calls Tryd.prog 50 #[.slice (some ad) n c, .int .i64 i] w fun e w' => e = .returned (.tuple #[.int .u16 (val ((l.drop i).take 2)), .int .i64 (i + 2), .int .i64 0]) ∧ w = w' := by
  have hn := hr.le
  have hbl := hr.blen
  have c0 := hr.at i (by omega)
  have c1 := hr.at' i 0 (by omega)
  obtain ⟨b0, hb0⟩ : ∃ b : Int, ((l.getD i 0).toNat : Int) = b := ⟨_, rfl⟩
  have p0 : 0 ≤ b0 := by omega
  have q0 : b0 < 256 := by have := (l.getD i 0).toNat_lt; omega
  rw [hb0] at c0
  obtain ⟨b1, hb1⟩ : ∃ b : Int, ((l.getD (i + (0 + 1)) 0).toNat : Int) = b := ⟨_, rfl⟩
  have p1 : 0 ≤ b1 := by omega
  have q1 : b1 < 256 := by have := (l.getD (i + (0 + 1)) 0).toNat_lt; omega
  rw [hb1] at c1
  have hv : val ((l.drop i).take 2) = (b0) * 256 + b1 := by
    rw [val_take2 l i (by omega), ← hb0, ← hb1]
  rw [hv]
  clear hb0
  clear hb1
  clear hv
  have o1 : bits .or .u32 ((b0) * 256) b1 = (b0) * 256 + b1 := or_byte _ _ (by omega) (by omega) (by omega) (by omega)
  have o0 : bits .or .u32 0 b0 = b0 := or_zero _ (by omega) (by omega)
  go_enter Tryd.func50, Tryd.ntmps50
  go_wp2_with (go_at_call 61; refine (size16 _).mono ?_; rintro e w' ⟨rfl, rfl⟩)
  refine wp_loop_rounds 3 ?_
  rw [rounds_succ]
  go_wp2
  rw [rounds_succ]
  go_wp2
  rw [rounds_succ]
  go_wp2
  go_ret3
  exact ⟨rfl, rfl⟩

/-! ### Take, in one -/
theorem take8_ok (A : Option Addr) (n c : Nat) (i : Int) (hc : n ≤ 140737488355328) (h0 : 0 ≤ i) (h1 : i + 1 ≤ n) (w : World) (l : List UInt8) (hr : Rd w 1 A n c (bs l)) :
    Calls Tryd.prog 73 #[.slice A n c, .int .i64 i] w fun e w' => e = .returned (.tuple #[.int .u8 (val ((l.drop i.toNat).take 1)), .int .i64 (i + 1), .int .i64 0]) ∧ w = w' := by
  cases A with
  | none => have := (hr.nil_ rfl).1; omega
  | some ad =>
    obtain ⟨j, rfl⟩ := Int.eq_ofNat_of_zero_le h0
    rw [Int.toNat_natCast]
    exact take8_okN ad n c j hc (by omega) w l hr
theorem take8 (A : Option Addr) (n c : Nat) (i : Int) (hc : n ≤ 140737488355328) (w : World) (l : List UInt8) (hr : Rd w 1 A n c (bs l)) :
    Calls Tryd.prog 73 #[.slice A n c, .int .i64 i] w fun e w' => e = .returned (.tuple #[.int .u8 (takeR 1 l i).1, .int .i64 (takeR 1 l i).2.1, .int .i64 (takeR 1 l i).2.2]) ∧ w = w' := by
  have hl := hr.blen
  have hn := hr.le
  unfold takeR
  by_cases h : i < 0 ∨ (l.length : Int) < i
  · rw [if_pos h]
    exact take8_arg A n c i hn hc (by omega) w
  · rw [if_neg h]
    by_cases h2 : (l.length : Int) - i < (1 : Nat)
    · rw [if_pos h2]
      exact take8_short A n c i hn hc (by omega) (by omega) (by omega) w
    · rw [if_neg h2]
      exact take8_ok A n c i hc (by omega) (by omega) w l hr
theorem take16_ok (A : Option Addr) (n c : Nat) (i : Int) (hc : n ≤ 140737488355328) (h0 : 0 ≤ i) (h1 : i + 2 ≤ n) (w : World) (l : List UInt8) (hr : Rd w 1 A n c (bs l)) :
    Calls Tryd.prog 50 #[.slice A n c, .int .i64 i] w fun e w' => e = .returned (.tuple #[.int .u16 (val ((l.drop i.toNat).take 2)), .int .i64 (i + 2), .int .i64 0]) ∧ w = w' := by
  cases A with
  | none => have := (hr.nil_ rfl).1; omega
  | some ad =>
    obtain ⟨j, rfl⟩ := Int.eq_ofNat_of_zero_le h0
    rw [Int.toNat_natCast]
    exact take16_okN ad n c j hc (by omega) w l hr
theorem take16 (A : Option Addr) (n c : Nat) (i : Int) (hc : n ≤ 140737488355328) (w : World) (l : List UInt8) (hr : Rd w 1 A n c (bs l)) :
    Calls Tryd.prog 50 #[.slice A n c, .int .i64 i] w fun e w' => e = .returned (.tuple #[.int .u16 (takeR 2 l i).1, .int .i64 (takeR 2 l i).2.1, .int .i64 (takeR 2 l i).2.2]) ∧ w = w' := by
  have hl := hr.blen
  have hn := hr.le
  unfold takeR
  by_cases h : i < 0 ∨ (l.length : Int) < i
  · rw [if_pos h]
    exact take16_arg A n c i hn hc (by omega) w
  · rw [if_neg h]
    by_cases h2 : (l.length : Int) - i < (2 : Nat)
    · rw [if_pos h2]
      exact take16_short A n c i hn hc (by omega) (by omega) (by omega) w
    · rw [if_neg h2]
      exact take16_ok A n c i hc (by omega) (by omega) w l hr

/-! ### Later, Step -/

/-! ### Short texts -/
theorem takeText_arg (A : Option Addr) (n c : Nat) (i : Int) (hn : n ≤ c) (hc : n ≤ 140737488355328) (hi : i < 0 ∨ (n : Int) < i) (w : World) :
    Calls Tryd.prog 81 #[.slice A n c, .int .i64 i] w fun e w' => e = .returned (.tuple #[.string (str []), .int .i64 0, .int .i64 1]) ∧ w = w' := by
  go_enter Tryd.func81, Tryd.ntmps81
  go_wp2_with (go_at_call 73; refine (take8_arg _ _ _ _ hn hc hi _).mono ?_; rintro e w' ⟨rfl, rfl⟩)
  go_ret3
  exact ⟨rfl, rfl⟩
theorem takeText_short (A : Option Addr) (n c : Nat) (i : Int) (hn : n ≤ c) (hc : n ≤ 140737488355328) (h0 : 0 ≤ i) (h1 : i ≤ n) (h2 : (n : Int) < i + 1) (w : World) :
    Calls Tryd.prog 81 #[.slice A n c, .int .i64 i] w fun e w' => e = .returned (.tuple #[.string (str []), .int .i64 0, .int .i64 6]) ∧ w = w' := by
  go_enter Tryd.func81, Tryd.ntmps81
  go_wp2_with (go_at_call 73; refine (take8_short _ _ _ _ hn hc h0 h1 h2 _).mono ?_; rintro e w' ⟨rfl, rfl⟩)
  go_ret3
  exact ⟨rfl, rfl⟩
theorem takeText_less (ad : Addr) (n c : Nat) (i : Nat) (hc : n ≤ 140737488355328) (w : World) (l : List UInt8) (hr : Rd w 1 (some ad) n c (bs l)) (h1 : i + 1 ≤ n) (k : Nat) (hk : val ((l.drop i).take 1) = (k : Int)) (hk2 : k < 256) (h2 : n < i + 1 + k) :
    Calls Tryd.prog 81 #[.slice (some ad) n c, .int .i64 i] w fun e w' => e = .returned (.tuple #[.string (str []), .int .i64 0, .int .i64 6]) ∧ w = w' := by
  have hn := hr.le
  have HK := Lib.hid hk
  clear hk
  go_enter Tryd.func81, Tryd.ntmps81
  go_wp2_with (go_at_call 73; refine (take8_ok _ _ _ _ hc (by omega) (by omega) _ l hr).mono ?_; rintro e w' ⟨rfl, rfl⟩; simp only [Int.toNat_natCast]; rw [HK.out])
  go_ret3
  exact ⟨rfl, rfl⟩
set_option maxRecDepth 8000 in
theorem takeText_ok (ad : Addr) (n c : Nat) (i : Nat) (hc : n ≤ 140737488355328) (w : World) (l : List UInt8) (hr : Rd w 1 (some ad) n c (bs l)) (h1 : i + 1 ≤ n) (k : Nat) (hk : val ((l.drop i).take 1) = (k : Int)) (hk2 : k < 256) (h2 : i + 1 + k ≤ n) :
    Calls Tryd.prog 81 #[.slice (some ad) n c, .int .i64 i] w fun e w' => e = .returned (.tuple #[.string (str ((l.drop (i+1)).take k)), .int .i64 ((i : Int) + 1 + k), .int .i64 0]) ∧ w = w' := by
  have hn := hr.le
  have HK := Lib.hid hk
  clear hk
  by_cases hci : c = i + 1
  · obtain rfl : k = 0 := by omega
    subst hci
    have hcv := run_conv_str (P := Tryd.prog) (l := []) w Tryd.underlying27 Tryd.underlying5 Tryd.underlying9 (Rd.empty w 1 ad 0)
    go_enter Tryd.func81, Tryd.ntmps81
    go_wp2_with (go_at_call 73; refine (take8_ok _ _ _ _ hc (by omega) (by omega) _ l hr).mono ?_; rintro e w' ⟨rfl, rfl⟩; simp only [Int.toNat_natCast]; rw [HK.out])
    go_ret3
    exact ⟨by simp, rfl⟩
  · have hcv := run_conv_str (P := Tryd.prog) w Tryd.underlying27 Tryd.underlying5 Tryd.underlying9 (hr.bcutS i k h2)
    go_enter Tryd.func81, Tryd.ntmps81
    go_wp2_with (go_at_call 73; refine (take8_ok _ _ _ _ hc (by omega) (by omega) _ l hr).mono ?_; rintro e w' ⟨rfl, rfl⟩; simp only [Int.toNat_natCast]; rw [HK.out])
    go_ret3
    exact ⟨rfl, rfl⟩
theorem takeText_ (A : Option Addr) (n c : Nat) (i : Int) (hc : n ≤ 140737488355328) (w : World) (l : List UInt8) (hr : Rd w 1 A n c (bs l)) :
    Calls Tryd.prog 81 #[.slice A n c, .int .i64 i] w fun e w' => e = .returned (.tuple #[.string (str (textR l i).1), .int .i64 (textR l i).2.1, .int .i64 (textR l i).2.2]) ∧ w = w' := by
  have hl := hr.blen
  have hn := hr.le
  unfold textR
  by_cases h : i < 0 ∨ (l.length : Int) < i
  · rw [if_pos h]
    exact takeText_arg A n c i hn hc (by omega) w
  rw [if_neg h]
  by_cases h2 : (l.length : Int) - i < 1
  · rw [if_pos h2]
    exact takeText_short A n c i hn hc (by omega) (by omega) (by omega) w
  rw [if_neg h2]
  obtain ⟨j, rfl⟩ := Int.eq_ofNat_of_zero_le (show 0 ≤ i by omega)
  rw [Int.toNat_natCast]
  cases A with
  | none => have := (hr.nil_ rfl).1; omega
  | some ad =>
    obtain ⟨k, hk⟩ := Int.eq_ofNat_of_zero_le (val_nonneg ((l.drop j).take 1))
    have hk2 := val1_lt (l.drop j)
    rw [hk] at hk2 ⊢
    by_cases h3 : (l.length : Int) - ((j : Int) + 1) < k
    · rw [if_pos h3]
      exact takeText_less ad n c j hc w l hr (by omega) k hk (by omega) (by omega)
    · rw [if_neg h3]
      exact takeText_ok ad n c j hc w l hr (by omega) k hk (by omega) (by omega)
end Go.Proofs.YtdjknikkiojfhaaDoor

/- name.starts, Check, Parent; press.Size: contracts, by walks. -/
namespace Go.Proofs.YtdjknikkiojfhaaDoor
open Go.RowKit Go.HL
set_option linter.unusedVariables false
set_option linter.unusedSimpArgs false
theorem info_int : (Tryd.prog.info? 3).map (fun i => (i.zero, i.size, i.bytes)) = some (some (.int .i64 0), 1, 8) := by kernel_rfl
/-- What starts tells. -/
def StartsP (w : World) (s : ByteArray) (e : Ending) (w' : World) : Prop := ∃ A n c, e = .returned (.tuple #[.slice A n c, .bool (isNm s)]) ∧ (isNm s = true → (labsT s.data.toList).map List.length = some n) ∧ Below w.heap.size w w'
theorem starts_ (w : World) (s : ByteArray) (hs : s.size ≤ 140737488355328) : Calls Tryd.prog 57 #[.string s] w (StartsP w s) := by
  by_cases hbig : 255 < s.size
  · have hno : isNm s = false := by unfold isNm; rw [decide_eq_false (by omega)]; rfl
    have hb' : (255 : Int) < (s.size : Int) := by omega
    unfold StartsP
    rw [hno]
    go_enter Tryd.func57, Tryd.ntmps57
    go_wp2
    go_ret2
    exact ⟨none, 0, 0, rfl, (fun h => by cases h), Below.refl _ _⟩
  · have hb' : ¬ (255 : Int) < (s.size : Int) := by omega
    obtain ⟨l, hl⟩ : ∃ l, s.data.toList = l := ⟨_, rfl⟩
    have hll : l.length = s.size := by rw [← hl]; simp
    have HNM := Lib.hid (show isNm s = (labsT l).isSome by unfold isNm; rw [decide_eq_true (by omega), hl]; rfl)
    have hidx := fun (k : Nat) (hk : k < s.size) (W : World) => idx_str (P := Tryd.prog) 40 Tryd.underlying40 .i64 k s hk W
    rw [hl] at hidx
    have HIDX := Lib.hid hidx
    have HLL := Lib.hid hll
    have HL0 := Lib.hid hl
    clear hidx hll hl
    obtain ⟨N, hN⟩ : ∃ N, s.size = N := ⟨_, rfl⟩
    rw [hN] at HLL hb' HIDX
    have HN := Lib.hid hN
    have hN5 : N ≤ 255 := by omega
    clear hbig
    go_enter Tryd.func57, Tryd.ntmps57
    go_wp2
    go_loopw [4, 5] (fun v i wr => ∃ (k q : Nat) (cs : List Value), k ≤ N + 63 ∧ q ≤ k ∧ i = .int .i64 k ∧ wr.ownsRow w.heap.size 3 1 v q cs ∧ Hid ((labsT (l.drop k)).map (fun x => x.length + q) = (labsT l).map (fun x => x.length)) ∧ Below w.heap.size w wr) (fun _ i _ => N - (intOf i).toNat)
    case atStart => exact ⟨0, 0, [], by omega, Nat.le_refl _, rfl, World.ownsRow_nil _ _ _ _, Lib.hid (by simp), Below.refl _ _⟩
    case round =>
      obtain ⟨k, q, cs, hk, hqk, rfl, ho, HE, hb⟩ := hrel
      by_cases hlt : k < N
      · have hi1 : (k : Int) < (N : Int) := by omega
        have hx := HIDX.out k hlt
        have hbk := getD_some (l := l) (i := k) (by have := HLL.out; omega)
        obtain ⟨b, hbb⟩ : ∃ b, l.getD k 0 = b := ⟨_, rfl⟩
        rw [hbb] at hx hbk
        clear hbb
        have hb2 : b.toNat < 256 := b.toNat_lt
        obtain ⟨y, hy⟩ : ∃ y, b.toNat = y := ⟨_, rfl⟩
        rw [hy] at hx hb2
        have HBK := Lib.hid (And.intro hbk hy)
        clear hbk hy
        by_cases hy0 : y = 0
        · subst hy0
          have hb0 : b = 0 := UInt8.toNat_inj.1 (by simpa using HBK.out.2)
          have hat := labsT_at l k (by rw [← hb0]; exact HBK.out.1)
          have HAT := Lib.hid hat
          clear hat hb0
          by_cases hlast : k + 1 = N
          · have hd : ((k : Int) == (N : Int) - 1) = true := by simp; omega
            go_wp2
            go_ret2
            have hat := HAT.out
            rw [if_pos (by rw [HLL.out]; exact hlast)] at hat
            have he := HE.out
            rw [hat] at he
            obtain ⟨ls, h1, h2⟩ := Option.map_eq_some_iff.1 he.symm
            have hnm : isNm s = true := by rw [HNM.out, h1]; rfl
            obtain ⟨A, c, rfl, hr⟩ := own_rd ho
            exact ⟨A, q, c, by rw [hnm]; rfl, fun _ => by rw [HL0.out, h1]; simpa using h2, hb⟩
          · have hd : ((k : Int) == (N : Int) - 1) = false := by simp; omega
            go_wp2
            go_ret2
            have hat := HAT.out
            rw [if_neg (by rw [HLL.out]; exact hlast)] at hat
            have he := HE.out
            rw [hat] at he
            have hn := Option.map_eq_none_iff.1 he.symm
            have hnm : isNm s = false := by rw [HNM.out, hn]; rfl
            obtain ⟨A, c, rfl, hr⟩ := own_rd ho
            exact ⟨A, q, c, by rw [hnm]; rfl, (fun h => by rw [hnm] at h; cases h), hb⟩
        · have hy1 : ((y : Int) != 0) = true := by simp; omega
          by_cases hbig : 63 < y
          · have hbig' : (63 : Int) < (y : Int) := by omega
            go_wp2
            go_ret2
            have hov := labsT_over l k b HBK.out.1 (by rw [HBK.out.2]; exact hbig)
            have he := HE.out
            rw [hov] at he
            have hn := Option.map_eq_none_iff.1 he.symm
            have hnm : isNm s = false := by rw [HNM.out, hn]; rfl
            exact ⟨none, 0, 0, by rw [hnm]; rfl, (fun h => by rw [hnm] at h; cases h), hb⟩
          · have hbig' : ¬ (63 : Int) < (y : Int) := by omega
            have hstep := labsT_step l k b q HBK.out.1 (fun e => by have := HBK.out.2; rw [e] at this; simp at this; omega) (by rw [HBK.out.2]; omega)
            rw [HBK.out.2] at hstep
            have HST := Lib.hid (hstep.symm.trans HE.out)
            clear hstep
            have happ : App wr w.heap.size 3 1 u4 q cs := .own ho
            go_wp2_with (at_builtin; refine wpList_app1 (w0 := w) w.heap.size rfl _ _ 93 3 (.int .i64 0) 8 rfl Tryd.underlying93 info_int rfl (by omega) u4 q cs (.int .i64 k) rfl happ rfl rfl hb hb.size (by omega) ?_; intro v1 w1 ho1 hb1 hg1)
            go_roundw
            case rel => exact ⟨k + (1 + y), q + 1, _, by omega, by omega, by go_num, ho1, HST, hb1⟩
            case measure => simp [intOf]; omega
      · have hge : decide ((k : Int) < (N : Int)) = false := by simp; omega
        have hd : ((k : Int) == (N : Int) - 1) = false := by simp; omega
        go_wp2
        go_ret2
        have he := HE.out
        rw [List.drop_eq_nil_of_le (by rw [HLL.out]; omega), labsT_nil] at he
        have hn := Option.map_eq_none_iff.1 he.symm
        have hnm : isNm s = false := by rw [HNM.out, hn]; rfl
        obtain ⟨A, c, rfl, hr⟩ := own_rd ho
        exact ⟨A, q, c, by rw [hnm]; rfl, (fun h => by rw [hnm] at h; cases h), hb⟩
theorem check_ (w : World) (s : ByteArray) (hs : s.size ≤ 140737488355328) : Calls Tryd.prog 36 #[.string s] w fun e w' => e = .returned (.int .i64 (if isNm s then 0 else 11)) ∧ Below w.heap.size w w' := by
  have h := starts_ w s hs
  cases hn : isNm s with
  | true =>
    unfold StartsP at h
    rw [hn] at h
    clear hn
    go_enter Tryd.func36, Tryd.ntmps36
    go_wp2_with (go_at_call 57; refine h.mono ?_; clear h; rintro e w1 ⟨A, n, c, rfl, _, hb⟩)
    go_ret
    exact ⟨rfl, hb⟩
  | false =>
    unfold StartsP at h
    rw [hn] at h
    clear hn
    go_enter Tryd.func36, Tryd.ntmps36
    go_wp2_with (go_at_call 57; refine h.mono ?_; clear h; rintro e w1 ⟨A, n, c, rfl, _, hb⟩)
    go_ret
    exact ⟨rfl, hb⟩
theorem str_cut (l : List UInt8) (k : Nat) (h : k ≤ l.length) : (str l).extract k (str l).size = str (l.drop k) := by
  apply ByteArray.ext
  apply Array.ext'
  rw [str_size]
  simp [str]
  exact List.take_of_length_le (by simp)
theorem parent_ (w : World) (x : List UInt8) (ls : List (List UInt8)) (hok : okL (x :: ls)) (h255 : (gl (x :: ls)).length ≤ 255) : Calls Tryd.prog 91 #[.string (str (gl (x :: ls)))] w fun e w' => e = .returned (.tuple #[.string (str (gl ls)), .bool true]) ∧ Below w.heap.size w w' := by
  have hlen := gl_len x ls
  have hx := hok x (by simp)
  have hp := gl_pos ls
  have h := starts_ w (str (gl (x :: ls))) (by rw [str_size]; omega)
  have hnm : isNm (str (gl (x :: ls))) = true := by rw [isNm_gl hok]; exact decide_eq_true h255
  unfold StartsP at h
  rw [hnm] at h
  have hl := labsT_gl (x :: ls) hok
  have hi := fun W => idx_str (P := Tryd.prog) 40 Tryd.underlying40 .i64 0 (str (gl (x :: ls))) (by rw [str_size]; omega) W
  have hb0 : ((str (gl (x :: ls))).data.toList.getD 0 0).toNat = x.length := by
    rw [str_toList, gl_cons]
    simp only [List.getD_cons_zero]
    exact ofNat_len (by omega)
  rw [hb0] at hi
  have hi : ∀ W, (Instr.index 40 (.string (str (gl (x :: ls)))) (.int .i64 0)).run Tryd.prog W = .ok (.int .u8 (x.length : Int)) W := hi
  have hcut := str_cut (gl (x :: ls)) (1 + x.length) (by omega)
  rw [show (gl (x :: ls)).drop (1 + x.length) = gl ls by rw [gl_cons, Nat.add_comm, List.drop_succ_cons, List.drop_left]] at hcut
  obtain ⟨s, hs⟩ : ∃ s, str (gl (x :: ls)) = s := ⟨_, rfl⟩
  have hsz : s.size = 1 + x.length + (gl ls).length := by rw [← hs, str_size, hlen]
  have hlab : (labsT s.data.toList).map List.length = some (ls.length + 1) := by rw [← hs, str_toList, hl]; rfl
  rw [hs] at h hi hcut ⊢
  obtain ⟨k, hk⟩ : ∃ k, x.length = k := ⟨_, rfl⟩
  obtain ⟨m, hm⟩ : ∃ m, (gl ls).length = m := ⟨_, rfl⟩
  rw [hk] at hi hcut hsz hx
  rw [hm] at hsz
  have HSZ := Lib.hid hsz
  have HL := Lib.hid hlab
  have hle : 1 + (k : Int) ≤ (s.size : Int) := by omega
  have hcut' : s.extract (1 + k) s.size = str (gl ls) := hcut
  clear hs hb0 hl hlen hk hm hnm hp h255 hsz hlab hcut
  go_enter Tryd.func91, Tryd.ntmps91
  go_wp2_with (go_at_call 57; refine h.mono ?_; clear h; rintro e w1 ⟨A, n, c, rfl, hn, hb⟩; have hn1 : n = ls.length + 1 := by { have := hn rfl; rw [HL.out] at this; cases this; rfl }; have hn0 : ((n : Int) == 0) = false := by { simp; omega }; clear hn hn1)
  go_ret2
  exact ⟨by rw [← hcut']; rfl, hb⟩
end Go.Proofs.YtdjknikkiojfhaaDoor
