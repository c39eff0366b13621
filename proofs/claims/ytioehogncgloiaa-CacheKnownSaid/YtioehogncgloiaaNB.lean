/- hearsayref01.Split, Is: contracts, by walks. -/
import Derived.Test.YtioehogncgloiaaNA
namespace Go.Proofs.Ytioehogncgloiaa
open Go.RowKit Go.HL
set_option linter.unusedVariables false
set_option linter.unusedSimpArgs false
theorem info_str : (Try.prog.info? 9).map (fun i => (i.zero, i.size, i.bytes)) = some (some (.string ByteArray.empty), 1, 16) := by kernel_rfl
/-- Labels as values. -/
def strs (ls : List (List UInt8)) : List Value := ls.map fun x => .string (str x)
theorem strs_snoc (ls : List (List UInt8)) (x : List UInt8) : strs (ls ++ [x]) = strs ls ++ [.string (str x)] := by simp [strs]
def SplitP (w : World) (s : ByteArray) (e : Ending) (w' : World) : Prop :=
  ∃ A n c, e = .returned (.tuple #[.slice A n c, .bool (isNm s)]) ∧ (isNm s = true → ∃ ls, labsT s.data.toList = some ls ∧ w'.ownsRow w.heap.size 9 1 (.slice A n c) ls.length (strs ls)) ∧ Below w.heap.size w w'
def InvS (w : World) (l : List UInt8) (v s : Value) (wr : World) : Prop :=
  ∃ (m : List UInt8) (pre : List (List UInt8)), s = .string (str m) ∧ pre.length + m.length ≤ 255 ∧ wr.ownsRow w.heap.size 9 1 v pre.length (strs pre) ∧ Hid ((labsT m).map (pre ++ ·) = labsT l) ∧ Below w.heap.size w wr
def sLen : Value → Nat
  | .string s => s.size
  | _ => 0
theorem str_mid (l : List UInt8) (i k : Nat) (h : i + k ≤ l.length) : (str l).extract i (i + k) = str ((l.drop i).take k) := by
  apply ByteArray.ext
  apply Array.ext'
  simp [str, List.drop_take, show i + k - i = k by omega]
set_option maxHeartbeats 1000000 in
theorem split_ (w : World) (s : ByteArray) (hs : s.size ≤ 140737488355328) : Calls Try.prog 52 #[.string s] w (SplitP w s) := by
  by_cases hbig : 255 < s.size
  · have hno : isNm s = false := by unfold isNm; rw [decide_eq_false (by omega)]; rfl
    have hb' : (255 : Int) < (s.size : Int) := by omega
    unfold SplitP
    rw [hno]
    go_enter Try.func52, Try.ntmps52
    go_wp2
    go_ret2
    exact ⟨none, 0, 0, rfl, (fun h => by cases h), Below.refl _ _⟩
  · have hb' : ¬ (255 : Int) < (s.size : Int) := by omega
    obtain ⟨l, hl⟩ : ∃ l, s.data.toList = l := ⟨_, rfl⟩
    have hsl : s = str l := by
      apply ByteArray.ext
      apply Array.ext'
      rw [hl, str_toList]
    have hll : l.length = s.size := by rw [← hl]; simp
    have HNM := Lib.hid (show isNm s = (labsT l).isSome by unfold isNm; rw [decide_eq_true (by omega), hl]; rfl)
    have HSL := Lib.hid hsl
    have HL0 := Lib.hid hl
    have HLL := Lib.hid hll
    clear hll hl hbig hsl
    go_enter Try.func52, Try.ntmps52
    go_wp2
    go_loopw [4, 5] (fun v s wr => InvS w l v s wr) (fun _ s _ => sLen s)
    case atStart => exact ⟨l, [], by rw [HSL.out], by have := HLL.out; simp; omega, World.ownsRow_nil _ _ _ _, Lib.hid (by simp), Below.refl _ _⟩
    case round =>
      obtain ⟨m, pre, rfl, hpm, ho, HE, hb⟩ := hrel
      cases m with
      | nil =>
        go_wp2
        go_ret2
        have he := HE.out
        rw [labsT_nil] at he
        have hnm : isNm s = false := by rw [HNM.out, ← he]; rfl
        exact ⟨none, 0, 0, by rw [hnm]; rfl, (fun h => by rw [hnm] at h; cases h), hb⟩
      | cons b r =>
        rw [List.length_cons] at hpm
        have hi := fun W => idx_str (P := Try.prog) 9 Try.underlying9 .i64 0 (str (b :: r)) (by rw [str_size]; simp) W
        rw [str_toList] at hi
        simp only [List.getD_cons_zero] at hi
        have hi : ∀ W, (Instr.index 9 (.string (str (b :: r))) (.int .i64 0)).run Try.prog W = .ok (.int .u8 (b.toNat : Int)) W := hi
        have hm1 := fun k (h : k ≤ r.length) => str_mid (b :: r) 1 k (by simp; omega)
        have hm2 := fun k (h : k ≤ r.length) => str_cut (b :: r) (k + 1) (by simp; omega)
        simp only [List.drop_succ_cons, List.drop_zero] at hm1 hm2
        have hsz : (str (b :: r)).size = r.length + 1 := by rw [str_size]; simp
        have he := HE.out
        clear HE
        obtain ⟨k, hk⟩ : ∃ k, b.toNat = k := ⟨_, rfl⟩
        have hk2 : k < 256 := by rw [← hk]; exact b.toNat_lt
        rw [hk] at hi
        by_cases hk0 : k = 0
        · have hb0 : b = 0 := UInt8.toNat_inj.1 (by simpa [hk0] using hk)
          rw [hb0, labsT_zero] at he
          subst hk0
          have HE := Lib.hid he
          obtain ⟨s1, hs1⟩ : ∃ s1, str (b :: r) = s1 := ⟨_, rfl⟩
          rw [hs1] at hi hsz ⊢
          have hs0 : (0 : Int) < (s1.size : Int) := by omega
          clear he hm1 hm2 hk hs1
          by_cases hr0 : r.length = 0
          · have hd : ((s1.size : Int) == 1) = true := by simp; omega
            clear hsz
            go_wp2
            go_ret2
            have he := HE.out
            rw [if_pos (List.eq_nil_of_length_eq_zero hr0)] at he
            have he2 : labsT l = some pre := by rw [← he]; simp
            have hnm : isNm s = true := by rw [HNM.out, he2]; rfl
            obtain ⟨A, c, rfl, hr⟩ := own_rd ho
            exact ⟨A, _, c, by rw [hnm]; rfl, fun _ => ⟨pre, by rw [HL0.out]; exact he2, ho⟩, hb⟩
          · have hd : ((s1.size : Int) == 1) = false := by simp; omega
            clear hsz
            go_wp2
            go_ret2
            have he := HE.out
            rw [if_neg (fun e => hr0 (by rw [e]; rfl))] at he
            have hnm : isNm s = false := by rw [HNM.out, ← he]; rfl
            obtain ⟨A, c, rfl, hr⟩ := own_rd ho
            exact ⟨A, _, c, by rw [hnm]; rfl, (fun h => by rw [hnm] at h; cases h), hb⟩
        · have hk1 : ((k : Int) == 0) = false := by simp; omega
          by_cases h63 : 63 < k
          · have h63' : (63 : Int) < (k : Int) := by omega
            rw [labsT_big b r (by omega)] at he
            have HE := Lib.hid he
            obtain ⟨s1, hs1⟩ : ∃ s1, str (b :: r) = s1 := ⟨_, rfl⟩
            rw [hs1] at hi hsz ⊢
            have hs0 : (0 : Int) < (s1.size : Int) := by omega
            clear he hm1 hm2 hk hs1
            go_wp2
            go_ret2
            have hnm : isNm s = false := by rw [HNM.out, ← HE.out]; rfl
            exact ⟨none, 0, 0, by rw [hnm]; rfl, (fun h => by rw [hnm] at h; cases h), hb⟩
          have h63' : ¬ (63 : Int) < (k : Int) := by omega
          rw [labsT_cons b r (fun e => hk0 (by rw [← hk, e]; rfl)) (by omega), hk] at he
          by_cases hsh : r.length < k
          · rw [if_pos hsh] at he
            have HE := Lib.hid he
            obtain ⟨s1, hs1⟩ : ∃ s1, str (b :: r) = s1 := ⟨_, rfl⟩
            rw [hs1] at hi hsz ⊢
            have hs0 : (0 : Int) < (s1.size : Int) := by omega
            have hs2 : (s1.size : Int) < (k : Int) + 1 := by omega
            clear he hm1 hm2 hk hs1
            go_wp2
            go_ret2
            have hnm : isNm s = false := by rw [HNM.out, ← HE.out]; rfl
            exact ⟨none, 0, 0, by rw [hnm]; rfl, (fun h => by rw [hnm] at h; cases h), hb⟩
          · rw [if_neg hsh, Option.map_map] at he
            have HE := Lib.hid (show (labsT (r.drop k)).map ((pre ++ [r.take k]) ++ ·) = labsT l by
              rw [← he]
              congr 1
              funext x
              simp)
            have hm1 := hm1 k (by omega)
            have hm2 := hm2 k (by omega)
            obtain ⟨s1, hs1⟩ : ∃ s1, str (b :: r) = s1 := ⟨_, rfl⟩
            rw [hs1] at hi hsz hm1 hm2 ⊢
            obtain ⟨x1, hx1⟩ : ∃ x1, str (r.take k) = x1 := ⟨_, rfl⟩
            obtain ⟨x2, hx2⟩ : ∃ x2, str (r.drop k) = x2 := ⟨_, rfl⟩
            rw [hx1, Nat.add_comm 1 k] at hm1
            rw [hx2] at hm2
            have HX1 := Lib.hid hx1
            have HX2 := Lib.hid hx2
            have hs0 : (0 : Int) < (s1.size : Int) := by omega
            have hs2 : ¬ (s1.size : Int) < (k : Int) + 1 := by omega
            have hs3 : (k : Int) + 1 ≤ (s1.size : Int) := by omega
            have hsr : s1.size = r.length + 1 := hsz
            have HSR := Lib.hid hsr
            clear he hk hs1 hx1 hx2 hsz hsr
            obtain ⟨A1, c1, rfl, hr1⟩ := own_rd ho
            have happ : App wr w.heap.size 9 1 (.slice A1 pre.length c1) pre.length (strs pre) := .own ho
            clear hr1
            go_wp2_with (at_builtin; refine wpList_app1 (w0 := w) w.heap.size rfl _ _ 102 9 (.string ByteArray.empty) 16 rfl Try.underlying102 info_str rfl (by omega) (.slice A1 pre.length c1) pre.length (strs pre) (.string x1) rfl happ rfl rfl hb hb.size (by omega) ?_; intro v1 w1 ho1 hb1 hg1)
            go_roundw
            case rel => exact ⟨r.drop k, pre ++ [r.take k], by rw [HX2.out], by rw [List.length_append, List.length_drop]; simp; omega, by rw [strs_snoc, HX1.out, List.length_append]; exact ho1, HE, hb1⟩
            case measure => show x2.size < s1.size; rw [← HX2.out, str_size, List.length_drop, HSR.out]; omega
theorem is_ (w : World) (s : ByteArray) (hs : s.size ≤ 140737488355328) : Calls Try.prog 43 #[.string s] w fun e w' => e = .returned (.bool (isNm s)) ∧ Below w.heap.size w w' := by
  go_enter Try.func43, Try.ntmps43
  go_wp2_with (go_at_call 52; refine (split_ _ _ hs).mono ?_; rintro e w1 ⟨A, n, c, rfl, hn, hb⟩; clear hn)
  go_ret
  exact ⟨rfl, hb⟩
end Go.Proofs.Ytioehogncgloiaa
