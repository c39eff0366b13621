/- name.starts, Check: contracts, by walks. -/
import Derived.Test.YtioehogncgloiaaChecked
import Derived.Test.YtioehogncgloiaaPA
import Derived.Test.YtioehogncgloiaaRS
namespace Go.Proofs.Ytioehogncgloiaa
open Go.RowKit Go.HL
set_option linter.unusedVariables false
set_option linter.unusedSimpArgs false
theorem info_int : (Try.prog.info? 3).map (fun i => (i.zero, i.size, i.bytes)) = some (some (.int .i64 0), 1, 8) := by kernel_rfl
/-- What starts tells. -/
def StartsP (w : World) (s : ByteArray) (e : Ending) (w' : World) : Prop := ∃ A n c, e = .returned (.tuple #[.slice A n c, .bool (isNm s)]) ∧ (isNm s = true → (labsT s.data.toList).map List.length = some n) ∧ Below w.heap.size w w'
theorem starts_ (w : World) (s : ByteArray) (hs : s.size ≤ 140737488355328) : Calls Try.prog 48 #[.string s] w (StartsP w s) := by
  by_cases hbig : 255 < s.size
  · have hno : isNm s = false := by unfold isNm; rw [decide_eq_false (by omega)]; rfl
    have hb' : (255 : Int) < (s.size : Int) := by omega
    unfold StartsP
    rw [hno]
    go_enter Try.func48, Try.ntmps48
    go_wp2
    go_ret2
    exact ⟨none, 0, 0, rfl, (fun h => by cases h), Below.refl _ _⟩
  · have hb' : ¬ (255 : Int) < (s.size : Int) := by omega
    obtain ⟨l, hl⟩ : ∃ l, s.data.toList = l := ⟨_, rfl⟩
    have hll : l.length = s.size := by rw [← hl]; simp
    have HNM := Lib.hid (show isNm s = (labsT l).isSome by unfold isNm; rw [decide_eq_true (by omega), hl]; rfl)
    have hidx := fun (k : Nat) (hk : k < s.size) (W : World) => idx_str (P := Try.prog) 22 Try.underlying22 .i64 k s hk W
    rw [hl] at hidx
    have HIDX := Lib.hid hidx
    have HLL := Lib.hid hll
    have HL0 := Lib.hid hl
    clear hidx hll hl
    obtain ⟨N, hN⟩ : ∃ N, s.size = N := ⟨_, rfl⟩
    rw [hN] at HLL hb' HIDX
    have HN := Lib.hid hN
    have hN5 : N ≤ 255 := by omega
    clear hbig
    go_enter Try.func48, Try.ntmps48
    go_wp2
    go_loopw [4, 5] (fun v i wr => ∃ (k q : Nat) (cs : List Value), k ≤ N + 63 ∧ q ≤ k ∧ i = .int .i64 k ∧ wr.ownsRow w.heap.size 3 1 v q cs ∧ Hid ((labsT (l.drop k)).map (fun x => x.length + q) = (labsT l).map (fun x => x.length)) ∧ Below w.heap.size w wr) (fun _ i _ => N - (intOf i).toNat)
    case atStart => exact ⟨0, 0, [], by omega, Nat.le_refl _, rfl, World.ownsRow_nil _ _ _ _, Lib.hid (by simp), Below.refl _ _⟩
    case round =>
      obtain ⟨k, q, cs, hk, hqk, rfl, ho, HE, hb⟩ := hrel
      by_cases hlt : k < N
      · have hi1 : (k : Int) < (N : Int) := by omega
        have hx := HIDX.out k hlt
        have hbk := getD_some (l := l) (i := k) (by have := HLL.out; omega)
        obtain ⟨b, hbb⟩ : ∃ b, l.getD k 0 = b := ⟨_, rfl⟩
        rw [hbb] at hx hbk
        clear hbb
        have hb2 : b.toNat < 256 := b.toNat_lt
        obtain ⟨y, hy⟩ : ∃ y, b.toNat = y := ⟨_, rfl⟩
        rw [hy] at hx hb2
        have HBK := Lib.hid (And.intro hbk hy)
        clear hbk hy
        by_cases hy0 : y = 0
        · subst hy0
          have hb0 : b = 0 := UInt8.toNat_inj.1 (by simpa using HBK.out.2)
          have hat := labsT_at l k (by rw [← hb0]; exact HBK.out.1)
          have HAT := Lib.hid hat
          clear hat hb0
          by_cases hlast : k + 1 = N
          · have hd : ((k : Int) == (N : Int) - 1) = true := by simp; omega
            go_wp2
            go_ret2
            have hat := HAT.out
            rw [if_pos (by rw [HLL.out]; exact hlast)] at hat
            have he := HE.out
            rw [hat] at he
            obtain ⟨ls, h1, h2⟩ := Option.map_eq_some_iff.1 he.symm
            have hnm : isNm s = true := by rw [HNM.out, h1]; rfl
            obtain ⟨A, c, rfl, hr⟩ := own_rd ho
            exact ⟨A, q, c, by rw [hnm]; rfl, fun _ => by rw [HL0.out, h1]; simpa using h2, hb⟩
          · have hd : ((k : Int) == (N : Int) - 1) = false := by simp; omega
            go_wp2
            go_ret2
            have hat := HAT.out
            rw [if_neg (by rw [HLL.out]; exact hlast)] at hat
            have he := HE.out
            rw [hat] at he
            have hn := Option.map_eq_none_iff.1 he.symm
            have hnm : isNm s = false := by rw [HNM.out, hn]; rfl
            obtain ⟨A, c, rfl, hr⟩ := own_rd ho
            exact ⟨A, q, c, by rw [hnm]; rfl, (fun h => by rw [hnm] at h; cases h), hb⟩
        · have hy1 : ((y : Int) != 0) = true := by simp; omega
          by_cases hbig : 63 < y
          · have hbig' : (63 : Int) < (y : Int) := by omega
            go_wp2
            go_ret2
            have hov := labsT_over l k b HBK.out.1 (by rw [HBK.out.2]; exact hbig)
            have he := HE.out
            rw [hov] at he
            have hn := Option.map_eq_none_iff.1 he.symm
            have hnm : isNm s = false := by rw [HNM.out, hn]; rfl
            exact ⟨none, 0, 0, by rw [hnm]; rfl, (fun h => by rw [hnm] at h; cases h), hb⟩
          · have hbig' : ¬ (63 : Int) < (y : Int) := by omega
            have hstep := labsT_step l k b q HBK.out.1 (fun e => by have := HBK.out.2; rw [e] at this; simp at this; omega) (by rw [HBK.out.2]; omega)
            rw [HBK.out.2] at hstep
            have HST := Lib.hid (hstep.symm.trans HE.out)
            clear hstep
            have happ : App wr w.heap.size 3 1 u4 q cs := .own ho
            go_wp2_with (at_builtin; refine wpList_app1 (w0 := w) w.heap.size rfl _ _ 70 3 (.int .i64 0) 8 rfl Try.underlying70 info_int rfl (by omega) u4 q cs (.int .i64 k) rfl happ rfl rfl hb hb.size (by omega) ?_; intro v1 w1 ho1 hb1 hg1)
            go_roundw
            case rel => exact ⟨k + (1 + y), q + 1, _, by omega, by omega, by go_num, ho1, HST, hb1⟩
            case measure => simp [intOf]; omega
      · have hge : decide ((k : Int) < (N : Int)) = false := by simp; omega
        have hd : ((k : Int) == (N : Int) - 1) = false := by simp; omega
        go_wp2
        go_ret2
        have he := HE.out
        rw [List.drop_eq_nil_of_le (by rw [HLL.out]; omega), labsT_nil] at he
        have hn := Option.map_eq_none_iff.1 he.symm
        have hnm : isNm s = false := by rw [HNM.out, hn]; rfl
        obtain ⟨A, c, rfl, hr⟩ := own_rd ho
        exact ⟨A, q, c, by rw [hnm]; rfl, (fun h => by rw [hnm] at h; cases h), hb⟩
theorem check_ (w : World) (s : ByteArray) (hs : s.size ≤ 140737488355328) : Calls Try.prog 32 #[.string s] w fun e w' => e = .returned (.int .i64 (if isNm s then 0 else 11)) ∧ Below w.heap.size w w' := by
  have h := starts_ w s hs
  cases hn : isNm s with
  | true =>
    unfold StartsP at h
    rw [hn] at h
    clear hn
    go_enter Try.func32, Try.ntmps32
    go_wp2_with (go_at_call 48; refine h.mono ?_; clear h; rintro e w1 ⟨A, n, c, rfl, _, hb⟩)
    go_ret
    exact ⟨rfl, hb⟩
  | false =>
    unfold StartsP at h
    rw [hn] at h
    clear hn
    go_enter Try.func32, Try.ntmps32
    go_wp2_with (go_at_call 48; refine h.mono ?_; clear h; rintro e w1 ⟨A, n, c, rfl, _, hb⟩)
    go_ret
    exact ⟨rfl, hb⟩
theorem str_cut (l : List UInt8) (k : Nat) (h : k ≤ l.length) : (str l).extract k (str l).size = str (l.drop k) := by
  apply ByteArray.ext
  apply Array.ext'
  rw [str_size]
  simp [str]
  exact List.take_of_length_le (by simp)
end Go.Proofs.Ytioehogncgloiaa
