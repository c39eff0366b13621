/- hearsayref01.Glue: contract, by a walk. -/
import Derived.Test.YtobfahafpmipfaaPO
namespace Go.Proofs.Ytobfahafpmipfaa
open Go.RowKit Go.HL
set_option linter.unusedVariables false
set_option linter.unusedSimpArgs false
theorem str_app (a b : List UInt8) : str a ++ str b = str (a ++ b) := by
  apply ByteArray.ext
  apply Array.ext'
  simp [str]
attribute [local go_sem] str_app
theorem one_rd (W : World) (k : Nat) (h : k < 256) : Rd (W.alloc (.cells #[.int .u8 (k : Int)] 5)) 1 (some ⟨W.heap.size, 0, none⟩) 1 1 (bs [UInt8.ofNat k]) := by
  refine ⟨rfl, fun h => (by cases h), Nat.le_refl _, fun ad had => ?_⟩
  cases had
  have e : bs [UInt8.ofNat k] = [.int .u8 (k : Int)] := by
    simp only [bs, List.map_cons, List.map_nil, B]
    rw [ofNat_len (by omega)]
  rw [e]
  exact World.news_of_block (cs := #[.int .u8 (k : Int)]) (t := 5) (fr := (0, 0)) (heap_alloc_new W _)
theorem flat_take (ls : List (List UInt8)) (i : Nat) (x : List UInt8) (h : ls[i]? = some x) : flat (ls.take (i + 1)) = flat (ls.take i) ++ UInt8.ofNat x.length :: x := by
  obtain ⟨hi, h2⟩ := List.getElem?_eq_some_iff.1 h
  rw [List.take_succ_eq_append_getElem hi, h2, flat_snoc]
theorem flat_take_len (ls : List (List UInt8)) (i : Nat) : (flat (ls.take i)).length ≤ (flat ls).length := by
  conv => rhs; rw [← List.take_append_drop i ls]
  simp only [flat, List.flatMap_append, List.length_append]
  omega
set_option maxHeartbeats 1000000 in
theorem glue_ (w : World) (A : Option Addr) (n c : Nat) (ls : List (List UInt8)) (hr : Rd w 1 A n c (strs ls)) (hok : okL ls) (h255 : (gl ls).length ≤ 255) : Calls Try.prog 23 #[.slice A n c] w fun e w' => e = .returned (.string (str (gl ls))) ∧ Below w.heap.size w w' := by
  have hl : ls.length = n := by have := hr.len; simpa [strs] using this
  have hnc := hr.le
  have hn : n ≤ 255 := by have := gl_count ls; omega
  have hfl := fun (i : Nat) => flat_take_len ls i
  rw [gl_flat, List.length_append] at h255
  simp only [List.length_cons, List.length_nil] at h255
  have HFL := Lib.hid hfl
  clear hfl
  have HR := Lib.hid hr
  have HL := Lib.hid hl
  clear hr hl
  go_enter Try.func23, Try.ntmps23
  go_wp2
  go_loopw [3, 4] (fun s v wr => ∃ i : Nat, i ≤ n ∧ v = .int .i64 i ∧ s = .string (str (flat (ls.take i))) ∧ Below w.heap.size w wr) (fun _ v _ => n - (intOf v).toNat)
  case atStart => exact ⟨0, Nat.zero_le _, rfl, rfl, Below.refl _ _⟩
  case round =>
    obtain ⟨i, hi, rfl, rfl, hb⟩ := hrel
    by_cases hlt : i < n
    · have hi1 : (i : Int) < (n : Int) := by omega
      obtain ⟨x, hx⟩ : ∃ x, ls[i]? = some x := ⟨_, List.getElem?_eq_getElem (by rw [HL.out]; exact hlt)⟩
      have hxl := hok x (List.mem_of_getElem? hx)
      have hft := flat_take ls i x hx
      obtain ⟨pre, hpre⟩ : ∃ p, flat (ls.take i) = p := ⟨_, rfl⟩
      rw [hpre] at hft
      rw [hpre]
      have HFT := Lib.hid hft
      have hpl : (str pre).size ≤ 255 := by have := HFL.out i; rw [hpre] at this; rw [str_size]; omega
      clear hft hpre
      obtain ⟨k, hk⟩ : ∃ k, x.length = k := ⟨_, rfl⟩
      rw [hk] at hxl
      cases A with
      | none => have := (HR.out.nil_ rfl).1; omega
      | some ad =>
        have HCX := Lib.hid (fun W (hbw : Below wr.heap.size wr W) => (((HR.out.below hb).below hbw).cells ad rfl i (.string (str x)) (by simp [strs, hx]) : W.cell? (ad.add i) = some (.string (str x))))
        have HKX := Lib.hid hk
        have hsx : (str x).size = k := by rw [str_size]; exact hk
        clear hx hk
        have hk8 : IntKind.u8.wrap (k : Int) = (k : Int) := wraps_u8 _ (by omega) (by omega)
        have hc1 : wr.cell? (ad.add i) = some (.string (str x)) := HCX.out _ (Below.refl _ _)
        have hc2 : (wr.alloc (.cells #[.int .u8 (k : Int)] 5)).cell? (ad.add i) = some (.string (str x)) := HCX.out _ ((Below.refl _ _).alloc (Nat.le_refl _) _)
        have hcv := run_conv_str (P := Try.prog) (dst := 9) (wr.alloc (.cells #[.int .u8 (k : Int)] 5)).drew Try.underlying22 Try.underlying5 Try.underlying9 (one_rd wr k (by omega)).drew
        have hs1 : (str pre).size ≤ 255 := by omega
        have hs2 : (str [UInt8.ofNat k]).size = 1 := rfl
        have hlim1 : ¬ 9223372036854775807 < (str pre).size + (str [UInt8.ofNat k]).size := by omega
        have hs3 : (str (pre ++ [UInt8.ofNat k])).size = (str pre).size + 1 := by rw [str_size, str_size]; simp
        have hlim2 : ¬ 9223372036854775807 < (str (pre ++ [UInt8.ofNat k])).size + k := by omega
        clear hs1 hs2 hs3
        go_wp2_with (fail)
        go_region
        have hbx : Below w.heap.size w (wr.alloc (.cells #[.int .u8 (k : Int)] 5)).drew := (hb.alloc hb.size _).drew
        go_wp2
        go_roundw
        case rel => exact ⟨i + 1, by omega, by go_num, by rw [HFT.out, HKX.out], hbx⟩
        case measure => simp [intOf]; omega
    · have hge : decide ((i : Int) < (n : Int)) = false := by simp; omega
      have hin : i = n := by omega
      have e1 : flat (ls.take i) = flat ls := by rw [List.take_of_length_le (by rw [HL.out]; omega)]
      rw [e1]
      have e2 : flat ls ++ [0] = gl ls := rfl
      have e3 : (⟨#[0]⟩ : ByteArray) = str [0] := rfl
      have hcat : str (flat ls) ++ (⟨#[0]⟩ : ByteArray) = str (gl ls) := by rw [e3, str_app, e2]
      clear e1 e2 e3
      have hlim : ¬ 9223372036854775807 < (str (flat ls)).size + 1 := by rw [str_size]; omega
      obtain ⟨s1, hs1⟩ : ∃ s, str (flat ls) = s := ⟨_, rfl⟩
      rw [hs1] at hcat hlim ⊢
      go_wp2
      go_ret
      exact ⟨rfl, hb⟩
end Go.Proofs.Ytobfahafpmipfaa
