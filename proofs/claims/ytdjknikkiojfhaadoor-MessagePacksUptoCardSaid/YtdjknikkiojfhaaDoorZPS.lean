import Derived.Test.YtdjknikkiojfhaaDoorZRDF
import Derived.Test.YtdjknikkiojfhaaDoorZRDA
import Derived.Test.YtdjknikkiojfhaaDoorZHR
import Derived.Test.YtdjknikkiojfhaaDoorZHT
/- The document's data: what Raw may be. -/
namespace Go.Proofs.YtdjknikkiojfhaaDoor
open Go.RowKit Go.HL Go.Maps
set_option linter.unusedVariables false
set_option linter.unusedSimpArgs false
def rawT (t : Int) (s : ByteArray) : Bool :=
  if hostT t then s.toList.isEmpty else if t = 1 then ((s.size : Int) == 4) else if t = 28 then ((s.size : Int) == 16)
  else if t = 16 then txtV s.data.toList && decide ((s.size : Int) ≤ 65535) else decide ((s.size : Int) ≤ 65535)
set_option maxRecDepth 8000 in
set_option maxHeartbeats 4000000 in
theorem raw_ (w : World) (t : Int) (s : ByteArray) (hs : s.size ≤ 100000000) : Calls Tryd.prog 70 #[.int .u16 t, .string s] w fun e w' => e = .returned (.bool (rawT t s)) ∧ Below w.heap.size w w' := by
  have htx := rtexts_ w s.data.toList (by simpa using hs)
  rw [show str s.data.toList = s by simp [str]] at htx
  have hnm := fun W => names_ W t
  have hbr := Below.refl w.heap.size w
  rcases tcase t with rfl | rfl | rfl | rfl | rfl | rfl | rfl | rfl | rfl | h
  · rw [show hostT 1 = false from rfl] at hnm
    rw [show rawT 1 s = ((s.size : Int) == 4) from rfl]
    clear htx
    go_enter Tryd.func70, Tryd.ntmps70
    go_wp2_with (first | (go_at_call 83; refine htx.mono ?_; clear htx; rintro e W2 ⟨⟨v2, rfl⟩, hb2⟩) | (go_at_call 68; refine (hnm _).mono ?_; clear hnm; rintro e W1 ⟨rfl, ex⟩; rw [ex]; clear ex W1))
    go_ret
    exact ⟨rfl, hbr⟩
  · rw [show hostT 2 = true from rfl] at hnm
    rw [show rawT 2 s = s.toList.isEmpty from rfl]
    clear htx
    go_enter Tryd.func70, Tryd.ntmps70
    go_wp2_with (first | (go_at_call 83; refine htx.mono ?_; clear htx; rintro e W2 ⟨⟨v2, rfl⟩, hb2⟩) | (go_at_call 68; refine (hnm _).mono ?_; clear hnm; rintro e W1 ⟨rfl, ex⟩; rw [ex]; clear ex W1))
    go_ret
    exact ⟨rfl, hbr⟩
  · rw [show hostT 5 = true from rfl] at hnm
    rw [show rawT 5 s = s.toList.isEmpty from rfl]
    clear htx
    go_enter Tryd.func70, Tryd.ntmps70
    go_wp2_with (first | (go_at_call 83; refine htx.mono ?_; clear htx; rintro e W2 ⟨⟨v2, rfl⟩, hb2⟩) | (go_at_call 68; refine (hnm _).mono ?_; clear hnm; rintro e W1 ⟨rfl, ex⟩; rw [ex]; clear ex W1))
    go_ret
    exact ⟨rfl, hbr⟩
  · rw [show hostT 6 = true from rfl] at hnm
    rw [show rawT 6 s = s.toList.isEmpty from rfl]
    clear htx
    go_enter Tryd.func70, Tryd.ntmps70
    go_wp2_with (first | (go_at_call 83; refine htx.mono ?_; clear htx; rintro e W2 ⟨⟨v2, rfl⟩, hb2⟩) | (go_at_call 68; refine (hnm _).mono ?_; clear hnm; rintro e W1 ⟨rfl, ex⟩; rw [ex]; clear ex W1))
    go_ret
    exact ⟨rfl, hbr⟩
  · rw [show hostT 12 = true from rfl] at hnm
    rw [show rawT 12 s = s.toList.isEmpty from rfl]
    clear htx
    go_enter Tryd.func70, Tryd.ntmps70
    go_wp2_with (first | (go_at_call 83; refine htx.mono ?_; clear htx; rintro e W2 ⟨⟨v2, rfl⟩, hb2⟩) | (go_at_call 68; refine (hnm _).mono ?_; clear hnm; rintro e W1 ⟨rfl, ex⟩; rw [ex]; clear ex W1))
    go_ret
    exact ⟨rfl, hbr⟩
  · rw [show hostT 15 = true from rfl] at hnm
    rw [show rawT 15 s = s.toList.isEmpty from rfl]
    clear htx
    go_enter Tryd.func70, Tryd.ntmps70
    go_wp2_with (first | (go_at_call 83; refine htx.mono ?_; clear htx; rintro e W2 ⟨⟨v2, rfl⟩, hb2⟩) | (go_at_call 68; refine (hnm _).mono ?_; clear hnm; rintro e W1 ⟨rfl, ex⟩; rw [ex]; clear ex W1))
    go_ret
    exact ⟨rfl, hbr⟩
  · rw [show hostT 16 = false from rfl] at hnm
    rw [show rawT 16 s = (txtV s.data.toList && decide ((s.size : Int) ≤ 65535)) from rfl]
    cases hx : txtV s.data.toList
    · rw [hx] at htx
      clear hx
      go_enter Tryd.func70, Tryd.ntmps70
      go_wp2_with (first | (go_at_call 83; refine htx.mono ?_; clear htx; rintro e W2 ⟨⟨v2, rfl⟩, hb2⟩) | (go_at_call 68; refine (hnm _).mono ?_; clear hnm; rintro e W1 ⟨rfl, ex⟩; rw [ex]; clear ex W1))
      go_ret
      exact ⟨rfl, hb2⟩
    · rw [hx] at htx
      clear hx
      go_enter Tryd.func70, Tryd.ntmps70
      go_wp2_with (first | (go_at_call 83; refine htx.mono ?_; clear htx; rintro e W2 ⟨⟨v2, rfl⟩, hb2⟩) | (go_at_call 68; refine (hnm _).mono ?_; clear hnm; rintro e W1 ⟨rfl, ex⟩; rw [ex]; clear ex W1))
      go_ret
      exact ⟨rfl, hb2⟩
  · rw [show hostT 28 = false from rfl] at hnm
    rw [show rawT 28 s = ((s.size : Int) == 16) from rfl]
    clear htx
    go_enter Tryd.func70, Tryd.ntmps70
    go_wp2_with (first | (go_at_call 83; refine htx.mono ?_; clear htx; rintro e W2 ⟨⟨v2, rfl⟩, hb2⟩) | (go_at_call 68; refine (hnm _).mono ?_; clear hnm; rintro e W1 ⟨rfl, ex⟩; rw [ex]; clear ex W1))
    go_ret
    exact ⟨rfl, hbr⟩
  · rw [show hostT 33 = true from rfl] at hnm
    rw [show rawT 33 s = s.toList.isEmpty from rfl]
    clear htx
    go_enter Tryd.func70, Tryd.ntmps70
    go_wp2_with (first | (go_at_call 83; refine htx.mono ?_; clear htx; rintro e W2 ⟨⟨v2, rfl⟩, hb2⟩) | (go_at_call 68; refine (hnm _).mono ?_; clear hnm; rintro e W1 ⟨rfl, ex⟩; rw [ex]; clear ex W1))
    go_ret
    exact ⟨rfl, hbr⟩
  · obtain ⟨e1, e2, e5, e6, e12, e15, e16, e28, e33⟩ := h
    have hh : hostT t = false := by unfold hostT; rw [e2, e5, e12, e6, e15, e33]; rfl
    have hr : rawT t s = decide ((s.size : Int) ≤ 65535) := by
      simp only [beq_eq_false_iff_ne, ne_eq] at e1 e28 e16
      unfold rawT
      rw [hh, if_neg (by decide), if_neg e1, if_neg e28, if_neg e16]
    rw [hh] at hnm
    rw [hr]
    clear hr hh htx
    go_enter Tryd.func70, Tryd.ntmps70
    go_wp2_with (first | (go_at_call 83; refine htx.mono ?_; clear htx; rintro e W2 ⟨⟨v2, rfl⟩, hb2⟩) | (go_at_call 68; refine (hnm _).mono ?_; clear hnm; rintro e W1 ⟨rfl, ex⟩; rw [ex]; clear ex W1))
    go_ret
    exact ⟨rfl, hbr⟩
end Go.Proofs.YtdjknikkiojfhaaDoor

/- The document's Check of data: its loop over the numbers, plainly. -/
namespace Go.Proofs.YtdjknikkiojfhaaDoor
open Go.RowKit Go.HL Go.Maps
set_option linter.unusedVariables false
set_option linter.unusedSimpArgs false
/-- Is the k-th number one that may be? -/
def nOk (t : Int) (d : Dt) (k : Nat) : Bool := !((decide ((numT t).1 ≤ (k : Int)) && !(d.getN k == 0)) || (decide ((k : Int) < (numT t).1) && ((numT t).2 == 16) && decide (65535 < d.getN k)))
def okN (t : Int) (d : Dt) : Bool := nOk t d 0 && nOk t d 1 && nOk t d 2 && nOk t d 3 && nOk t d 4
def okR (t : Int) (d : Dt) : Bool := rawT t d.raw && (hostT t == isNm d.host) && (hostT t || d.host.toList.isEmpty) && ((t == 6) == isNm d.mail) && ((t == 6) || d.mail.toList.isEmpty) && okN t d
theorem isNm_nil : isNm ⟨#[]⟩ = false := by decide
theorem toList_empty (s : ByteArray) : s.toList.isEmpty = decide (s = ⟨#[]⟩) := by
  rw [Bool.eq_iff_iff, decide_eq_true_eq, List.isEmpty_iff]
  constructor
  · intro h
    exact toList_inj (h.trans (ByteArray.toList_mk []).symm)
  · rintro rfl
    exact ByteArray.toList_mk []
/-- What the program and the document hold of data is one. -/
theorem okF_okR (t : Int) (d : Dt) (h0 : 0 ≤ d.n0) (h1 : 0 ≤ d.n1) (h2 : 0 ≤ d.n2) (h3 : 0 ≤ d.n3) (h4 : 0 ≤ d.n4) : okF (formV t) d = okR t d := by
  obtain ⟨raw, host, mail, n0, n1, n2, n3, n4⟩ := d
  simp only at h0 h1 h2 h3 h4
  rcases tcase t with rfl | rfl | rfl | rfl | rfl | rfl | rfl | rfl | rfl | h
  · show okF [97] _ = _
    unfold okF okR chks okN nOk rawT
    rw [Bool.eq_iff_iff]
    simp [chk, toList_empty, Dt.zero, Dt.getN, Dt.setN, numT, hostT]
    try (constructor <;> intro hx <;> simp_all [isNm_nil] <;> omega)
  · show okF [104] _ = _
    unfold okF okR chks okN nOk rawT
    rw [Bool.eq_iff_iff]
    simp [chk, toList_empty, Dt.zero, Dt.getN, Dt.setN, numT, hostT]
    try (constructor <;> intro hx <;> simp_all [isNm_nil] <;> omega)
  · show okF [104] _ = _
    unfold okF okR chks okN nOk rawT
    rw [Bool.eq_iff_iff]
    simp [chk, toList_empty, Dt.zero, Dt.getN, Dt.setN, numT, hostT]
    try (constructor <;> intro hx <;> simp_all [isNm_nil] <;> omega)
  · show okF [104, 109, 108, 108, 108, 108, 108] _ = _
    unfold okF okR chks okN nOk rawT
    rw [Bool.eq_iff_iff]
    simp [chk, toList_empty, Dt.zero, Dt.getN, Dt.setN, numT, hostT]
    try (constructor <;> intro hx <;> simp_all [isNm_nil] <;> omega)
  · show okF [104] _ = _
    unfold okF okR chks okN nOk rawT
    rw [Bool.eq_iff_iff]
    simp [chk, toList_empty, Dt.zero, Dt.getN, Dt.setN, numT, hostT]
    try (constructor <;> intro hx <;> simp_all [isNm_nil] <;> omega)
  · show okF [115, 104] _ = _
    unfold okF okR chks okN nOk rawT
    rw [Bool.eq_iff_iff]
    simp [chk, toList_empty, Dt.zero, Dt.getN, Dt.setN, numT, hostT]
    try (constructor <;> intro hx <;> simp_all [isNm_nil] <;> omega)
  · show okF [120] _ = _
    unfold okF okR chks okN nOk rawT
    rw [Bool.eq_iff_iff]
    simp [chk, toList_empty, Dt.zero, Dt.getN, Dt.setN, numT, hostT]
    try (constructor <;> intro hx <;> simp_all [isNm_nil] <;> omega)
  · show okF [113] _ = _
    unfold okF okR chks okN nOk rawT
    rw [Bool.eq_iff_iff]
    simp [chk, toList_empty, Dt.zero, Dt.getN, Dt.setN, numT, hostT]
    try (constructor <;> intro hx <;> simp_all [isNm_nil] <;> omega)
  · show okF [115, 115, 115, 112] _ = _
    unfold okF okR chks okN nOk rawT
    rw [Bool.eq_iff_iff]
    simp [chk, toList_empty, Dt.zero, Dt.getN, Dt.setN, numT, hostT]
    try (constructor <;> intro hx <;> simp_all [isNm_nil] <;> omega)
  · have k := h
    obtain ⟨e1, e2, e5, e6, e12, e15, e16, e28, e33⟩ := k
    have hh : hostT t = false := by unfold hostT; rw [e2, e5, e12, e6, e15, e33]; rfl
    have hnu : numT t = (0, 0) := by simp only [beq_eq_false_iff_ne, ne_eq] at e6 e15 e33; unfold numT; rw [if_neg e6, if_neg e15, if_neg e33]
    simp only [beq_eq_false_iff_ne, ne_eq] at e1 e16 e28
    rw [h.form]
    unfold okF okR chks okN nOk rawT
    rw [Bool.eq_iff_iff, hh, hnu, e6]
    simp [chk, toList_empty, Dt.zero, Dt.getN, e1, e16, e28]
    try (constructor <;> intro hx <;> simp_all [isNm_nil] <;> omega)
end Go.Proofs.YtdjknikkiojfhaaDoor

/- PressTwice: the plain law, and the walk. -/
namespace Go.Proofs.YtdjknikkiojfhaaDoor
open Go.RowKit Go.HL
set_option linter.unusedVariables false
set_option linter.unusedSimpArgs false
theorem look_app {t t' : Tb} {m : List UInt8} {p : Nat} (h : HL.look t m = some p) : HL.look (t ++ t') m = some p := by
  unfold HL.look at *
  rw [List.find?_append]
  obtain ⟨x, h1, rfl⟩ := Option.map_eq_some_iff.1 h
  rw [h1]
  rfl
theorem look_none {t : Tb} {m : List UInt8} (h : ∀ p ∈ t, p.1 ≠ m) : HL.look t m = none := by
  unfold HL.look
  rw [Option.map_eq_none_iff, List.find?_eq_none]
  intro p hp
  simpa using h p hp
theorem en_len (plain : Bool) : ∀ (ls : List (List UInt8)) (tab : Tb) (off : Nat), (en plain tab ls off).2.length ≤ tab.length + ls.length
  | [], tab, off => by simp [en]
  | x :: r, tab, off => by
    rw [en]
    split
    · simp
    · have := en_len plain r (if (HL.look tab (gl (x :: r))).isSome || decide (16383 < off) then tab else tab ++ [(gl (x :: r), off)]) (off + (1 + x.length))
      refine Nat.le_trans this ?_
      split
      · simp
      · simp; omega
theorem en_pre (plain : Bool) : ∀ (ls : List (List UInt8)) (tab : Tb) (off : Nat), tab <+: (en plain tab ls off).2
  | [], tab, off => List.prefix_rfl
  | x :: r, tab, off => by
    rw [en]
    split
    · exact List.prefix_rfl
    · refine List.IsPrefix.trans ?_ (en_pre plain r _ _)
      split
      · exact List.prefix_rfl
      · exact List.prefix_append _ _
theorem en_fresh (plain : Bool) : ∀ (ls : List (List UInt8)) (tab : Tb) (off : Nat), (∀ p ∈ tab, (gl ls).length < p.1.length) → (en plain tab ls off).1 = gl ls
  | [], tab, off, _ => by rw [en]; rfl
  | x :: r, tab, off, h => by
    have hn : HL.look tab (gl (x :: r)) = none := look_none fun p hp e => by have := h p hp; rw [e] at this; omega
    have hl := gl_len x r
    rw [en, hn]
    simp only [Option.isSome_none, Bool.false_and, Bool.false_or, Bool.false_eq_true, if_false]
    rw [en_fresh plain r _ _ ?_, gl_cons]
    intro p hp
    split at hp
    · have := h p hp; omega
    · rcases List.mem_append.1 hp with h1 | h1
      · have := h p h1; omega
      · rw [List.mem_singleton.1 h1]; show (gl r).length < (gl (x :: r)).length; omega
theorem en_found (plain : Bool) (x : List UInt8) (r : List (List UInt8)) (tab : Tb) (off : Nat) (hn : HL.look tab (gl (x :: r)) = none) (h : off ≤ 16383) : HL.look (en plain tab (x :: r) off).2 (gl (x :: r)) = some off := by
  rw [en, hn]
  simp only [Option.isSome_none, Bool.false_and, Bool.false_or, Bool.false_eq_true, if_false]
  rw [if_neg (by simpa using h)]
  obtain ⟨t, ht⟩ := en_pre plain r (tab ++ [(gl (x :: r), off)]) (off + (1 + x.length))
  rw [← ht]
  exact look_app (by rw [look_snoc hn, if_pos rfl])
theorem Made.kept {w w' : World} {gt bm : Nat} {tab : Tb} {row : Option Nat} (h : Made w gt bm tab) (hg : w.grownBy w' row) (h1 : row ≠ some bm) (h2 : row ≠ some gt) : Made w' gt bm tab :=
  ⟨hg.cell h.cell (fun e => h2 e.symm), h.ne, h.tbl.kept hg (fun e => h1 e.symm)⟩
end Go.Proofs.YtdjknikkiojfhaaDoor

/- What is read by Take is a name: the plain law; PressSound, by a walk. -/
namespace Go.Proofs.YtdjknikkiojfhaaDoor
open Go.RowKit Go.HL
set_option linter.unusedVariables false
set_option linter.unusedSimpArgs false
/-- Labels as bytes, without the end. -/
def flat (ls : List (List UInt8)) : List UInt8 := ls.flatMap fun x => UInt8.ofNat x.length :: x
theorem gl_flat (ls : List (List UInt8)) : gl ls = flat ls ++ [0] := rfl
theorem flat_snoc (ls : List (List UInt8)) (x : List UInt8) : flat (ls ++ [x]) = flat ls ++ UInt8.ofNat x.length :: x := by simp [flat]
theorem okL_snoc {ls : List (List UInt8)} {x : List UInt8} (h : okL ls) (h1 : 1 ≤ x.length) (h2 : x.length ≤ 63) : okL (ls ++ [x]) := fun y hy => by
  rcases List.mem_append.1 hy with h3 | h3
  · exact h y h3
  · rw [List.mem_singleton.1 h3]; exact ⟨h1, h2⟩
theorem piece (l : List UInt8) (p k : Nat) (hk : (l.getD p 0).toNat = k) (h : p + 1 + k ≤ l.length) : (l.drop p).take (1 + k) = UInt8.ofNat ((l.drop (p + 1)).take k).length :: (l.drop (p + 1)).take k := by
  have h1 : p < l.length := by omega
  have e : ((l.drop (p + 1)).take k).length = k := by rw [List.length_take, List.length_drop]; omega
  rw [e, List.drop_eq_getElem_cons h1, Nat.add_comm 1 k, List.take_succ_cons]
  congr 1
  rw [← hk, List.getD_eq_getElem?_getD, List.getElem?_eq_getElem h1]
  simp
/-- What Take's walk tells. -/
def Told (l : List UInt8) (i : Nat) (r : List UInt8 × Int × Int) : Prop :=
  (r.2.2 ≠ 0 ∧ r.1 = [] ∧ r.2.1 = 0) ∨ (r.2.2 = 0 ∧ ∃ ls, r.1 = gl ls ∧ okL ls ∧ (gl ls).length ≤ 255 ∧ (i : Int) < r.2.1 ∧ r.2.1 ≤ l.length)
theorem tk_told (l : List UInt8) (i : Nat) : ∀ (f p nx rr : Nat) (pre : List (List UInt8)), rr * (l.length + 1) + (l.length - p) < f → okL pre → (flat pre).length ≤ 254 → (nx = 0 → i ≤ p) → (nx ≠ 0 → i < nx ∧ nx ≤ l.length) → p ≤ l.length → Told l i (tk l f p nx rr (flat pre)) := by
  intro f
  induction f with
  | zero => intro p nx rr pre h; omega
  | succ f ih =>
    intro p nx rr pre hf hok hlen hn0 hn1 hp
    rw [tk]
    by_cases h1 : l.length < p + 1
    · rw [if_pos h1]; exact .inl ⟨by decide, rfl, rfl⟩
    rw [if_neg h1]
    by_cases h2 : 192 ≤ (l.getD p 0).toNat
    · rw [if_pos h2]
      by_cases h3 : l.length < p + 2
      · rw [if_pos h3]; exact .inl ⟨by decide, rfl, rfl⟩
      rw [if_neg h3]
      by_cases h4 : rr ≤ ((l.getD p 0).toNat * 256 + (l.getD (p + 1) 0).toNat) % 16384
      · rw [if_pos h4]; exact .inl ⟨by decide, rfl, rfl⟩
      rw [if_neg h4]
      generalize ((l.getD p 0).toNat * 256 + (l.getD (p + 1) 0).toNat) % 16384 = q at h4 ⊢
      have hm := mul_fall (n := l.length) (show q + 1 ≤ rr by omega) p
      by_cases h5 : nx = 0
      · rw [if_pos h5]
        by_cases h6 : q ≤ l.length
        · exact ih q (p + 2) q pre (by omega) hok hlen (by omega) (by have := hn0 h5; omega) h6
        · cases f with
          | zero => omega
          | succ f => rw [tk, if_pos (by omega)]; exact .inl ⟨by decide, rfl, rfl⟩
      · rw [if_neg h5]
        by_cases h6 : q ≤ l.length
        · exact ih q nx q pre (by omega) hok hlen (by omega) (by have := hn1 h5; omega) h6
        · cases f with
          | zero => omega
          | succ f => rw [tk, if_pos (by omega)]; exact .inl ⟨by decide, rfl, rfl⟩
    rw [if_neg h2]
    by_cases h3 : 63 < (l.getD p 0).toNat
    · rw [if_pos h3]; exact .inl ⟨by decide, rfl, rfl⟩
    rw [if_neg h3]
    by_cases h4 : l.length < p + 1 + (l.getD p 0).toNat
    · rw [if_pos h4]; exact .inl ⟨by decide, rfl, rfl⟩
    rw [if_neg h4]
    by_cases h5 : 0 < (l.getD p 0).toNat ∧ 255 ≤ (flat pre).length + (l.getD p 0).toNat + 1
    · rw [if_pos h5]; exact .inl ⟨by decide, rfl, rfl⟩
    rw [if_neg h5]
    by_cases h6 : (l.getD p 0).toNat = 0
    · rw [if_pos h6]
      refine .inr ⟨rfl, pre, rfl, hok, by rw [gl_flat, List.length_append]; simp; omega, ?_, ?_⟩
      · by_cases h7 : nx = 0
        · rw [if_pos h7]; have := hn0 h7; simp only; omega
        · rw [if_neg h7]; have := hn1 h7; simp only; omega
      · by_cases h7 : nx = 0
        · rw [if_pos h7]; have := hn0 h7; simp only; omega
        · rw [if_neg h7]; have := hn1 h7; simp only; omega
    rw [if_neg h6, piece l p _ rfl (by omega), ← flat_snoc]
    have e : ((l.drop (p + 1)).take (l.getD p 0).toNat).length = (l.getD p 0).toNat := by rw [List.length_take, List.length_drop]; omega
    exact ih _ nx rr _ (by omega) (okL_snoc hok (by omega) (by omega)) (by rw [flat_snoc, List.length_append, List.length_cons, e]; omega) (by intro h; have := hn0 h; omega) hn1 (by omega)
theorem tkR_told (l : List UInt8) (i : Int) : ((tkR l i).2.2 ≠ 0 ∧ (tkR l i).1 = [] ∧ (tkR l i).2.1 = 0) ∨ ((tkR l i).2.2 = 0 ∧ isNm (str (tkR l i).1) = true ∧ i < (tkR l i).2.1 ∧ (tkR l i).2.1 ≤ l.length) := by
  unfold tkR
  by_cases h : i < 0 ∨ (l.length : Int) < i
  · rw [if_pos h]; exact .inl ⟨by decide, rfl, rfl⟩
  rw [if_neg h]
  obtain ⟨j, rfl⟩ := Int.eq_ofNat_of_zero_le (show 0 ≤ i by omega)
  rw [Int.toNat_natCast]
  have := tk_told l j (j * (l.length + 1) + (l.length - j) + 1) j 0 j [] (by omega) (fun x hx => by cases hx) (by simp [flat]) (fun _ => Nat.le_refl _) (by omega) (by omega)
  rcases this with h1 | ⟨h1, ls, h2, h3, h4, h5, h6⟩
  · exact .inl h1
  · refine .inr ⟨h1, ?_, h5, h6⟩
    show isNm (str (tk l _ j 0 j []).1) = true
    rw [show (tk l (j * (l.length + 1) + (l.length - j) + 1) j 0 j []).1 = gl ls from h2, isNm_gl h3]
    exact decide_eq_true h4
end Go.Proofs.YtdjknikkiojfhaaDoor

/- What was written is read back: the plain law. -/
namespace Go.Proofs.YtdjknikkiojfhaaDoor
open Go.RowKit Go.HL
set_option linter.unusedVariables false
set_option linter.unusedSimpArgs false
/-- At a place stands a name: its end; a pointer leads to before the row. -/
inductive Sq (b : List UInt8) : Nat → Nat → List (List UInt8) → Nat → Prop
  | zero {rr p : Nat} (h : b[p]? = some 0) : Sq b rr p [] (p + 1)
  | lab {rr p : Nat} {x : List UInt8} {r : List (List UInt8)} {e : Nat} (h1 : 1 ≤ x.length) (h2 : x.length ≤ 63) (h3 : (b.drop p).take (1 + x.length) = UInt8.ofNat x.length :: x) (h : Sq b rr (p + 1 + x.length) r e) : Sq b rr p (x :: r) e
  | ptr {rr p q : Nat} {ls : List (List UInt8)} {e : Nat} (h1 : (b.drop p).take 2 = be 2 (49152 + (q : Int))) (h2 : q < 16384) (h3 : q < rr) (h : Sq b q q ls e) : Sq b rr p ls (p + 2)
theorem Sq.mono {b : List UInt8} {rr rr' p : Nat} {ls : List (List UInt8)} {e : Nat} (h : Sq b rr p ls e) (hr : rr ≤ rr') : Sq b rr' p ls e := by
  induction h generalizing rr' with
  | zero h => exact .zero h
  | lab h1 h2 h3 h ih => exact .lab h1 h2 h3 (ih hr)
  | ptr h1 h2 h3 h ih => exact .ptr h1 h2 (by omega) h
theorem take_app {b z : List UInt8} {p k : Nat} {x : List UInt8} (hx : x.length = k) (hk : 0 < k) (h : (b.drop p).take k = x) : ((b ++ z).drop p).take k = x := by
  have hl : k ≤ b.length - p := by
    have := congrArg List.length h
    rw [List.length_take, List.length_drop, hx] at this
    omega
  rw [List.drop_append_of_le_length (by omega), List.take_append_of_le_length (by rw [List.length_drop]; omega)]
  exact h
theorem Sq.app {b : List UInt8} {rr p : Nat} {ls : List (List UInt8)} {e : Nat} (h : Sq b rr p ls e) (z : List UInt8) : Sq (b ++ z) rr p ls e := by
  induction h with
  | zero h => exact .zero (by rw [List.getElem?_append_left (List.getElem?_eq_some_iff.1 h).1]; exact h)
  | lab h1 h2 h3 h ih => exact .lab h1 h2 (take_app (by simp; omega) (by omega) h3) ih
  | ptr h1 h2 h3 h ih => exact .ptr (take_app rfl (by omega) h1) h2 h3 ih
theorem Sq.ok {b : List UInt8} {rr p : Nat} {ls : List (List UInt8)} {e : Nat} (h : Sq b rr p ls e) : okL ls := by
  induction h with
  | zero h => intro x hx; cases hx
  | lab h1 h2 h3 h ih => intro y hy; rcases List.mem_cons.1 hy with rfl | hy; exact ⟨h1, h2⟩; exact ih y hy
  | ptr h1 h2 h3 h ih => exact ih
theorem getD_take {b : List UInt8} {p k : Nat} {y : UInt8} {x : List UInt8} (h : (b.drop p).take k = y :: x) : b.getD p 0 = y ∧ p < b.length := by
  have h1 := congrArg (fun l => l[0]?) h
  simp only [List.getElem?_cons_zero] at h1
  rw [List.getElem?_take] at h1
  split at h1
  · rw [List.getElem?_drop, Nat.add_zero] at h1
    exact ⟨by rw [List.getD_eq_getElem?_getD, h1]; rfl, (List.getElem?_eq_some_iff.1 h1).1⟩
  · cases h1
theorem getD_take1 {b : List UInt8} {p k : Nat} {y z : UInt8} {x : List UInt8} (h : (b.drop p).take k = y :: z :: x) : b.getD (p + 1) 0 = z ∧ p + 1 < b.length := by
  have h1 := congrArg (fun l => l[1]?) h
  simp only [List.getElem?_cons_succ, List.getElem?_cons_zero] at h1
  rw [List.getElem?_take] at h1
  split at h1
  · rw [List.getElem?_drop] at h1
    exact ⟨by rw [List.getD_eq_getElem?_getD, h1]; rfl, (List.getElem?_eq_some_iff.1 h1).1⟩
  · cases h1
theorem Sq.read {b : List UInt8} {rr p : Nat} {ls : List (List UInt8)} {e : Nat} (h : Sq b rr p ls e) : ∀ (f nx : Nat) (out : List UInt8), rr * (b.length + 1) + (b.length - p) < f → out.length + (flat ls).length ≤ 254 → tk b f p nx rr out = (out ++ gl ls, ((if nx = 0 then e else nx : Nat) : Int), 0) := by
  induction h with
  | @zero rr p h =>
    intro f nx out hf hl
    obtain ⟨h1, h2⟩ := List.getElem?_eq_some_iff.1 h
    have hg : (b.getD p 0).toNat = 0 := by rw [List.getD_eq_getElem?_getD, h]; rfl
    cases f with
    | zero => omega
    | succ f =>
      rw [tk, if_neg (by omega), hg, if_neg (by omega), if_neg (by omega), if_neg (by omega), if_neg (by omega), if_pos rfl]
      rfl
  | @lab rr p x r e h1 h2 h3 h ih =>
    intro f nx out hf hl
    obtain ⟨hg, hp⟩ := getD_take h3
    have hk : (b.getD p 0).toNat = x.length := by rw [hg]; exact ofNat_len (by omega)
    have hlen : p + 1 + x.length ≤ b.length := by
      have := congrArg List.length h3
      rw [List.length_take, List.length_drop, List.length_cons] at this
      omega
    have hfl : (flat (x :: r)).length = 1 + x.length + (flat r).length := by simp [flat]; omega
    cases f with
    | zero => omega
    | succ f =>
      rw [tk, if_neg (by omega), hk, if_neg (by omega), if_neg (by omega), if_neg (by omega), if_neg (by omega), if_neg (by omega), h3, ih f nx _ (by omega) (by rw [List.length_append, List.length_cons]; omega)]
      rw [gl_cons]
      simp
  | @ptr rr p q ls e h1 h2 h3 h ih =>
    intro f nx out hf hl
    have hb2 : be 2 (49152 + (q : Int)) = [byteAt (49152 + (q : Int)) 1, byteAt (49152 + (q : Int)) 0] := rfl
    rw [hb2] at h1
    obtain ⟨g0, l0⟩ := getD_take h1
    obtain ⟨g1, l1⟩ := getD_take1 h1
    have t1 : (b.getD p 0).toNat = 192 + q / 256 := by
      rw [g0]
      have := byteAt_toNat (49152 + (q : Int)) 1
      omega
    have t0 : (b.getD (p + 1) 0).toNat = q % 256 := by
      rw [g1]
      have := byteAt_toNat (49152 + (q : Int)) 0
      omega
    have hm := mul_fall (n := b.length) (show q + 1 ≤ rr by omega) p
    cases f with
    | zero => omega
    | succ f =>
      rw [tk, if_neg (by omega), t1, t0, if_pos (by omega), if_neg (by omega), show ((192 + q / 256) * 256 + q % 256) % 16384 = q by omega, if_neg (by omega), ih f _ out (by omega) hl]
      by_cases h5 : nx = 0
      · rw [if_pos h5, if_neg (by omega)]
      · rw [if_neg h5, if_neg h5]
/-- What is remembered stands where it is said. -/
def TOk (b : List UInt8) (tab : Tb) : Prop := ∀ m q, (m, q) ∈ tab → q ≤ 16383 ∧ q < b.length ∧ ∃ ls e, m = gl ls ∧ okL ls ∧ Sq b q q ls e
theorem TOk.app {b : List UInt8} {tab : Tb} (h : TOk b tab) (z : List UInt8) : TOk (b ++ z) tab := fun m q hm => by
  obtain ⟨h1, h2, ls, e, h3, h4, h5⟩ := h m q hm
  exact ⟨h1, by rw [List.length_append]; omega, ls, e, h3, h4, h5.app z⟩
theorem gl_inj {a b : List (List UInt8)} (ha : okL a) (hb : okL b) (h : gl a = gl b) : a = b := by
  have h1 := labsT_gl a ha
  rw [h, labsT_gl b hb] at h1
  injection h1 with h1
  exact h1.symm
theorem look_mem {t : Tb} {m : List UInt8} {q : Nat} (h : HL.look t m = some q) : (m, q) ∈ t := by
  unfold HL.look at h
  obtain ⟨x, h1, rfl⟩ := Option.map_eq_some_iff.1 h
  have h2 := List.find?_some h1
  have h3 := List.mem_of_find?_eq_some h1
  have h4 : x.1 = m := by simpa using h2
  rw [← h4]
  exact h3
/-- Writing a name behind some bytes. 's': where the name began; what was remembered before lies ahead of it. -/
theorem en_sq (plain : Bool) : ∀ (ls : List (List UInt8)) (tab : Tb) (b : List UInt8) (s : Nat), s ≤ b.length → okL ls → (∀ m q, (m, q) ∈ tab → (q < s ∧ q ≤ 16383 ∧ ∃ l e, m = gl l ∧ okL l ∧ Sq b q q l e) ∨ (gl ls).length < m.length) →
    Sq (b ++ (en plain tab ls b.length).1) s b.length ls (b.length + (en plain tab ls b.length).1.length) ∧
    (∀ m q, (m, q) ∈ (en plain tab ls b.length).2 → (m, q) ∈ tab ∨ (q ≤ 16383 ∧ q < b.length + (en plain tab ls b.length).1.length ∧ ∃ l e, m = gl l ∧ okL l ∧ Sq (b ++ (en plain tab ls b.length).1) q q l e))
  | [], tab, b, s, hs, hok, ht => by
    rw [en]
    exact ⟨.zero (by simp), fun m q h => .inl h⟩
  | x :: r, tab, b, s, hs, hok, ht => by
    have hx := hok x (by simp)
    have hgl := gl_len x r
    rw [en]
    split
    · rename_i hc
      obtain ⟨q, hq⟩ : ∃ q, HL.look tab (gl (x :: r)) = some q := by
        simp only [Bool.and_eq_true] at hc
        exact Option.isSome_iff_exists.1 hc.1
      rw [hq]
      refine ⟨?_, fun m q h => .inl h⟩
      rcases ht _ _ (look_mem hq) with ⟨h1, h2, l, e, h3, h4, h5⟩ | h1
      · have he := gl_inj hok h4 h3
        rw [he]
        show Sq (b ++ be 2 (49152 + (q : Int))) s b.length l (b.length + 2)
        exact .ptr (by rw [List.drop_left]; rfl) (by omega) h1 (h5.app _)
      · exact absurd h1 (by omega)
    · rename_i hc
      obtain ⟨tab2, htab2⟩ : ∃ t, (if (HL.look tab (gl (x :: r))).isSome || decide (16383 < b.length) then tab else tab ++ [(gl (x :: r), b.length)]) = t := ⟨_, rfl⟩
      rw [htab2]
      have hlen2 : (b ++ (UInt8.ofNat x.length :: x)).length = b.length + (1 + x.length) := by simp; omega
      have ih := en_sq plain r tab2 (b ++ (UInt8.ofNat x.length :: x)) s (by omega) hok.tail (fun m q hm => by
        have hold : (m, q) ∈ tab → (q < s ∧ q ≤ 16383 ∧ ∃ l e, m = gl l ∧ okL l ∧ Sq (b ++ (UInt8.ofNat x.length :: x)) q q l e) ∨ (gl r).length < m.length := fun hm => by
          rcases ht m q hm with ⟨h1, h2, l, e, h3, h4, h5⟩ | h1
          · exact .inl ⟨h1, h2, l, e, h3, h4, h5.app _⟩
          · exact .inr (by omega)
        rw [← htab2] at hm
        split at hm
        · exact hold hm
        · rcases List.mem_append.1 hm with hm | hm
          · exact hold hm
          · have := List.mem_singleton.1 hm
            injection this with e1 e2
            exact .inr (by rw [e1]; omega))
      rw [hlen2] at ih
      obtain ⟨i1, i2⟩ := ih
      have happ : b ++ (UInt8.ofNat x.length :: x) ++ (en plain tab2 r (b.length + (1 + x.length))).1 = b ++ (UInt8.ofNat x.length :: (x ++ (en plain tab2 r (b.length + (1 + x.length))).1)) := by simp
      rw [happ] at i1 i2
      have hlen3 : b.length + (UInt8.ofNat x.length :: (x ++ (en plain tab2 r (b.length + (1 + x.length))).1)).length = b.length + (1 + x.length) + (en plain tab2 r (b.length + (1 + x.length))).1.length := by simp; omega
      have hlab : ∀ rr e, Sq (b ++ (UInt8.ofNat x.length :: (x ++ (en plain tab2 r (b.length + (1 + x.length))).1))) rr (b.length + (1 + x.length)) r e → Sq (b ++ (UInt8.ofNat x.length :: (x ++ (en plain tab2 r (b.length + (1 + x.length))).1))) rr b.length (x :: r) e := fun rr e h => .lab hx.1 hx.2 (by
        rw [List.drop_left, Nat.add_comm 1, List.take_succ_cons, List.take_left]) (by rw [Nat.add_assoc]; exact h)
      refine ⟨?_, fun m q hm => ?_⟩
      · rw [hlen3]
        exact hlab _ _ i1
      · rw [hlen3]
        rcases i2 m q hm with h | h
        · rw [← htab2] at h
          split at h
          · exact .inl h
          · rename_i hc2
            rcases List.mem_append.1 h with h | h
            · exact .inl h
            · have := List.mem_singleton.1 h
              injection this with e1 e2
              simp only [Bool.or_eq_true, decide_eq_true_eq, not_or] at hc2
              have h9 := hlab _ _ (i1.mono hs)
              subst e2
              exact .inr ⟨by omega, by omega, x :: r, _, e1, hok, h9⟩
        · exact .inr h
theorem en_back (plain : Bool) (ls : List (List UInt8)) (tab : Tb) (b : List UInt8) (hok : okL ls) (ht : TOk b tab) :
    Sq (b ++ (en plain tab ls b.length).1) b.length b.length ls (b.length + (en plain tab ls b.length).1.length) ∧ TOk (b ++ (en plain tab ls b.length).1) (en plain tab ls b.length).2 := by
  have h := en_sq plain ls tab b b.length (Nat.le_refl _) hok (fun m q hm => by
    obtain ⟨h1, h2, l, e, h3, h4, h5⟩ := ht m q hm
    exact .inl ⟨h2, h1, l, e, h3, h4, h5⟩)
  refine ⟨h.1, fun m q hm => ?_⟩
  rcases h.2 m q hm with h1 | ⟨h1, h2, h3⟩
  · obtain ⟨k1, k2, l, e, k3, k4, k5⟩ := ht m q h1
    exact ⟨k1, by rw [List.length_append]; omega, l, e, k3, k4, k5.app _⟩
  · exact ⟨h1, by rw [List.length_append]; omega, h3⟩
theorem Sq.take {b : List UInt8} {p : Nat} {ls : List (List UInt8)} {e : Nat} (h : Sq b p p ls e) (hp : p < b.length) (hl : (gl ls).length ≤ 255) : tkR b (p : Int) = (gl ls, (e : Int), 0) := by
  unfold tkR
  rw [if_neg (by omega), Int.toNat_natCast, h.read _ 0 [] (by omega) (by rw [gl_flat, List.length_append] at hl; simp at hl ⊢; omega)]
  simp
theorem en_size (plain : Bool) : ∀ (ls : List (List UInt8)) (tab : Tb) (off : Nat), 1 ≤ (en plain tab ls off).1.length ∧ (en plain tab ls off).1.length ≤ (gl ls).length ∧ (plain = true → (en plain tab ls off).1 = gl ls)
  | [], tab, off => by rw [en]; exact ⟨by simp, by simp [gl_nil], fun _ => rfl⟩
  | x :: r, tab, off => by
    have hgl := gl_len x r
    have hgp := gl_pos r
    rw [en]
    split
    · rename_i hc
      refine ⟨by show 1 ≤ 2; omega, by show 2 ≤ _; rw [hgl]; cases x with | nil => simp; omega | cons => simp; omega, fun hp => ?_⟩
      rw [hp] at hc
      simp at hc
    · obtain ⟨h1, h2, h3⟩ := en_size plain r (if (HL.look tab (gl (x :: r))).isSome || decide (16383 < off) then tab else tab ++ [(gl (x :: r), off)]) (off + (1 + x.length))
      refine ⟨by simp, ?_, fun hp => ?_⟩
      · rw [hgl, List.length_cons, List.length_append]; omega
      · rw [h3 hp, gl_cons]
end Go.Proofs.YtdjknikkiojfhaaDoor

/- rdata.Put: what it writes, plainly. -/
namespace Go.Proofs.YtdjknikkiojfhaaDoor
open Go.RowKit Go.HL Go.Maps
set_option linter.unusedVariables false
set_option linter.unusedSimpArgs false
/-- A name's labels. -/
def lsOf (s : ByteArray) : List (List UInt8) := (labsT s.data.toList).getD []
theorem lsOf_ok {s : ByteArray} (h : isNm s = true) : s = str (gl (lsOf s)) ∧ okL (lsOf s) ∧ (gl (lsOf s)).length ≤ 255 := by
  obtain ⟨ls, h1, h2, h3, h4⟩ := isNm_true h
  unfold lsOf
  rw [h4]
  exact ⟨h1, h2, h3⟩
/-- One letter of a form: the bytes written so far, what is remembered, how many numbers. -/
def encL (d : Dt) (s : List UInt8 × Tb × Nat) (c : UInt8) : List UInt8 × Tb × Nat :=
  if c = 104 then (s.1 ++ (en false s.2.1 (lsOf d.host) s.1.length).1, (en false s.2.1 (lsOf d.host) s.1.length).2, s.2.2)
  else if c = 112 then (s.1 ++ (en true s.2.1 (lsOf d.host) s.1.length).1, (en true s.2.1 (lsOf d.host) s.1.length).2, s.2.2)
  else if c = 109 then (s.1 ++ (en false s.2.1 (lsOf d.mail) s.1.length).1, (en false s.2.1 (lsOf d.mail) s.1.length).2, s.2.2)
  else if c = 115 then (s.1 ++ be 2 (d.getN s.2.2), s.2.1, s.2.2 + 1)
  else if c = 108 then (s.1 ++ be 4 (d.getN s.2.2), s.2.1, s.2.2 + 1)
  else (s.1 ++ d.raw.data.toList, s.2.1, s.2.2)
def encs (d : Dt) (f : List UInt8) (l : List UInt8) (tab : Tb) : List UInt8 × Tb × Nat := f.foldl (encL d) (l, tab, 0)
theorem encs_snoc (d : Dt) (f : List UInt8) (c : UInt8) (l : List UInt8) (tab : Tb) : encs d (f ++ [c]) l tab = encL d (encs d f l tab) c := by unfold encs; rw [List.foldl_append]; rfl
theorem encL_k (d : Dt) (s : List UInt8 × Tb × Nat) (c : UInt8) : (encL d s c).2.2 = s.2.2 + kOf [c] := by
  unfold encL kOf
  by_cases h1 : c = 104
  · subst h1; rfl
  rw [if_neg h1]
  by_cases h2 : c = 112
  · subst h2; rfl
  rw [if_neg h2]
  by_cases h3 : c = 109
  · subst h3; rfl
  rw [if_neg h3]
  by_cases h4 : c = 115
  · subst h4; rfl
  rw [if_neg h4]
  by_cases h5 : c = 108
  · subst h5; rfl
  rw [if_neg h5]
  have e : (([c] : List UInt8).filter fun c => c == 115 || c == 108).length = 0 := by simp [h4, h5]
  rw [e]
  rfl
theorem encs_k (d : Dt) (f : List UInt8) (l : List UInt8) (tab : Tb) : (encs d f l tab).2.2 = kOf f := by
  have h : ∀ (f : List UInt8) (s : List UInt8 × Tb × Nat), (f.foldl (encL d) s).2.2 = s.2.2 + kOf f := by
    intro f
    induction f with
    | nil => intro s; rfl
    | cons c r ih =>
      intro s
      rw [List.foldl_cons, ih, encL_k, show (c :: r) = [c] ++ r from rfl, kOf_app]
      omega
  unfold encs
  rw [h]
  exact Nat.zero_add _
/-- What a letter asks of data. -/
def needC (d : Dt) (c : UInt8) : Prop := (c = 104 ∨ c = 112 → isNm d.host = true) ∧ (c = 109 → isNm d.mail = true) ∧ (c ≠ 104 → c ≠ 112 → c ≠ 109 → c ≠ 115 → c ≠ 108 → d.raw.size ≤ 65535)
theorem chk_need (d : Dt) (s : Bool × Nat × Dt) (c : UInt8) (h : (chk d s c).1 = true) : s.1 = true ∧ needC d c := by
  unfold chk at h
  unfold needC
  by_cases h1 : c = 104 ∨ c = 112
  · rw [if_pos h1] at h
    simp only [Bool.and_eq_true] at h
    exact ⟨h.1, fun _ => h.2, fun e => (by subst e; rcases h1 with h1 | h1 <;> cases h1), fun e1 e2 => by rcases h1 with h1 | h1 <;> contradiction⟩
  rw [if_neg h1] at h
  by_cases h2 : c = 109
  · rw [if_pos h2] at h
    simp only [Bool.and_eq_true] at h
    exact ⟨h.1, fun e => absurd e h1, fun _ => h.2, fun _ _ e => absurd h2 e⟩
  rw [if_neg h2] at h
  by_cases h3 : c = 115
  · rw [if_pos h3] at h
    simp only [Bool.and_eq_true] at h
    exact ⟨h.1, fun e => absurd e h1, fun e => absurd e h2, fun _ _ _ e => absurd h3 e⟩
  rw [if_neg h3] at h
  by_cases h4 : c = 108
  · rw [if_pos h4] at h
    exact ⟨h, fun e => absurd e h1, fun e => absurd e h2, fun _ _ _ _ e => absurd h4 e⟩
  rw [if_neg h4] at h
  refine ⟨?_, fun e => absurd e h1, fun e => absurd e h2, fun _ _ _ _ _ => ?_⟩
  · split at h
    · simp only [Bool.and_eq_true] at h; exact h.1
    · split at h
      · simp only [Bool.and_eq_true] at h; exact h.1
      · split at h
        · simp only [Bool.and_eq_true] at h; exact h.1.1
        · simp only [Bool.and_eq_true] at h; exact h.1
  · split at h
    · simp only [Bool.and_eq_true, beq_iff_eq] at h; omega
    · split at h
      · simp only [Bool.and_eq_true, beq_iff_eq] at h; omega
      · split at h
        · simp only [Bool.and_eq_true, decide_eq_true_eq] at h; omega
        · simp only [Bool.and_eq_true, decide_eq_true_eq] at h; omega
theorem chks_need (d : Dt) : ∀ (f : List UInt8) (s : Bool × Nat × Dt), (f.foldl (chk d) s).1 = true → s.1 = true ∧ ∀ c ∈ f, needC d c
  | [], s, h => ⟨h, fun c hc => by cases hc⟩
  | c :: r, s, h => by
    rw [List.foldl_cons] at h
    obtain ⟨h1, h2⟩ := chks_need d r _ h
    obtain ⟨h3, h4⟩ := chk_need d s c h1
    refine ⟨h3, fun x hx => ?_⟩
    rcases List.mem_cons.1 hx with rfl | hx
    · exact h4
    · exact h2 x hx
theorem okF_need {f : List UInt8} {d : Dt} (h : okF f d = true) : ∀ c ∈ f, needC d c := by
  unfold okF at h
  simp only [Bool.and_eq_true] at h
  exact (chks_need d f _ h.1).2
/-- How great it becomes. -/
theorem encL_len (d : Dt) (s : List UInt8 × Tb × Nat) (c : UInt8) (h : needC d c) : s.1.length ≤ (encL d s c).1.length ∧ (encL d s c).1.length ≤ s.1.length + 65535 ∧ s.2.1.length ≤ (encL d s c).2.1.length ∧ (encL d s c).2.1.length ≤ s.2.1.length + 255 := by
  have hname : ∀ (p : Bool) (x : ByteArray), isNm x = true → (en p s.2.1 (lsOf x) s.1.length).1.length ≤ 65535 ∧ s.2.1.length ≤ (en p s.2.1 (lsOf x) s.1.length).2.length ∧ (en p s.2.1 (lsOf x) s.1.length).2.length ≤ s.2.1.length + 255 := by
    intro p x hx
    obtain ⟨h1, h2, h3⟩ := lsOf_ok hx
    have h4 := (en_size p (lsOf x) s.2.1 s.1.length).2.1
    have h5 := en_len p (lsOf x) s.2.1 s.1.length
    have h6 := (en_pre p (lsOf x) s.2.1 s.1.length).length_le
    have h7 := gl_count (lsOf x)
    omega
  unfold encL
  by_cases h1 : c = 104
  · rw [if_pos h1]
    have := hname false d.host (h.1 (.inl h1))
    simp only [List.length_append]
    omega
  rw [if_neg h1]
  by_cases h2 : c = 112
  · rw [if_pos h2]
    have := hname true d.host (h.1 (.inr h2))
    simp only [List.length_append]
    omega
  rw [if_neg h2]
  by_cases h3 : c = 109
  · rw [if_pos h3]
    have := hname false d.mail (h.2.1 h3)
    simp only [List.length_append]
    omega
  rw [if_neg h3]
  by_cases h4 : c = 115
  · rw [if_pos h4]
    simp only [List.length_append, be_length]
    omega
  rw [if_neg h4]
  by_cases h5 : c = 108
  · rw [if_pos h5]
    simp only [List.length_append, be_length]
    omega
  rw [if_neg h5]
  have h6 := h.2.2 h1 h2 h3 h4 h5
  have h7 : d.raw.data.toList.length = d.raw.size := by simp
  simp only [List.length_append]
  omega
theorem encs_len (d : Dt) : ∀ (f : List UInt8) (s : List UInt8 × Tb × Nat), (∀ c ∈ f, needC d c) → s.1.length ≤ (f.foldl (encL d) s).1.length ∧ (f.foldl (encL d) s).1.length ≤ s.1.length + 65535 * f.length ∧ s.2.1.length ≤ (f.foldl (encL d) s).2.1.length ∧ (f.foldl (encL d) s).2.1.length ≤ s.2.1.length + 255 * f.length
  | [], s, h => by simp
  | c :: r, s, h => by
    have h1 := encL_len d s c (h c (by simp))
    have h2 := encs_len d r (encL d s c) (fun x hx => h x (List.mem_cons_of_mem _ hx))
    rw [List.foldl_cons, List.length_cons]
    omega
theorem be_mod (v : Int) : be 2 (v % 65536) = be 2 v := by
  show [byteAt (v % 65536) 1, byteAt (v % 65536) 0] = [byteAt v 1, byteAt v 0]
  unfold byteAt
  rw [show (256 : Int) ^ 1 = 256 from rfl, show (256 : Int) ^ 0 = 1 from rfl, show v % 65536 / 256 % 256 = v / 256 % 256 by omega, show v % 65536 / 1 % 256 = v / 1 % 256 by omega]
end Go.Proofs.YtdjknikkiojfhaaDoor

/- Readings of slices with their spare room; rows of bytes. No program in sight. -/
set_option linter.unusedVariables false
set_option linter.unusedSimpArgs false
namespace Go.HL
open Go.RowKit
/-- A slice's reading, its spare room with it. -/
theorem trod_slice_w {H : Type} {enc : TypeId × Value → H} {P : Program} {w : World} {base : Nat} {held : Bool} {fuel : Nat} {t e : TypeId} {cs : List Value} {x : DataW H × List MemPlace} (ht : P.underlying t = some (.slice e)) (h : DataW.trod enc P w base (fun _ => true) held fuel t cs = some x) :
    (cs = [.slice none 0 0] ∧ x.1 = .nil) ∨ ∃ m a len cap elems rest, fuel = m + 1 ∧ cs = [.slice (some a) len cap] ∧ len ≤ cap ∧
      ((List.range len).mapM fun i => (w.cells? base (a.add (i * P.cellsOf e)) (P.cellsOf e)).bind (DataW.trod enc P w base (fun _ => true) held m e)) = some elems ∧ x.1 = .slice (elems.map (·.1)) rest ∧ rest.length = cap - len := by
  cases fuel with
  | zero => simp [DataW.trod] at h
  | succ m =>
    unfold DataW.trod at h
    simp only [ht] at h
    split at h <;> rename_i hx <;> (first | (cases hx; done) | skip)
    · simp only [Option.some.injEq] at h
      subst h
      exact .inl ⟨rfl, rfl⟩
    · cases hx
      split at h
      · rename_i hc
        obtain ⟨elems, h1, h2⟩ := Option.bind_eq_some_iff.1 h
        obtain ⟨rest, h3, h4⟩ := Option.map_eq_some_iff.1 h2
        simp only [if_true] at h3
        have h5 := (mapM_get h3).1
        rw [List.length_range] at h5
        exact .inr ⟨m, _, _, _, elems, rest.map (·.1), rfl, rfl, hc.2.1, h1, by rw [← h4], by simpa using h5⟩
      · cases h
    all_goals (cases h; done)
/-- Bytes in memory. -/
structure Hb where
  a : Option Addr
  n : Nat
  c : Nat
  l : List UInt8
def Hb.val (m : Hb) : Value := .slice m.a m.n m.c
def HbOk (W : World) (m : Hb) : Prop := Rd W 1 m.a m.n m.c (bs m.l)
/-- Rows of bytes that read as these. -/
structure Hbs (W : World) (A : Option Addr) (n c : Nat) (X : List Hb) : Prop where
  r : Rd W 1 A n c (X.map Hb.val)
  m : ∀ m ∈ X, HbOk W m
theorem weightsAll_mem {H : Type} {P : Program} {e : TypeId} {d : DataW H} {q : Nat} (hq : q ∈ d.weights P e) : ∀ {l : List (DataW H)}, d ∈ l → q ∈ DataW.weightsAll P e l
  | x :: r, h => by
    simp only [DataW.weightsAll, List.mem_append]
    rcases List.mem_cons.1 h with h1 | h1
    · subst h1; exact .inl hq
    · exact .inr (weightsAll_mem hq h1)
section
variable {H : Type} {enc : TypeId × Value → H} {P : Program} {W : World} {base : Nat} {held : Bool}
theorem bytes_item {t e : TypeId} (hu : P.underlying t = some (.slice e)) (he : P.underlying e = some (.int .u8)) (hc : P.cellsOf e = 1) (hb : P.bytesOf e = 1) (m : Nat) (cs : List Value) (x : DataW H × List MemPlace) (h : DataW.trod enc P W base (fun _ => true) held m t cs = some x) :
    ∃ r : Hb, cs = [r.val] ∧ HbOk W r ∧ ((∀ q ∈ x.1.weights P t, q ≤ reachBytes) → r.c ≤ 140737488351232) := by
  rcases trod_slice_w hu h with ⟨hcs, hx⟩ | ⟨m1, a, len, cap, elems, rest, rfl, hcs, hle, hm, hx, hrest⟩
  · exact ⟨⟨none, 0, 0, []⟩, hcs, Rd.nil W 1, fun _ => by show 0 ≤ _; omega⟩
  · have h' : DataW.Trod enc P W base (fun _ => true) held t (.slice (some a) len cap) x.1 x.2 := ⟨m1 + 1, by rw [hcs] at h; exact h⟩
    obtain ⟨l, hl⟩ := open_bytes hu he hc h'
    refine ⟨⟨some a, len, cap, l⟩, hcs, hl, fun hw => ?_⟩
    have h1 := hw ((elems.length + rest.length) * P.bytesOf e) (by rw [hx]; simp [DataW.weights, hu])
    obtain ⟨h2, _⟩ := mapM_get hm
    rw [List.length_range] at h2
    rw [hb, h2, hrest] at h1
    have h3 : reachBytes = 140737488351232 := rfl
    show cap ≤ _
    omega
/-- A [][]byte among the arguments. -/
theorem open_rows {t e b : TypeId} (hu : P.underlying t = some (.slice e)) (he : P.underlying e = some (.slice b)) (hb : P.underlying b = some (.int .u8)) (hce : P.cellsOf e = 1) (hcb : P.cellsOf b = 1) (hbb : P.bytesOf b = 1) {a : Option Addr} {len cap : Nat} {d : DataW H} {ps : List MemPlace}
    (h : DataW.Trod enc P W base (fun _ => true) held t (.slice a len cap) d ps) (hw : ∀ q ∈ d.weights P t, q ≤ reachBytes) : ∃ X : List Hb, Hbs W a len cap X ∧ ∀ m ∈ X, m.c ≤ 140737488351232 := by
  obtain ⟨fuel, hf⟩ := h
  rcases trod_slice_w hu hf with ⟨hcs, hx⟩ | ⟨m1, a', len', cap', elems, rest, rfl, hcs, hle, hm, hx, hrest⟩
  · simp [Value.cells] at hcs
    obtain ⟨rfl, rfl, rfl⟩ := hcs
    exact ⟨[], ⟨Rd.nil W 1, fun m hm => by cases hm⟩, fun m hm => by cases hm⟩
  · simp [Value.cells] at hcs
    obtain ⟨rfl, rfl, rfl⟩ := hcs
    obtain ⟨l, h1, h2, h3, h4⟩ := rd_items (fun m : Hb => [m.val]) 1 (by omega) (fun _ => rfl) (fun r d => HbOk W r ∧ ((∀ q ∈ d.weights P e, q ≤ reachBytes) → r.c ≤ 140737488351232)) hce hle (fun cs x h => bytes_item he hb hcb hbb m1 cs x h) hm
    refine ⟨l, ⟨?_, fun m hm => ?_⟩, fun m hm => ?_⟩
    · have : ∀ l : List Hb, l.flatMap (fun m : Hb => [m.val]) = l.map Hb.val := fun l => by
        induction l with
        | nil => rfl
        | cons x l ih => simp only [List.flatMap_cons, List.map_cons, ih]; rfl
      rwa [this] at h1
    · obtain ⟨_, _, h5, _⟩ := h4 m hm
      exact h5
    · obtain ⟨dd, hd, _, h6⟩ := h4 m hm
      refine h6 fun q hq => hw q ?_
      dsimp only at hx
      rw [hx]
      simp only [DataW.weights, hu, List.mem_cons, List.mem_append]
      exact .inr (.inl (weightsAll_mem hq hd))
end
end Go.HL

/- Items among the arguments. -/
namespace Go.Proofs.YtdjknikkiojfhaaDoor
open Go.RowKit Go.HL Go.WideShapes
set_option linter.unusedVariables false
set_option linter.unusedSimpArgs false
end Go.Proofs.YtdjknikkiojfhaaDoor
