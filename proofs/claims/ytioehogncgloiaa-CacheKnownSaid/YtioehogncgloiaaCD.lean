/- cache.life: contract. -/
import Derived.Test.YtioehogncgloiaaCC
namespace Go.Proofs.Ytioehogncgloiaa
open Go.RowKit Go.HL
set_option linter.unusedVariables false
set_option linter.unusedSimpArgs false
def partsA (a : Am) : List Sl := [a.an, a.au, a.ex]
def stA (neg : Bool) (a : Am) (j : Nat) : Int × Bool := stAt neg a.an.l a.au.l a.ex.l j
theorem stA_succ (neg : Bool) (a : Am) (j : Nat) (s : Sl) (h : (partsA a)[j]? = some s) : stA neg a (j + 1) = s.l.foldl (stp j) (stA neg a j) := by
  match j, h with
  | 0, h => cases h; rfl
  | 1, h => cases h; rfl
  | 2, h => cases h; rfl
  | j + 3, h => simp [partsA] at h
theorem part_ok {a : Am} {W : World} (h : a.ok W) (hs : a.small) {j : Nat} {s : Sl} (hj : (partsA a)[j]? = some s) : s.ok W ∧ s.n ≤ 30 := by
  match j, hj with
  | 0, hj => cases hj; exact ⟨h.an, hs.an⟩
  | 1, hj => cases hj; exact ⟨h.au, hs.au⟩
  | 2, hj => cases hj; exact ⟨h.ex, hs.ex⟩
  | j + 3, hj => simp [partsA] at hj
theorem part_cell {a : Am} {j : Nat} {s : Sl} (hj : (partsA a)[j]? = some s) : ([a.an.val, a.au.val, a.ex.val] : List Value)[j]? = some (.slice s.a s.n s.c) := by
  match j, hj with
  | 0, hj => cases hj; rfl
  | 1, hj => cases hj; rfl
  | 2, hj => cases hj; rfl
  | j + 3, hj => simp [partsA] at hj
theorem fold_snoc {j : Nat} {st : Int × Bool} {l : List Rc} {k : Nat} {r : Rc} (h : l[k]? = some r) : (l.take (k + 1)).foldl (stp j) st = stp j ((l.take k).foldl (stp j) st) r := by
  obtain ⟨h2, h3⟩ := List.getElem?_eq_some_iff.1 h
  rw [List.take_succ_eq_append_getElem h2, h3, List.foldl_append]
  rfl
set_option maxRecDepth 8000 in
set_option maxHeartbeats 4000000 in
theorem life_ (w : World) (a : Am) (ha : a.ok w) (hs : a.small) : Calls Try.prog 31 #[a.val] w fun e w' => e = .returned (.int .i64 a.life) ∧ Below w.heap.size w w' := by
  have hs1 := hs.an
  have hl1 := ha.an.len
  unfold Am.val at *
  go_enter Try.func31, Try.ntmps31
  have hb0 := below_new w (.cells #[.int .u16 a.rc, .bool a.aa, .slice a.an.a a.an.n a.an.c, .slice a.au.a a.au.n a.au.c, .slice a.ex.a a.ex.n a.ex.c] 28)
  by_cases hdead : a.rc ≠ 0 ∧ a.rc ≠ 3
  · have e : a.life = 0 := by unfold Am.life lifeV; rw [if_pos hdead]
    have q1 : (a.rc != 0) = true := by simpa using hdead.1
    have q2 : (a.rc == 3) = false := by simpa using hdead.2
    have q3 : (a.rc == 0) = false := by simpa using hdead.1
    rw [e]
    go_wp2
    go_ret
    exact ⟨rfl, hb0⟩
  · have hrun : a.rc = 0 ∨ a.rc = 3 := by omega
    have hb1 := below_alloc hb0 (.cells #[.slice a.an.a a.an.n a.an.c, .slice a.au.a a.au.n a.au.c, .slice a.ex.a a.ex.n a.ex.c] 26)
    have hB := Blk.new (w.alloc (.cells #[.int .u16 a.rc, .bool a.aa, .slice a.an.a a.an.n a.an.c, .slice a.au.a a.au.n a.au.c, .slice a.ex.a a.ex.n a.ex.c] 28)) 26 #[.slice a.an.a a.an.n a.an.c, .slice a.au.a a.au.n a.au.c, .slice a.ex.a a.ex.n a.ex.c]
    rw [World.size_alloc] at hB
    have ha1 := ha.below hb1
    obtain ⟨W0, hW0⟩ : ∃ x, (w.alloc (.cells #[.int .u16 a.rc, .bool a.aa, .slice a.an.a a.an.n a.an.c, .slice a.au.a a.au.n a.au.c, .slice a.ex.a a.ex.n a.ex.c] 28)).alloc (.cells #[.slice a.an.a a.an.n a.an.c, .slice a.au.a a.au.n a.au.c, .slice a.ex.a a.ex.n a.ex.c] 26) = x := ⟨_, rfl⟩
    rw [hW0] at hb1 hB ha1
    have Hs := Lib.hid hs
    have Hr := Lib.hid hrun
    clear hb0
    rcases hrun with h | h
    · have q1 : (a.rc != 0) = false := by simp [h]
      have q2 : (a.rc == 3) = false := by simp [h]
      have q3 : (a.rc == 0) = true := by simp [h]
      by_cases hn : 0 < a.an.n
      · have hn' : ((a.an.n : Int) == 0) = false := by simp; omega
        have HNG := Lib.hid (show false = (a.rc == 3 || (a.rc == 0 && a.an.l.isEmpty)) from (by rw [h]; cases hq : a.an.l with
          | nil => rw [hq] at hl1; simp at hl1; omega
          | cons x y => rfl))
        clear hdead h hs hs1 hl1
        go_wp2
        clear hW0
        have h00 : (2147483647 : Int) = (stA false a 0).1 := rfl
        have H00 := Lib.hid h00
        clear h00
        go_loopw [4, 5, 41] (fun m f i wr => ∃ j : Nat, j ≤ 3 ∧ m = .int .i64 (stA false a j).1 ∧ f = .bool (stA false a j).2 ∧ i = .int .i64 j ∧ Below W0.heap.size W0 wr) (fun _ _ i _ => 3 - (intOf i).toNat)
        case atStart => exact ⟨0, by omega, by rw [← H00.out], rfl, rfl, Below.refl _ _⟩
        case round =>
          obtain ⟨j, hj, rfl, rfl, rfl, hb⟩ := hrel
          by_cases hlt : j < 3
          · have hi1 : (j : Int) < 3 := by omega
            obtain ⟨s, hsj⟩ : ∃ s, (partsA a)[j]? = some s := ⟨(partsA a)[j]'(by simpa [partsA] using hlt), List.getElem?_eq_getElem _⟩
            obtain ⟨hso, hsn⟩ := part_ok ha1 Hs.out hsj
            have hcell := (hB.below hb).cell j _ (part_cell hsj)
            have hsl := hso.len
            have HSU := Lib.hid (stA_succ false a j s hsj)
            obtain ⟨st, hst⟩ : ∃ x, stA false a j = x := ⟨_, rfl⟩
            rw [hst] at HSU ⊢
            clear hst hsj
            obtain ⟨L, hL⟩ : ∃ x, s.l = x := ⟨_, rfl⟩
            have hLo := hso.ok
            have hLr := hso.r
            rw [hL] at HSU hsl hLo hLr
            clear hso hL
            obtain ⟨A, n, c, l⟩ := s
            simp only at hcell hsl hLr hsn
            clear l
            obtain ⟨w5, rfl⟩ : ∃ x, x = wr := ⟨wr, rfl⟩
            go_wp2
            go_loopw [4, 5, 48] (fun m f i wr => ∃ k : Nat, k ≤ n ∧ m = .int .i64 ((L.take k).foldl (stp j) st).1 ∧ f = .bool ((L.take k).foldl (stp j) st).2 ∧ i = .int .i64 k ∧ Below W0.heap.size W0 wr) (fun _ _ i _ => n - (intOf i).toNat)
            case atStart => exact ⟨0, Nat.zero_le _, rfl, rfl, rfl, hb⟩
            case round =>
              obtain ⟨k, hk, rfl, rfl, rfl, hb2⟩ := hrel
              by_cases hlt2 : k < n
              · obtain ⟨r, hrk⟩ : ∃ r, L[k]? = some r := ⟨L[k], List.getElem?_eq_getElem (by omega)⟩
                have hro := hLo r (List.mem_of_getElem? hrk)
                cases A with
                | none => have := (hLr.nil_ rfl).1; omega
                | some ad =>
                have hcs := Rd.rec (hLr.below hb2) k r hrk
                have hcnt := fun W => seconds_ W r.ttl hro.ttl.1 hro.ttl.2
                have hcn4 := fun W => seconds_ W r.n4 hro.n4.1 hro.n4.2
                have HSN := Lib.hid (fold_snoc (j := j) (st := st) hrk)
                obtain ⟨⟨M, F⟩, hM⟩ : ∃ x, (L.take k).foldl (stp j) st = x := ⟨_, rfl⟩
                rw [hM] at HSN
                rw [hM]
                clear hM
                simp only
                obtain ⟨C, hC⟩ : ∃ C, cnt r.ttl = C := ⟨_, rfl⟩
                obtain ⟨D, hD⟩ : ∃ D, cnt r.n4 = D := ⟨_, rfl⟩
                have HC := Lib.hid hC
                have HD := Lib.hid hD
                rw [hC] at hcnt
                rw [hD] at hcn4
                clear hC hD hro
                have hki : (k : Int) < (n : Int) := by omega
                by_cases hj1 : j = 1
                · have d1 : ((j : Int) == 1) = true := by simp; omega
                  have Hj1 := Lib.hid hj1
                  clear hj1
                  cases d2 : (r.ty == 6) with
                  | false =>
                    have hif : (if j = 1 ∧ r.ty = 6 ∧ (M, F).2 = false then (mi (mi (M, F).1 (cnt r.ttl)) (cnt r.n4), true) else (mi (M, F).1 (cnt r.ttl), (M, F).2)) = (mi M (cnt r.ttl), F) := if_neg (fun h => by rw [beq_eq_false_iff_ne] at d2; exact d2 h.2.1)
                    by_cases hcm : C < M
                    · skip
                      have HSP := Lib.hid (show stp j (M, F) r = (C, F) by unfold stp; rw [hif]; simp only [HC.out, HD.out]; rw [show mi M C = C from if_pos hcm])
                      go_wp2_with (first | (refine wpList_getAt rfl 46 (.tmp 50) rfl (ad.add (k * 12)) rfl [.string r.nm, .int .u16 r.ty, .int .u16 r.cl, .int .u32 r.ttl, .string r.raw, .string r.host, .string r.mail, .int .u32 r.n0, .int .u32 r.n1, .int .u32 r.n2, .int .u32 r.n3, .int .u32 r.n4] _ hcs Try.underlying46 rfl sizeRec ?_) | (go_at_call 47; refine (hcnt _).mono ?_; rintro e w6 ⟨rfl, rfl⟩) | (go_at_call 47; refine (hcn4 _).mono ?_; rintro e w6 ⟨rfl, rfl⟩))
                      go_roundw
                      case rel =>
                        first
                          | exact ⟨k + 1, by omega, by rw [HSN.out, HSP.out], by rw [HSN.out, HSP.out], by go_num, below_alloc hb2 _⟩
                          | (refine ⟨_, _, _, _, _, _, _, _, _, _, _, _, _, _, _, _, _, _, _, _, _, _, _, _, _, _, _, _, _, _, _, ?_, rfl⟩; exact ⟨k + 1, by omega, by rw [HSN.out, HSP.out], by rw [HSN.out, HSP.out], rfl, below_alloc hb2 _⟩)
                      case measure => simp [intOf]; omega
                    · skip
                      have HSP := Lib.hid (show stp j (M, F) r = (M, F) by unfold stp; rw [hif]; simp only [HC.out, HD.out]; rw [show mi M C = M from if_neg (by omega)])
                      go_wp2_with (first | (refine wpList_getAt rfl 46 (.tmp 50) rfl (ad.add (k * 12)) rfl [.string r.nm, .int .u16 r.ty, .int .u16 r.cl, .int .u32 r.ttl, .string r.raw, .string r.host, .string r.mail, .int .u32 r.n0, .int .u32 r.n1, .int .u32 r.n2, .int .u32 r.n3, .int .u32 r.n4] _ hcs Try.underlying46 rfl sizeRec ?_) | (go_at_call 47; refine (hcnt _).mono ?_; rintro e w6 ⟨rfl, rfl⟩) | (go_at_call 47; refine (hcn4 _).mono ?_; rintro e w6 ⟨rfl, rfl⟩))
                      go_roundw
                      case rel =>
                        first
                          | exact ⟨k + 1, by omega, by rw [HSN.out, HSP.out], by rw [HSN.out, HSP.out], by go_num, below_alloc hb2 _⟩
                          | (refine ⟨_, _, _, _, _, _, _, _, _, _, _, _, _, _, _, _, _, _, _, _, _, _, _, _, _, _, _, _, _, _, _, ?_, rfl⟩; exact ⟨k + 1, by omega, by rw [HSN.out, HSP.out], by rw [HSN.out, HSP.out], rfl, below_alloc hb2 _⟩)
                      case measure => simp [intOf]; omega
                  | true =>
                    cases F with
                    | true =>
                      have hif : (if j = 1 ∧ r.ty = 6 ∧ (M, true).2 = false then (mi (mi (M, true).1 (cnt r.ttl)) (cnt r.n4), true) else (mi (M, true).1 (cnt r.ttl), (M, true).2)) = (mi M (cnt r.ttl), true) := if_neg (fun h => by cases h.2.2)
                      by_cases hcm : C < M
                      · skip
                        have HSP := Lib.hid (show stp j (M, true) r = (C, true) by unfold stp; rw [hif]; simp only [HC.out, HD.out]; rw [show mi M C = C from if_pos hcm])
                        go_wp2_with (first | (refine wpList_getAt rfl 46 (.tmp 50) rfl (ad.add (k * 12)) rfl [.string r.nm, .int .u16 r.ty, .int .u16 r.cl, .int .u32 r.ttl, .string r.raw, .string r.host, .string r.mail, .int .u32 r.n0, .int .u32 r.n1, .int .u32 r.n2, .int .u32 r.n3, .int .u32 r.n4] _ hcs Try.underlying46 rfl sizeRec ?_) | (go_at_call 47; refine (hcnt _).mono ?_; rintro e w6 ⟨rfl, rfl⟩) | (go_at_call 47; refine (hcn4 _).mono ?_; rintro e w6 ⟨rfl, rfl⟩))
                        go_roundw
                        case rel =>
                          first
                            | exact ⟨k + 1, by omega, by rw [HSN.out, HSP.out], by rw [HSN.out, HSP.out], by go_num, below_alloc hb2 _⟩
                            | (refine ⟨_, _, _, _, _, _, _, _, _, _, _, _, _, _, _, _, _, _, _, _, _, _, _, _, _, _, _, _, _, _, _, ?_, rfl⟩; exact ⟨k + 1, by omega, by rw [HSN.out, HSP.out], by rw [HSN.out, HSP.out], rfl, below_alloc hb2 _⟩)
                        case measure => simp [intOf]; omega
                      · skip
                        have HSP := Lib.hid (show stp j (M, true) r = (M, true) by unfold stp; rw [hif]; simp only [HC.out, HD.out]; rw [show mi M C = M from if_neg (by omega)])
                        go_wp2_with (first | (refine wpList_getAt rfl 46 (.tmp 50) rfl (ad.add (k * 12)) rfl [.string r.nm, .int .u16 r.ty, .int .u16 r.cl, .int .u32 r.ttl, .string r.raw, .string r.host, .string r.mail, .int .u32 r.n0, .int .u32 r.n1, .int .u32 r.n2, .int .u32 r.n3, .int .u32 r.n4] _ hcs Try.underlying46 rfl sizeRec ?_) | (go_at_call 47; refine (hcnt _).mono ?_; rintro e w6 ⟨rfl, rfl⟩) | (go_at_call 47; refine (hcn4 _).mono ?_; rintro e w6 ⟨rfl, rfl⟩))
                        go_roundw
                        case rel =>
                          first
                            | exact ⟨k + 1, by omega, by rw [HSN.out, HSP.out], by rw [HSN.out, HSP.out], by go_num, below_alloc hb2 _⟩
                            | (refine ⟨_, _, _, _, _, _, _, _, _, _, _, _, _, _, _, _, _, _, _, _, _, _, _, _, _, _, _, _, _, _, _, ?_, rfl⟩; exact ⟨k + 1, by omega, by rw [HSN.out, HSP.out], by rw [HSN.out, HSP.out], rfl, below_alloc hb2 _⟩)
                        case measure => simp [intOf]; omega
                    | false =>
                      have hif : (if j = 1 ∧ r.ty = 6 ∧ (M, false).2 = false then (mi (mi (M, false).1 (cnt r.ttl)) (cnt r.n4), true) else (mi (M, false).1 (cnt r.ttl), (M, false).2)) = (mi (mi M (cnt r.ttl)) (cnt r.n4), true) := if_pos ⟨Hj1.out, by simpa using d2, rfl⟩
                      by_cases hcm : C < M
                      · skip
                        by_cases hdm : D < C
                        · skip
                          have HSP := Lib.hid (show stp j (M, false) r = (D, true) by unfold stp; rw [hif]; simp only [HC.out, HD.out]; rw [show mi M C = C from if_pos hcm, show mi C D = D from if_pos hdm])
                          go_wp2_with (first | (refine wpList_getAt rfl 46 (.tmp 50) rfl (ad.add (k * 12)) rfl [.string r.nm, .int .u16 r.ty, .int .u16 r.cl, .int .u32 r.ttl, .string r.raw, .string r.host, .string r.mail, .int .u32 r.n0, .int .u32 r.n1, .int .u32 r.n2, .int .u32 r.n3, .int .u32 r.n4] _ hcs Try.underlying46 rfl sizeRec ?_) | (go_at_call 47; refine (hcnt _).mono ?_; rintro e w6 ⟨rfl, rfl⟩) | (go_at_call 47; refine (hcn4 _).mono ?_; rintro e w6 ⟨rfl, rfl⟩))
                          go_roundw
                          case rel =>
                            first
                              | exact ⟨k + 1, by omega, by rw [HSN.out, HSP.out], by rw [HSN.out, HSP.out], by go_num, below_alloc hb2 _⟩
                              | (refine ⟨_, _, _, _, _, _, _, _, _, _, _, _, _, _, _, _, _, _, _, _, _, _, _, _, _, _, _, _, _, _, _, ?_, rfl⟩; exact ⟨k + 1, by omega, by rw [HSN.out, HSP.out], by rw [HSN.out, HSP.out], rfl, below_alloc hb2 _⟩)
                          case measure => simp [intOf]; omega
                        · skip
                          have HSP := Lib.hid (show stp j (M, false) r = (C, true) by unfold stp; rw [hif]; simp only [HC.out, HD.out]; rw [show mi M C = C from if_pos hcm, show mi C D = C from if_neg (by omega)])
                          go_wp2_with (first | (refine wpList_getAt rfl 46 (.tmp 50) rfl (ad.add (k * 12)) rfl [.string r.nm, .int .u16 r.ty, .int .u16 r.cl, .int .u32 r.ttl, .string r.raw, .string r.host, .string r.mail, .int .u32 r.n0, .int .u32 r.n1, .int .u32 r.n2, .int .u32 r.n3, .int .u32 r.n4] _ hcs Try.underlying46 rfl sizeRec ?_) | (go_at_call 47; refine (hcnt _).mono ?_; rintro e w6 ⟨rfl, rfl⟩) | (go_at_call 47; refine (hcn4 _).mono ?_; rintro e w6 ⟨rfl, rfl⟩))
                          go_roundw
                          case rel =>
                            first
                              | exact ⟨k + 1, by omega, by rw [HSN.out, HSP.out], by rw [HSN.out, HSP.out], by go_num, below_alloc hb2 _⟩
                              | (refine ⟨_, _, _, _, _, _, _, _, _, _, _, _, _, _, _, _, _, _, _, _, _, _, _, _, _, _, _, _, _, _, _, ?_, rfl⟩; exact ⟨k + 1, by omega, by rw [HSN.out, HSP.out], by rw [HSN.out, HSP.out], rfl, below_alloc hb2 _⟩)
                          case measure => simp [intOf]; omega
                      · skip
                        by_cases hdm : D < M
                        · skip
                          have HSP := Lib.hid (show stp j (M, false) r = (D, true) by unfold stp; rw [hif]; simp only [HC.out, HD.out]; rw [show mi M C = M from if_neg (by omega), show mi M D = D from if_pos hdm])
                          go_wp2_with (first | (refine wpList_getAt rfl 46 (.tmp 50) rfl (ad.add (k * 12)) rfl [.string r.nm, .int .u16 r.ty, .int .u16 r.cl, .int .u32 r.ttl, .string r.raw, .string r.host, .string r.mail, .int .u32 r.n0, .int .u32 r.n1, .int .u32 r.n2, .int .u32 r.n3, .int .u32 r.n4] _ hcs Try.underlying46 rfl sizeRec ?_) | (go_at_call 47; refine (hcnt _).mono ?_; rintro e w6 ⟨rfl, rfl⟩) | (go_at_call 47; refine (hcn4 _).mono ?_; rintro e w6 ⟨rfl, rfl⟩))
                          go_roundw
                          case rel =>
                            first
                              | exact ⟨k + 1, by omega, by rw [HSN.out, HSP.out], by rw [HSN.out, HSP.out], by go_num, below_alloc hb2 _⟩
                              | (refine ⟨_, _, _, _, _, _, _, _, _, _, _, _, _, _, _, _, _, _, _, _, _, _, _, _, _, _, _, _, _, _, _, ?_, rfl⟩; exact ⟨k + 1, by omega, by rw [HSN.out, HSP.out], by rw [HSN.out, HSP.out], rfl, below_alloc hb2 _⟩)
                          case measure => simp [intOf]; omega
                        · skip
                          have HSP := Lib.hid (show stp j (M, false) r = (M, true) by unfold stp; rw [hif]; simp only [HC.out, HD.out]; rw [show mi M C = M from if_neg (by omega), show mi M D = M from if_neg (by omega)])
                          go_wp2_with (first | (refine wpList_getAt rfl 46 (.tmp 50) rfl (ad.add (k * 12)) rfl [.string r.nm, .int .u16 r.ty, .int .u16 r.cl, .int .u32 r.ttl, .string r.raw, .string r.host, .string r.mail, .int .u32 r.n0, .int .u32 r.n1, .int .u32 r.n2, .int .u32 r.n3, .int .u32 r.n4] _ hcs Try.underlying46 rfl sizeRec ?_) | (go_at_call 47; refine (hcnt _).mono ?_; rintro e w6 ⟨rfl, rfl⟩) | (go_at_call 47; refine (hcn4 _).mono ?_; rintro e w6 ⟨rfl, rfl⟩))
                          go_roundw
                          case rel =>
                            first
                              | exact ⟨k + 1, by omega, by rw [HSN.out, HSP.out], by rw [HSN.out, HSP.out], by go_num, below_alloc hb2 _⟩
                              | (refine ⟨_, _, _, _, _, _, _, _, _, _, _, _, _, _, _, _, _, _, _, _, _, _, _, _, _, _, _, _, _, _, _, ?_, rfl⟩; exact ⟨k + 1, by omega, by rw [HSN.out, HSP.out], by rw [HSN.out, HSP.out], rfl, below_alloc hb2 _⟩)
                          case measure => simp [intOf]; omega
                · have d1 : ((j : Int) == 1) = false := by simp; omega
                  have Hj1 := Lib.hid hj1
                  clear hj1
                  have hif : (if j = 1 ∧ r.ty = 6 ∧ (M, F).2 = false then (mi (mi (M, F).1 (cnt r.ttl)) (cnt r.n4), true) else (mi (M, F).1 (cnt r.ttl), (M, F).2)) = (mi M (cnt r.ttl), F) := if_neg (fun h => Hj1.out h.1)
                  by_cases hcm : C < M
                  · skip
                    have HSP := Lib.hid (show stp j (M, F) r = (C, F) by unfold stp; rw [hif]; simp only [HC.out, HD.out]; rw [show mi M C = C from if_pos hcm])
                    go_wp2_with (first | (refine wpList_getAt rfl 46 (.tmp 50) rfl (ad.add (k * 12)) rfl [.string r.nm, .int .u16 r.ty, .int .u16 r.cl, .int .u32 r.ttl, .string r.raw, .string r.host, .string r.mail, .int .u32 r.n0, .int .u32 r.n1, .int .u32 r.n2, .int .u32 r.n3, .int .u32 r.n4] _ hcs Try.underlying46 rfl sizeRec ?_) | (go_at_call 47; refine (hcnt _).mono ?_; rintro e w6 ⟨rfl, rfl⟩) | (go_at_call 47; refine (hcn4 _).mono ?_; rintro e w6 ⟨rfl, rfl⟩))
                    go_roundw
                    case rel =>
                      first
                        | exact ⟨k + 1, by omega, by rw [HSN.out, HSP.out], by rw [HSN.out, HSP.out], by go_num, below_alloc hb2 _⟩
                        | (refine ⟨_, _, _, _, _, _, _, _, _, _, _, _, _, _, _, _, _, _, _, _, _, _, _, _, _, _, _, _, _, _, _, ?_, rfl⟩; exact ⟨k + 1, by omega, by rw [HSN.out, HSP.out], by rw [HSN.out, HSP.out], rfl, below_alloc hb2 _⟩)
                    case measure => simp [intOf]; omega
                  · skip
                    have HSP := Lib.hid (show stp j (M, F) r = (M, F) by unfold stp; rw [hif]; simp only [HC.out, HD.out]; rw [show mi M C = M from if_neg (by omega)])
                    go_wp2_with (first | (refine wpList_getAt rfl 46 (.tmp 50) rfl (ad.add (k * 12)) rfl [.string r.nm, .int .u16 r.ty, .int .u16 r.cl, .int .u32 r.ttl, .string r.raw, .string r.host, .string r.mail, .int .u32 r.n0, .int .u32 r.n1, .int .u32 r.n2, .int .u32 r.n3, .int .u32 r.n4] _ hcs Try.underlying46 rfl sizeRec ?_) | (go_at_call 47; refine (hcnt _).mono ?_; rintro e w6 ⟨rfl, rfl⟩) | (go_at_call 47; refine (hcn4 _).mono ?_; rintro e w6 ⟨rfl, rfl⟩))
                    go_roundw
                    case rel =>
                      first
                        | exact ⟨k + 1, by omega, by rw [HSN.out, HSP.out], by rw [HSN.out, HSP.out], by go_num, below_alloc hb2 _⟩
                        | (refine ⟨_, _, _, _, _, _, _, _, _, _, _, _, _, _, _, _, _, _, _, _, _, _, _, _, _, _, _, _, _, _, _, ?_, rfl⟩; exact ⟨k + 1, by omega, by rw [HSN.out, HSP.out], by rw [HSN.out, HSP.out], rfl, below_alloc hb2 _⟩)
                    case measure => simp [intOf]; omega
              · obtain rfl : k = n := by omega
                rw [List.take_of_length_le (Nat.le_of_eq hsl), ← HSU.out]
                go_wp2
                go_roundw
                case rel => exact ⟨j + 1, by omega, rfl, rfl, by go_num, hb2⟩
                case measure => simp [intOf]; omega
          · obtain rfl : j = 3 := by omega
            have HE := Lib.hid (stAt_end false a.rc a.an.l a.au.l a.ex.l Hr.out HNG.out)
            have HST : Hid ((if (stA false a 3).2 then (stA false a 3).1 else 0) = a.life) := HE
            obtain ⟨⟨M, F⟩, hM⟩ : ∃ x, stA false a 3 = x := ⟨_, rfl⟩
            rw [hM] at HST
            rw [hM]
            clear hM HE
            simp only
            cases F with
            | false =>
              go_wp2
              go_ret
              exact ⟨by rw [← HST.out]; rfl, below_trans hb1 hb⟩
            | true =>
              go_wp2
              go_ret
              exact ⟨by rw [← HST.out]; rfl, below_trans hb1 hb⟩
      · have hn' : ((a.an.n : Int) == 0) = true := by simp; omega
        have HNG := Lib.hid (show true = (a.rc == 3 || (a.rc == 0 && a.an.l.isEmpty)) from (by rw [h, List.eq_nil_of_length_eq_zero (show a.an.l.length = 0 by omega)]; rfl))
        clear hdead h hs hs1 hl1
        go_wp2
        clear hW0
        have h00 : (2147483647 : Int) = (stA true a 0).1 := rfl
        have H00 := Lib.hid h00
        clear h00
        go_loopw [4, 5, 41] (fun m f i wr => ∃ j : Nat, j ≤ 3 ∧ m = .int .i64 (stA true a j).1 ∧ f = .bool (stA true a j).2 ∧ i = .int .i64 j ∧ Below W0.heap.size W0 wr) (fun _ _ i _ => 3 - (intOf i).toNat)
        case atStart => exact ⟨0, by omega, by rw [← H00.out], rfl, rfl, Below.refl _ _⟩
        case round =>
          obtain ⟨j, hj, rfl, rfl, rfl, hb⟩ := hrel
          by_cases hlt : j < 3
          · have hi1 : (j : Int) < 3 := by omega
            obtain ⟨s, hsj⟩ : ∃ s, (partsA a)[j]? = some s := ⟨(partsA a)[j]'(by simpa [partsA] using hlt), List.getElem?_eq_getElem _⟩
            obtain ⟨hso, hsn⟩ := part_ok ha1 Hs.out hsj
            have hcell := (hB.below hb).cell j _ (part_cell hsj)
            have hsl := hso.len
            have HSU := Lib.hid (stA_succ true a j s hsj)
            obtain ⟨st, hst⟩ : ∃ x, stA true a j = x := ⟨_, rfl⟩
            rw [hst] at HSU ⊢
            clear hst hsj
            obtain ⟨L, hL⟩ : ∃ x, s.l = x := ⟨_, rfl⟩
            have hLo := hso.ok
            have hLr := hso.r
            rw [hL] at HSU hsl hLo hLr
            clear hso hL
            obtain ⟨A, n, c, l⟩ := s
            simp only at hcell hsl hLr hsn
            clear l
            obtain ⟨w5, rfl⟩ : ∃ x, x = wr := ⟨wr, rfl⟩
            go_wp2
            go_loopw [4, 5, 48] (fun m f i wr => ∃ k : Nat, k ≤ n ∧ m = .int .i64 ((L.take k).foldl (stp j) st).1 ∧ f = .bool ((L.take k).foldl (stp j) st).2 ∧ i = .int .i64 k ∧ Below W0.heap.size W0 wr) (fun _ _ i _ => n - (intOf i).toNat)
            case atStart => exact ⟨0, Nat.zero_le _, rfl, rfl, rfl, hb⟩
            case round =>
              obtain ⟨k, hk, rfl, rfl, rfl, hb2⟩ := hrel
              by_cases hlt2 : k < n
              · obtain ⟨r, hrk⟩ : ∃ r, L[k]? = some r := ⟨L[k], List.getElem?_eq_getElem (by omega)⟩
                have hro := hLo r (List.mem_of_getElem? hrk)
                cases A with
                | none => have := (hLr.nil_ rfl).1; omega
                | some ad =>
                have hcs := Rd.rec (hLr.below hb2) k r hrk
                have hcnt := fun W => seconds_ W r.ttl hro.ttl.1 hro.ttl.2
                have hcn4 := fun W => seconds_ W r.n4 hro.n4.1 hro.n4.2
                have HSN := Lib.hid (fold_snoc (j := j) (st := st) hrk)
                obtain ⟨⟨M, F⟩, hM⟩ : ∃ x, (L.take k).foldl (stp j) st = x := ⟨_, rfl⟩
                rw [hM] at HSN
                rw [hM]
                clear hM
                simp only
                obtain ⟨C, hC⟩ : ∃ C, cnt r.ttl = C := ⟨_, rfl⟩
                obtain ⟨D, hD⟩ : ∃ D, cnt r.n4 = D := ⟨_, rfl⟩
                have HC := Lib.hid hC
                have HD := Lib.hid hD
                rw [hC] at hcnt
                rw [hD] at hcn4
                clear hC hD hro
                have hki : (k : Int) < (n : Int) := by omega
                by_cases hj1 : j = 1
                · have d1 : ((j : Int) == 1) = true := by simp; omega
                  have Hj1 := Lib.hid hj1
                  clear hj1
                  cases d2 : (r.ty == 6) with
                  | false =>
                    have hif : (if j = 1 ∧ r.ty = 6 ∧ (M, F).2 = false then (mi (mi (M, F).1 (cnt r.ttl)) (cnt r.n4), true) else (mi (M, F).1 (cnt r.ttl), (M, F).2)) = (mi M (cnt r.ttl), F) := if_neg (fun h => by rw [beq_eq_false_iff_ne] at d2; exact d2 h.2.1)
                    by_cases hcm : C < M
                    · skip
                      have HSP := Lib.hid (show stp j (M, F) r = (C, F) by unfold stp; rw [hif]; simp only [HC.out, HD.out]; rw [show mi M C = C from if_pos hcm])
                      go_wp2_with (first | (refine wpList_getAt rfl 46 (.tmp 50) rfl (ad.add (k * 12)) rfl [.string r.nm, .int .u16 r.ty, .int .u16 r.cl, .int .u32 r.ttl, .string r.raw, .string r.host, .string r.mail, .int .u32 r.n0, .int .u32 r.n1, .int .u32 r.n2, .int .u32 r.n3, .int .u32 r.n4] _ hcs Try.underlying46 rfl sizeRec ?_) | (go_at_call 47; refine (hcnt _).mono ?_; rintro e w6 ⟨rfl, rfl⟩) | (go_at_call 47; refine (hcn4 _).mono ?_; rintro e w6 ⟨rfl, rfl⟩))
                      go_roundw
                      case rel =>
                        first
                          | exact ⟨k + 1, by omega, by rw [HSN.out, HSP.out], by rw [HSN.out, HSP.out], by go_num, below_alloc hb2 _⟩
                          | (refine ⟨_, _, _, _, _, _, _, _, _, _, _, _, _, _, _, _, _, _, _, _, _, _, _, _, _, _, _, _, _, _, _, ?_, rfl⟩; exact ⟨k + 1, by omega, by rw [HSN.out, HSP.out], by rw [HSN.out, HSP.out], rfl, below_alloc hb2 _⟩)
                      case measure => simp [intOf]; omega
                    · skip
                      have HSP := Lib.hid (show stp j (M, F) r = (M, F) by unfold stp; rw [hif]; simp only [HC.out, HD.out]; rw [show mi M C = M from if_neg (by omega)])
                      go_wp2_with (first | (refine wpList_getAt rfl 46 (.tmp 50) rfl (ad.add (k * 12)) rfl [.string r.nm, .int .u16 r.ty, .int .u16 r.cl, .int .u32 r.ttl, .string r.raw, .string r.host, .string r.mail, .int .u32 r.n0, .int .u32 r.n1, .int .u32 r.n2, .int .u32 r.n3, .int .u32 r.n4] _ hcs Try.underlying46 rfl sizeRec ?_) | (go_at_call 47; refine (hcnt _).mono ?_; rintro e w6 ⟨rfl, rfl⟩) | (go_at_call 47; refine (hcn4 _).mono ?_; rintro e w6 ⟨rfl, rfl⟩))
                      go_roundw
                      case rel =>
                        first
                          | exact ⟨k + 1, by omega, by rw [HSN.out, HSP.out], by rw [HSN.out, HSP.out], by go_num, below_alloc hb2 _⟩
                          | (refine ⟨_, _, _, _, _, _, _, _, _, _, _, _, _, _, _, _, _, _, _, _, _, _, _, _, _, _, _, _, _, _, _, ?_, rfl⟩; exact ⟨k + 1, by omega, by rw [HSN.out, HSP.out], by rw [HSN.out, HSP.out], rfl, below_alloc hb2 _⟩)
                      case measure => simp [intOf]; omega
                  | true =>
                    cases F with
                    | true =>
                      have hif : (if j = 1 ∧ r.ty = 6 ∧ (M, true).2 = false then (mi (mi (M, true).1 (cnt r.ttl)) (cnt r.n4), true) else (mi (M, true).1 (cnt r.ttl), (M, true).2)) = (mi M (cnt r.ttl), true) := if_neg (fun h => by cases h.2.2)
                      by_cases hcm : C < M
                      · skip
                        have HSP := Lib.hid (show stp j (M, true) r = (C, true) by unfold stp; rw [hif]; simp only [HC.out, HD.out]; rw [show mi M C = C from if_pos hcm])
                        go_wp2_with (first | (refine wpList_getAt rfl 46 (.tmp 50) rfl (ad.add (k * 12)) rfl [.string r.nm, .int .u16 r.ty, .int .u16 r.cl, .int .u32 r.ttl, .string r.raw, .string r.host, .string r.mail, .int .u32 r.n0, .int .u32 r.n1, .int .u32 r.n2, .int .u32 r.n3, .int .u32 r.n4] _ hcs Try.underlying46 rfl sizeRec ?_) | (go_at_call 47; refine (hcnt _).mono ?_; rintro e w6 ⟨rfl, rfl⟩) | (go_at_call 47; refine (hcn4 _).mono ?_; rintro e w6 ⟨rfl, rfl⟩))
                        go_roundw
                        case rel =>
                          first
                            | exact ⟨k + 1, by omega, by rw [HSN.out, HSP.out], by rw [HSN.out, HSP.out], by go_num, below_alloc hb2 _⟩
                            | (refine ⟨_, _, _, _, _, _, _, _, _, _, _, _, _, _, _, _, _, _, _, _, _, _, _, _, _, _, _, _, _, _, _, ?_, rfl⟩; exact ⟨k + 1, by omega, by rw [HSN.out, HSP.out], by rw [HSN.out, HSP.out], rfl, below_alloc hb2 _⟩)
                        case measure => simp [intOf]; omega
                      · skip
                        have HSP := Lib.hid (show stp j (M, true) r = (M, true) by unfold stp; rw [hif]; simp only [HC.out, HD.out]; rw [show mi M C = M from if_neg (by omega)])
                        go_wp2_with (first | (refine wpList_getAt rfl 46 (.tmp 50) rfl (ad.add (k * 12)) rfl [.string r.nm, .int .u16 r.ty, .int .u16 r.cl, .int .u32 r.ttl, .string r.raw, .string r.host, .string r.mail, .int .u32 r.n0, .int .u32 r.n1, .int .u32 r.n2, .int .u32 r.n3, .int .u32 r.n4] _ hcs Try.underlying46 rfl sizeRec ?_) | (go_at_call 47; refine (hcnt _).mono ?_; rintro e w6 ⟨rfl, rfl⟩) | (go_at_call 47; refine (hcn4 _).mono ?_; rintro e w6 ⟨rfl, rfl⟩))
                        go_roundw
                        case rel =>
                          first
                            | exact ⟨k + 1, by omega, by rw [HSN.out, HSP.out], by rw [HSN.out, HSP.out], by go_num, below_alloc hb2 _⟩
                            | (refine ⟨_, _, _, _, _, _, _, _, _, _, _, _, _, _, _, _, _, _, _, _, _, _, _, _, _, _, _, _, _, _, _, ?_, rfl⟩; exact ⟨k + 1, by omega, by rw [HSN.out, HSP.out], by rw [HSN.out, HSP.out], rfl, below_alloc hb2 _⟩)
                        case measure => simp [intOf]; omega
                    | false =>
                      have hif : (if j = 1 ∧ r.ty = 6 ∧ (M, false).2 = false then (mi (mi (M, false).1 (cnt r.ttl)) (cnt r.n4), true) else (mi (M, false).1 (cnt r.ttl), (M, false).2)) = (mi (mi M (cnt r.ttl)) (cnt r.n4), true) := if_pos ⟨Hj1.out, by simpa using d2, rfl⟩
                      by_cases hcm : C < M
                      · skip
                        by_cases hdm : D < C
                        · skip
                          have HSP := Lib.hid (show stp j (M, false) r = (D, true) by unfold stp; rw [hif]; simp only [HC.out, HD.out]; rw [show mi M C = C from if_pos hcm, show mi C D = D from if_pos hdm])
                          go_wp2_with (first | (refine wpList_getAt rfl 46 (.tmp 50) rfl (ad.add (k * 12)) rfl [.string r.nm, .int .u16 r.ty, .int .u16 r.cl, .int .u32 r.ttl, .string r.raw, .string r.host, .string r.mail, .int .u32 r.n0, .int .u32 r.n1, .int .u32 r.n2, .int .u32 r.n3, .int .u32 r.n4] _ hcs Try.underlying46 rfl sizeRec ?_) | (go_at_call 47; refine (hcnt _).mono ?_; rintro e w6 ⟨rfl, rfl⟩) | (go_at_call 47; refine (hcn4 _).mono ?_; rintro e w6 ⟨rfl, rfl⟩))
                          go_roundw
                          case rel =>
                            first
                              | exact ⟨k + 1, by omega, by rw [HSN.out, HSP.out], by rw [HSN.out, HSP.out], by go_num, below_alloc hb2 _⟩
                              | (refine ⟨_, _, _, _, _, _, _, _, _, _, _, _, _, _, _, _, _, _, _, _, _, _, _, _, _, _, _, _, _, _, _, ?_, rfl⟩; exact ⟨k + 1, by omega, by rw [HSN.out, HSP.out], by rw [HSN.out, HSP.out], rfl, below_alloc hb2 _⟩)
                          case measure => simp [intOf]; omega
                        · skip
                          have HSP := Lib.hid (show stp j (M, false) r = (C, true) by unfold stp; rw [hif]; simp only [HC.out, HD.out]; rw [show mi M C = C from if_pos hcm, show mi C D = C from if_neg (by omega)])
                          go_wp2_with (first | (refine wpList_getAt rfl 46 (.tmp 50) rfl (ad.add (k * 12)) rfl [.string r.nm, .int .u16 r.ty, .int .u16 r.cl, .int .u32 r.ttl, .string r.raw, .string r.host, .string r.mail, .int .u32 r.n0, .int .u32 r.n1, .int .u32 r.n2, .int .u32 r.n3, .int .u32 r.n4] _ hcs Try.underlying46 rfl sizeRec ?_) | (go_at_call 47; refine (hcnt _).mono ?_; rintro e w6 ⟨rfl, rfl⟩) | (go_at_call 47; refine (hcn4 _).mono ?_; rintro e w6 ⟨rfl, rfl⟩))
                          go_roundw
                          case rel =>
                            first
                              | exact ⟨k + 1, by omega, by rw [HSN.out, HSP.out], by rw [HSN.out, HSP.out], by go_num, below_alloc hb2 _⟩
                              | (refine ⟨_, _, _, _, _, _, _, _, _, _, _, _, _, _, _, _, _, _, _, _, _, _, _, _, _, _, _, _, _, _, _, ?_, rfl⟩; exact ⟨k + 1, by omega, by rw [HSN.out, HSP.out], by rw [HSN.out, HSP.out], rfl, below_alloc hb2 _⟩)
                          case measure => simp [intOf]; omega
                      · skip
                        by_cases hdm : D < M
                        · skip
                          have HSP := Lib.hid (show stp j (M, false) r = (D, true) by unfold stp; rw [hif]; simp only [HC.out, HD.out]; rw [show mi M C = M from if_neg (by omega), show mi M D = D from if_pos hdm])
                          go_wp2_with (first | (refine wpList_getAt rfl 46 (.tmp 50) rfl (ad.add (k * 12)) rfl [.string r.nm, .int .u16 r.ty, .int .u16 r.cl, .int .u32 r.ttl, .string r.raw, .string r.host, .string r.mail, .int .u32 r.n0, .int .u32 r.n1, .int .u32 r.n2, .int .u32 r.n3, .int .u32 r.n4] _ hcs Try.underlying46 rfl sizeRec ?_) | (go_at_call 47; refine (hcnt _).mono ?_; rintro e w6 ⟨rfl, rfl⟩) | (go_at_call 47; refine (hcn4 _).mono ?_; rintro e w6 ⟨rfl, rfl⟩))
                          go_roundw
                          case rel =>
                            first
                              | exact ⟨k + 1, by omega, by rw [HSN.out, HSP.out], by rw [HSN.out, HSP.out], by go_num, below_alloc hb2 _⟩
                              | (refine ⟨_, _, _, _, _, _, _, _, _, _, _, _, _, _, _, _, _, _, _, _, _, _, _, _, _, _, _, _, _, _, _, ?_, rfl⟩; exact ⟨k + 1, by omega, by rw [HSN.out, HSP.out], by rw [HSN.out, HSP.out], rfl, below_alloc hb2 _⟩)
                          case measure => simp [intOf]; omega
                        · skip
                          have HSP := Lib.hid (show stp j (M, false) r = (M, true) by unfold stp; rw [hif]; simp only [HC.out, HD.out]; rw [show mi M C = M from if_neg (by omega), show mi M D = M from if_neg (by omega)])
                          go_wp2_with (first | (refine wpList_getAt rfl 46 (.tmp 50) rfl (ad.add (k * 12)) rfl [.string r.nm, .int .u16 r.ty, .int .u16 r.cl, .int .u32 r.ttl, .string r.raw, .string r.host, .string r.mail, .int .u32 r.n0, .int .u32 r.n1, .int .u32 r.n2, .int .u32 r.n3, .int .u32 r.n4] _ hcs Try.underlying46 rfl sizeRec ?_) | (go_at_call 47; refine (hcnt _).mono ?_; rintro e w6 ⟨rfl, rfl⟩) | (go_at_call 47; refine (hcn4 _).mono ?_; rintro e w6 ⟨rfl, rfl⟩))
                          go_roundw
                          case rel =>
                            first
                              | exact ⟨k + 1, by omega, by rw [HSN.out, HSP.out], by rw [HSN.out, HSP.out], by go_num, below_alloc hb2 _⟩
                              | (refine ⟨_, _, _, _, _, _, _, _, _, _, _, _, _, _, _, _, _, _, _, _, _, _, _, _, _, _, _, _, _, _, _, ?_, rfl⟩; exact ⟨k + 1, by omega, by rw [HSN.out, HSP.out], by rw [HSN.out, HSP.out], rfl, below_alloc hb2 _⟩)
                          case measure => simp [intOf]; omega
                · have d1 : ((j : Int) == 1) = false := by simp; omega
                  have Hj1 := Lib.hid hj1
                  clear hj1
                  have hif : (if j = 1 ∧ r.ty = 6 ∧ (M, F).2 = false then (mi (mi (M, F).1 (cnt r.ttl)) (cnt r.n4), true) else (mi (M, F).1 (cnt r.ttl), (M, F).2)) = (mi M (cnt r.ttl), F) := if_neg (fun h => Hj1.out h.1)
                  by_cases hcm : C < M
                  · skip
                    have HSP := Lib.hid (show stp j (M, F) r = (C, F) by unfold stp; rw [hif]; simp only [HC.out, HD.out]; rw [show mi M C = C from if_pos hcm])
                    go_wp2_with (first | (refine wpList_getAt rfl 46 (.tmp 50) rfl (ad.add (k * 12)) rfl [.string r.nm, .int .u16 r.ty, .int .u16 r.cl, .int .u32 r.ttl, .string r.raw, .string r.host, .string r.mail, .int .u32 r.n0, .int .u32 r.n1, .int .u32 r.n2, .int .u32 r.n3, .int .u32 r.n4] _ hcs Try.underlying46 rfl sizeRec ?_) | (go_at_call 47; refine (hcnt _).mono ?_; rintro e w6 ⟨rfl, rfl⟩) | (go_at_call 47; refine (hcn4 _).mono ?_; rintro e w6 ⟨rfl, rfl⟩))
                    go_roundw
                    case rel =>
                      first
                        | exact ⟨k + 1, by omega, by rw [HSN.out, HSP.out], by rw [HSN.out, HSP.out], by go_num, below_alloc hb2 _⟩
                        | (refine ⟨_, _, _, _, _, _, _, _, _, _, _, _, _, _, _, _, _, _, _, _, _, _, _, _, _, _, _, _, _, _, _, ?_, rfl⟩; exact ⟨k + 1, by omega, by rw [HSN.out, HSP.out], by rw [HSN.out, HSP.out], rfl, below_alloc hb2 _⟩)
                    case measure => simp [intOf]; omega
                  · skip
                    have HSP := Lib.hid (show stp j (M, F) r = (M, F) by unfold stp; rw [hif]; simp only [HC.out, HD.out]; rw [show mi M C = M from if_neg (by omega)])
                    go_wp2_with (first | (refine wpList_getAt rfl 46 (.tmp 50) rfl (ad.add (k * 12)) rfl [.string r.nm, .int .u16 r.ty, .int .u16 r.cl, .int .u32 r.ttl, .string r.raw, .string r.host, .string r.mail, .int .u32 r.n0, .int .u32 r.n1, .int .u32 r.n2, .int .u32 r.n3, .int .u32 r.n4] _ hcs Try.underlying46 rfl sizeRec ?_) | (go_at_call 47; refine (hcnt _).mono ?_; rintro e w6 ⟨rfl, rfl⟩) | (go_at_call 47; refine (hcn4 _).mono ?_; rintro e w6 ⟨rfl, rfl⟩))
                    go_roundw
                    case rel =>
                      first
                        | exact ⟨k + 1, by omega, by rw [HSN.out, HSP.out], by rw [HSN.out, HSP.out], by go_num, below_alloc hb2 _⟩
                        | (refine ⟨_, _, _, _, _, _, _, _, _, _, _, _, _, _, _, _, _, _, _, _, _, _, _, _, _, _, _, _, _, _, _, ?_, rfl⟩; exact ⟨k + 1, by omega, by rw [HSN.out, HSP.out], by rw [HSN.out, HSP.out], rfl, below_alloc hb2 _⟩)
                    case measure => simp [intOf]; omega
              · obtain rfl : k = n := by omega
                rw [List.take_of_length_le (Nat.le_of_eq hsl), ← HSU.out]
                go_wp2
                go_roundw
                case rel => exact ⟨j + 1, by omega, rfl, rfl, by go_num, hb2⟩
                case measure => simp [intOf]; omega
          · obtain rfl : j = 3 := by omega
            have HE := Lib.hid (stAt_end true a.rc a.an.l a.au.l a.ex.l Hr.out HNG.out)
            have HST : Hid ((if (stA true a 3).2 then (stA true a 3).1 else 0) = a.life) := HE
            obtain ⟨⟨M, F⟩, hM⟩ : ∃ x, stA true a 3 = x := ⟨_, rfl⟩
            rw [hM] at HST
            rw [hM]
            clear hM HE
            simp only
            cases F with
            | false =>
              go_wp2
              go_ret
              exact ⟨by rw [← HST.out]; rfl, below_trans hb1 hb⟩
            | true =>
              go_wp2
              go_ret
              exact ⟨by rw [← HST.out]; rfl, below_trans hb1 hb⟩
    · have q1 : (a.rc != 0) = true := by simp [h]
      have q2 : (a.rc == 3) = true := by simp [h]
      have q3 : (a.rc == 0) = false := by simp [h]
      have HNG := Lib.hid (show true = (a.rc == 3 || (a.rc == 0 && a.an.l.isEmpty)) from (by rw [h]; rfl))
      clear hdead h hs hs1 hl1
      go_wp2
      clear hW0
      have h00 : (2147483647 : Int) = (stA true a 0).1 := rfl
      have H00 := Lib.hid h00
      clear h00
      go_loopw [4, 5, 41] (fun m f i wr => ∃ j : Nat, j ≤ 3 ∧ m = .int .i64 (stA true a j).1 ∧ f = .bool (stA true a j).2 ∧ i = .int .i64 j ∧ Below W0.heap.size W0 wr) (fun _ _ i _ => 3 - (intOf i).toNat)
      case atStart => exact ⟨0, by omega, by rw [← H00.out], rfl, rfl, Below.refl _ _⟩
      case round =>
        obtain ⟨j, hj, rfl, rfl, rfl, hb⟩ := hrel
        by_cases hlt : j < 3
        · have hi1 : (j : Int) < 3 := by omega
          obtain ⟨s, hsj⟩ : ∃ s, (partsA a)[j]? = some s := ⟨(partsA a)[j]'(by simpa [partsA] using hlt), List.getElem?_eq_getElem _⟩
          obtain ⟨hso, hsn⟩ := part_ok ha1 Hs.out hsj
          have hcell := (hB.below hb).cell j _ (part_cell hsj)
          have hsl := hso.len
          have HSU := Lib.hid (stA_succ true a j s hsj)
          obtain ⟨st, hst⟩ : ∃ x, stA true a j = x := ⟨_, rfl⟩
          rw [hst] at HSU ⊢
          clear hst hsj
          obtain ⟨L, hL⟩ : ∃ x, s.l = x := ⟨_, rfl⟩
          have hLo := hso.ok
          have hLr := hso.r
          rw [hL] at HSU hsl hLo hLr
          clear hso hL
          obtain ⟨A, n, c, l⟩ := s
          simp only at hcell hsl hLr hsn
          clear l
          obtain ⟨w5, rfl⟩ : ∃ x, x = wr := ⟨wr, rfl⟩
          go_wp2
          go_loopw [4, 5, 48] (fun m f i wr => ∃ k : Nat, k ≤ n ∧ m = .int .i64 ((L.take k).foldl (stp j) st).1 ∧ f = .bool ((L.take k).foldl (stp j) st).2 ∧ i = .int .i64 k ∧ Below W0.heap.size W0 wr) (fun _ _ i _ => n - (intOf i).toNat)
          case atStart => exact ⟨0, Nat.zero_le _, rfl, rfl, rfl, hb⟩
          case round =>
            obtain ⟨k, hk, rfl, rfl, rfl, hb2⟩ := hrel
            by_cases hlt2 : k < n
            · obtain ⟨r, hrk⟩ : ∃ r, L[k]? = some r := ⟨L[k], List.getElem?_eq_getElem (by omega)⟩
              have hro := hLo r (List.mem_of_getElem? hrk)
              cases A with
              | none => have := (hLr.nil_ rfl).1; omega
              | some ad =>
              have hcs := Rd.rec (hLr.below hb2) k r hrk
              have hcnt := fun W => seconds_ W r.ttl hro.ttl.1 hro.ttl.2
              have hcn4 := fun W => seconds_ W r.n4 hro.n4.1 hro.n4.2
              have HSN := Lib.hid (fold_snoc (j := j) (st := st) hrk)
              obtain ⟨⟨M, F⟩, hM⟩ : ∃ x, (L.take k).foldl (stp j) st = x := ⟨_, rfl⟩
              rw [hM] at HSN
              rw [hM]
              clear hM
              simp only
              obtain ⟨C, hC⟩ : ∃ C, cnt r.ttl = C := ⟨_, rfl⟩
              obtain ⟨D, hD⟩ : ∃ D, cnt r.n4 = D := ⟨_, rfl⟩
              have HC := Lib.hid hC
              have HD := Lib.hid hD
              rw [hC] at hcnt
              rw [hD] at hcn4
              clear hC hD hro
              have hki : (k : Int) < (n : Int) := by omega
              by_cases hj1 : j = 1
              · have d1 : ((j : Int) == 1) = true := by simp; omega
                have Hj1 := Lib.hid hj1
                clear hj1
                cases d2 : (r.ty == 6) with
                | false =>
                  have hif : (if j = 1 ∧ r.ty = 6 ∧ (M, F).2 = false then (mi (mi (M, F).1 (cnt r.ttl)) (cnt r.n4), true) else (mi (M, F).1 (cnt r.ttl), (M, F).2)) = (mi M (cnt r.ttl), F) := if_neg (fun h => by rw [beq_eq_false_iff_ne] at d2; exact d2 h.2.1)
                  by_cases hcm : C < M
                  · skip
                    have HSP := Lib.hid (show stp j (M, F) r = (C, F) by unfold stp; rw [hif]; simp only [HC.out, HD.out]; rw [show mi M C = C from if_pos hcm])
                    go_wp2_with (first | (refine wpList_getAt rfl 46 (.tmp 50) rfl (ad.add (k * 12)) rfl [.string r.nm, .int .u16 r.ty, .int .u16 r.cl, .int .u32 r.ttl, .string r.raw, .string r.host, .string r.mail, .int .u32 r.n0, .int .u32 r.n1, .int .u32 r.n2, .int .u32 r.n3, .int .u32 r.n4] _ hcs Try.underlying46 rfl sizeRec ?_) | (go_at_call 47; refine (hcnt _).mono ?_; rintro e w6 ⟨rfl, rfl⟩) | (go_at_call 47; refine (hcn4 _).mono ?_; rintro e w6 ⟨rfl, rfl⟩))
                    go_roundw
                    case rel =>
                      first
                        | exact ⟨k + 1, by omega, by rw [HSN.out, HSP.out], by rw [HSN.out, HSP.out], by go_num, below_alloc hb2 _⟩
                        | (refine ⟨_, _, _, _, _, _, _, _, _, _, _, _, _, _, _, _, _, _, _, _, _, _, _, _, _, _, _, _, _, _, _, ?_, rfl⟩; exact ⟨k + 1, by omega, by rw [HSN.out, HSP.out], by rw [HSN.out, HSP.out], rfl, below_alloc hb2 _⟩)
                    case measure => simp [intOf]; omega
                  · skip
                    have HSP := Lib.hid (show stp j (M, F) r = (M, F) by unfold stp; rw [hif]; simp only [HC.out, HD.out]; rw [show mi M C = M from if_neg (by omega)])
                    go_wp2_with (first | (refine wpList_getAt rfl 46 (.tmp 50) rfl (ad.add (k * 12)) rfl [.string r.nm, .int .u16 r.ty, .int .u16 r.cl, .int .u32 r.ttl, .string r.raw, .string r.host, .string r.mail, .int .u32 r.n0, .int .u32 r.n1, .int .u32 r.n2, .int .u32 r.n3, .int .u32 r.n4] _ hcs Try.underlying46 rfl sizeRec ?_) | (go_at_call 47; refine (hcnt _).mono ?_; rintro e w6 ⟨rfl, rfl⟩) | (go_at_call 47; refine (hcn4 _).mono ?_; rintro e w6 ⟨rfl, rfl⟩))
                    go_roundw
                    case rel =>
                      first
                        | exact ⟨k + 1, by omega, by rw [HSN.out, HSP.out], by rw [HSN.out, HSP.out], by go_num, below_alloc hb2 _⟩
                        | (refine ⟨_, _, _, _, _, _, _, _, _, _, _, _, _, _, _, _, _, _, _, _, _, _, _, _, _, _, _, _, _, _, _, ?_, rfl⟩; exact ⟨k + 1, by omega, by rw [HSN.out, HSP.out], by rw [HSN.out, HSP.out], rfl, below_alloc hb2 _⟩)
                    case measure => simp [intOf]; omega
                | true =>
                  cases F with
                  | true =>
                    have hif : (if j = 1 ∧ r.ty = 6 ∧ (M, true).2 = false then (mi (mi (M, true).1 (cnt r.ttl)) (cnt r.n4), true) else (mi (M, true).1 (cnt r.ttl), (M, true).2)) = (mi M (cnt r.ttl), true) := if_neg (fun h => by cases h.2.2)
                    by_cases hcm : C < M
                    · skip
                      have HSP := Lib.hid (show stp j (M, true) r = (C, true) by unfold stp; rw [hif]; simp only [HC.out, HD.out]; rw [show mi M C = C from if_pos hcm])
                      go_wp2_with (first | (refine wpList_getAt rfl 46 (.tmp 50) rfl (ad.add (k * 12)) rfl [.string r.nm, .int .u16 r.ty, .int .u16 r.cl, .int .u32 r.ttl, .string r.raw, .string r.host, .string r.mail, .int .u32 r.n0, .int .u32 r.n1, .int .u32 r.n2, .int .u32 r.n3, .int .u32 r.n4] _ hcs Try.underlying46 rfl sizeRec ?_) | (go_at_call 47; refine (hcnt _).mono ?_; rintro e w6 ⟨rfl, rfl⟩) | (go_at_call 47; refine (hcn4 _).mono ?_; rintro e w6 ⟨rfl, rfl⟩))
                      go_roundw
                      case rel =>
                        first
                          | exact ⟨k + 1, by omega, by rw [HSN.out, HSP.out], by rw [HSN.out, HSP.out], by go_num, below_alloc hb2 _⟩
                          | (refine ⟨_, _, _, _, _, _, _, _, _, _, _, _, _, _, _, _, _, _, _, _, _, _, _, _, _, _, _, _, _, _, _, ?_, rfl⟩; exact ⟨k + 1, by omega, by rw [HSN.out, HSP.out], by rw [HSN.out, HSP.out], rfl, below_alloc hb2 _⟩)
                      case measure => simp [intOf]; omega
                    · skip
                      have HSP := Lib.hid (show stp j (M, true) r = (M, true) by unfold stp; rw [hif]; simp only [HC.out, HD.out]; rw [show mi M C = M from if_neg (by omega)])
                      go_wp2_with (first | (refine wpList_getAt rfl 46 (.tmp 50) rfl (ad.add (k * 12)) rfl [.string r.nm, .int .u16 r.ty, .int .u16 r.cl, .int .u32 r.ttl, .string r.raw, .string r.host, .string r.mail, .int .u32 r.n0, .int .u32 r.n1, .int .u32 r.n2, .int .u32 r.n3, .int .u32 r.n4] _ hcs Try.underlying46 rfl sizeRec ?_) | (go_at_call 47; refine (hcnt _).mono ?_; rintro e w6 ⟨rfl, rfl⟩) | (go_at_call 47; refine (hcn4 _).mono ?_; rintro e w6 ⟨rfl, rfl⟩))
                      go_roundw
                      case rel =>
                        first
                          | exact ⟨k + 1, by omega, by rw [HSN.out, HSP.out], by rw [HSN.out, HSP.out], by go_num, below_alloc hb2 _⟩
                          | (refine ⟨_, _, _, _, _, _, _, _, _, _, _, _, _, _, _, _, _, _, _, _, _, _, _, _, _, _, _, _, _, _, _, ?_, rfl⟩; exact ⟨k + 1, by omega, by rw [HSN.out, HSP.out], by rw [HSN.out, HSP.out], rfl, below_alloc hb2 _⟩)
                      case measure => simp [intOf]; omega
                  | false =>
                    have hif : (if j = 1 ∧ r.ty = 6 ∧ (M, false).2 = false then (mi (mi (M, false).1 (cnt r.ttl)) (cnt r.n4), true) else (mi (M, false).1 (cnt r.ttl), (M, false).2)) = (mi (mi M (cnt r.ttl)) (cnt r.n4), true) := if_pos ⟨Hj1.out, by simpa using d2, rfl⟩
                    by_cases hcm : C < M
                    · skip
                      by_cases hdm : D < C
                      · skip
                        have HSP := Lib.hid (show stp j (M, false) r = (D, true) by unfold stp; rw [hif]; simp only [HC.out, HD.out]; rw [show mi M C = C from if_pos hcm, show mi C D = D from if_pos hdm])
                        go_wp2_with (first | (refine wpList_getAt rfl 46 (.tmp 50) rfl (ad.add (k * 12)) rfl [.string r.nm, .int .u16 r.ty, .int .u16 r.cl, .int .u32 r.ttl, .string r.raw, .string r.host, .string r.mail, .int .u32 r.n0, .int .u32 r.n1, .int .u32 r.n2, .int .u32 r.n3, .int .u32 r.n4] _ hcs Try.underlying46 rfl sizeRec ?_) | (go_at_call 47; refine (hcnt _).mono ?_; rintro e w6 ⟨rfl, rfl⟩) | (go_at_call 47; refine (hcn4 _).mono ?_; rintro e w6 ⟨rfl, rfl⟩))
                        go_roundw
                        case rel =>
                          first
                            | exact ⟨k + 1, by omega, by rw [HSN.out, HSP.out], by rw [HSN.out, HSP.out], by go_num, below_alloc hb2 _⟩
                            | (refine ⟨_, _, _, _, _, _, _, _, _, _, _, _, _, _, _, _, _, _, _, _, _, _, _, _, _, _, _, _, _, _, _, ?_, rfl⟩; exact ⟨k + 1, by omega, by rw [HSN.out, HSP.out], by rw [HSN.out, HSP.out], rfl, below_alloc hb2 _⟩)
                        case measure => simp [intOf]; omega
                      · skip
                        have HSP := Lib.hid (show stp j (M, false) r = (C, true) by unfold stp; rw [hif]; simp only [HC.out, HD.out]; rw [show mi M C = C from if_pos hcm, show mi C D = C from if_neg (by omega)])
                        go_wp2_with (first | (refine wpList_getAt rfl 46 (.tmp 50) rfl (ad.add (k * 12)) rfl [.string r.nm, .int .u16 r.ty, .int .u16 r.cl, .int .u32 r.ttl, .string r.raw, .string r.host, .string r.mail, .int .u32 r.n0, .int .u32 r.n1, .int .u32 r.n2, .int .u32 r.n3, .int .u32 r.n4] _ hcs Try.underlying46 rfl sizeRec ?_) | (go_at_call 47; refine (hcnt _).mono ?_; rintro e w6 ⟨rfl, rfl⟩) | (go_at_call 47; refine (hcn4 _).mono ?_; rintro e w6 ⟨rfl, rfl⟩))
                        go_roundw
                        case rel =>
                          first
                            | exact ⟨k + 1, by omega, by rw [HSN.out, HSP.out], by rw [HSN.out, HSP.out], by go_num, below_alloc hb2 _⟩
                            | (refine ⟨_, _, _, _, _, _, _, _, _, _, _, _, _, _, _, _, _, _, _, _, _, _, _, _, _, _, _, _, _, _, _, ?_, rfl⟩; exact ⟨k + 1, by omega, by rw [HSN.out, HSP.out], by rw [HSN.out, HSP.out], rfl, below_alloc hb2 _⟩)
                        case measure => simp [intOf]; omega
                    · skip
                      by_cases hdm : D < M
                      · skip
                        have HSP := Lib.hid (show stp j (M, false) r = (D, true) by unfold stp; rw [hif]; simp only [HC.out, HD.out]; rw [show mi M C = M from if_neg (by omega), show mi M D = D from if_pos hdm])
                        go_wp2_with (first | (refine wpList_getAt rfl 46 (.tmp 50) rfl (ad.add (k * 12)) rfl [.string r.nm, .int .u16 r.ty, .int .u16 r.cl, .int .u32 r.ttl, .string r.raw, .string r.host, .string r.mail, .int .u32 r.n0, .int .u32 r.n1, .int .u32 r.n2, .int .u32 r.n3, .int .u32 r.n4] _ hcs Try.underlying46 rfl sizeRec ?_) | (go_at_call 47; refine (hcnt _).mono ?_; rintro e w6 ⟨rfl, rfl⟩) | (go_at_call 47; refine (hcn4 _).mono ?_; rintro e w6 ⟨rfl, rfl⟩))
                        go_roundw
                        case rel =>
                          first
                            | exact ⟨k + 1, by omega, by rw [HSN.out, HSP.out], by rw [HSN.out, HSP.out], by go_num, below_alloc hb2 _⟩
                            | (refine ⟨_, _, _, _, _, _, _, _, _, _, _, _, _, _, _, _, _, _, _, _, _, _, _, _, _, _, _, _, _, _, _, ?_, rfl⟩; exact ⟨k + 1, by omega, by rw [HSN.out, HSP.out], by rw [HSN.out, HSP.out], rfl, below_alloc hb2 _⟩)
                        case measure => simp [intOf]; omega
                      · skip
                        have HSP := Lib.hid (show stp j (M, false) r = (M, true) by unfold stp; rw [hif]; simp only [HC.out, HD.out]; rw [show mi M C = M from if_neg (by omega), show mi M D = M from if_neg (by omega)])
                        go_wp2_with (first | (refine wpList_getAt rfl 46 (.tmp 50) rfl (ad.add (k * 12)) rfl [.string r.nm, .int .u16 r.ty, .int .u16 r.cl, .int .u32 r.ttl, .string r.raw, .string r.host, .string r.mail, .int .u32 r.n0, .int .u32 r.n1, .int .u32 r.n2, .int .u32 r.n3, .int .u32 r.n4] _ hcs Try.underlying46 rfl sizeRec ?_) | (go_at_call 47; refine (hcnt _).mono ?_; rintro e w6 ⟨rfl, rfl⟩) | (go_at_call 47; refine (hcn4 _).mono ?_; rintro e w6 ⟨rfl, rfl⟩))
                        go_roundw
                        case rel =>
                          first
                            | exact ⟨k + 1, by omega, by rw [HSN.out, HSP.out], by rw [HSN.out, HSP.out], by go_num, below_alloc hb2 _⟩
                            | (refine ⟨_, _, _, _, _, _, _, _, _, _, _, _, _, _, _, _, _, _, _, _, _, _, _, _, _, _, _, _, _, _, _, ?_, rfl⟩; exact ⟨k + 1, by omega, by rw [HSN.out, HSP.out], by rw [HSN.out, HSP.out], rfl, below_alloc hb2 _⟩)
                        case measure => simp [intOf]; omega
              · have d1 : ((j : Int) == 1) = false := by simp; omega
                have Hj1 := Lib.hid hj1
                clear hj1
                have hif : (if j = 1 ∧ r.ty = 6 ∧ (M, F).2 = false then (mi (mi (M, F).1 (cnt r.ttl)) (cnt r.n4), true) else (mi (M, F).1 (cnt r.ttl), (M, F).2)) = (mi M (cnt r.ttl), F) := if_neg (fun h => Hj1.out h.1)
                by_cases hcm : C < M
                · skip
                  have HSP := Lib.hid (show stp j (M, F) r = (C, F) by unfold stp; rw [hif]; simp only [HC.out, HD.out]; rw [show mi M C = C from if_pos hcm])
                  go_wp2_with (first | (refine wpList_getAt rfl 46 (.tmp 50) rfl (ad.add (k * 12)) rfl [.string r.nm, .int .u16 r.ty, .int .u16 r.cl, .int .u32 r.ttl, .string r.raw, .string r.host, .string r.mail, .int .u32 r.n0, .int .u32 r.n1, .int .u32 r.n2, .int .u32 r.n3, .int .u32 r.n4] _ hcs Try.underlying46 rfl sizeRec ?_) | (go_at_call 47; refine (hcnt _).mono ?_; rintro e w6 ⟨rfl, rfl⟩) | (go_at_call 47; refine (hcn4 _).mono ?_; rintro e w6 ⟨rfl, rfl⟩))
                  go_roundw
                  case rel =>
                    first
                      | exact ⟨k + 1, by omega, by rw [HSN.out, HSP.out], by rw [HSN.out, HSP.out], by go_num, below_alloc hb2 _⟩
                      | (refine ⟨_, _, _, _, _, _, _, _, _, _, _, _, _, _, _, _, _, _, _, _, _, _, _, _, _, _, _, _, _, _, _, ?_, rfl⟩; exact ⟨k + 1, by omega, by rw [HSN.out, HSP.out], by rw [HSN.out, HSP.out], rfl, below_alloc hb2 _⟩)
                  case measure => simp [intOf]; omega
                · skip
                  have HSP := Lib.hid (show stp j (M, F) r = (M, F) by unfold stp; rw [hif]; simp only [HC.out, HD.out]; rw [show mi M C = M from if_neg (by omega)])
                  go_wp2_with (first | (refine wpList_getAt rfl 46 (.tmp 50) rfl (ad.add (k * 12)) rfl [.string r.nm, .int .u16 r.ty, .int .u16 r.cl, .int .u32 r.ttl, .string r.raw, .string r.host, .string r.mail, .int .u32 r.n0, .int .u32 r.n1, .int .u32 r.n2, .int .u32 r.n3, .int .u32 r.n4] _ hcs Try.underlying46 rfl sizeRec ?_) | (go_at_call 47; refine (hcnt _).mono ?_; rintro e w6 ⟨rfl, rfl⟩) | (go_at_call 47; refine (hcn4 _).mono ?_; rintro e w6 ⟨rfl, rfl⟩))
                  go_roundw
                  case rel =>
                    first
                      | exact ⟨k + 1, by omega, by rw [HSN.out, HSP.out], by rw [HSN.out, HSP.out], by go_num, below_alloc hb2 _⟩
                      | (refine ⟨_, _, _, _, _, _, _, _, _, _, _, _, _, _, _, _, _, _, _, _, _, _, _, _, _, _, _, _, _, _, _, ?_, rfl⟩; exact ⟨k + 1, by omega, by rw [HSN.out, HSP.out], by rw [HSN.out, HSP.out], rfl, below_alloc hb2 _⟩)
                  case measure => simp [intOf]; omega
            · obtain rfl : k = n := by omega
              rw [List.take_of_length_le (Nat.le_of_eq hsl), ← HSU.out]
              go_wp2
              go_roundw
              case rel => exact ⟨j + 1, by omega, rfl, rfl, by go_num, hb2⟩
              case measure => simp [intOf]; omega
        · obtain rfl : j = 3 := by omega
          have HE := Lib.hid (stAt_end true a.rc a.an.l a.au.l a.ex.l Hr.out HNG.out)
          have HST : Hid ((if (stA true a 3).2 then (stA true a 3).1 else 0) = a.life) := HE
          obtain ⟨⟨M, F⟩, hM⟩ : ∃ x, stA true a 3 = x := ⟨_, rfl⟩
          rw [hM] at HST
          rw [hM]
          clear hM HE
          simp only
          cases F with
          | false =>
            go_wp2
            go_ret
            exact ⟨by rw [← HST.out]; rfl, below_trans hb1 hb⟩
          | true =>
            go_wp2
            go_ret
            exact ⟨by rw [← HST.out]; rfl, below_trans hb1 hb⟩
end Go.Proofs.Ytioehogncgloiaa
