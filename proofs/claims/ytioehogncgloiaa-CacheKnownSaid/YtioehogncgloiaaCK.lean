/- cache.Keys: contract. -/
import Derived.Test.YtioehogncgloiaaCJ
namespace Go.Proofs.Ytioehogncgloiaa
open Go.RowKit Go.HL Go.Maps
set_option linter.unusedVariables false
set_option linter.unusedSimpArgs false
def qZero : Value := .agg #[.string ⟨#[]⟩, .int .u16 0, .int .u16 0]
theorem infoQue : (Try.prog.info? 25).map (fun i => (i.zero, i.size, i.bytes)) = some (some qZero, 3, 24) := by kernel_rfl
theorem sizeQue : (Try.prog.info? 25).map (·.size) = some 3 := by kernel_rfl
theorem qn_one (q : Qn) : ∀ u ∈ q.cells, u.oneCell' = true := by
  intro u hu
  simp only [Qn.cells, List.mem_cons, List.not_mem_nil, or_false] at hu
  rcases hu with h | h | h <;> (subst h; rfl)
theorem qns_snoc (l : List Qn) (q : Qn) : qns (l ++ [q]) = qns l ++ q.cells := by simp [qns]
theorem qns_len (l : List Qn) : (qns l).length = l.length * 3 := by
  induction l with
  | nil => rfl
  | cons x l ih => simp only [qns, List.flatMap_cons, List.length_append, List.length_cons] at *; rw [ih]; simp [Qn.cells]; omega
theorem qns_elem : ∀ (l : List Qn) (i : Nat) (q : Qn), l[i]? = some q → ((qns l).drop (i * 3)).take 3 = q.cells
  | [], i, q, h => by simp at h
  | x :: l, 0, q, h => by
    simp only [List.getElem?_cons_zero, Option.some.injEq] at h
    subst h
    simp only [qns, List.flatMap_cons, Nat.zero_mul, List.drop_zero]
    exact List.take_left' rfl
  | x :: l, i + 1, q, h => by
    simp only [List.getElem?_cons_succ] at h
    have ih := qns_elem l i q h
    simp only [qns, List.flatMap_cons]
    rw [show (i + 1) * 3 = x.cells.length + i * 3 by simp [Qn.cells]; omega, ← List.drop_drop, List.drop_left]
    exact ih
theorem Rd.que {w : World} {ad : Addr} {n c : Nat} {l : List Qn} (h : Rd w 3 (some ad) n c (qns l)) (i : Nat) (q : Qn) (hq : l[i]? = some q) : Cells w (ad.add (i * 3)) q.cells := by
  have := ((h.cells ad rfl).drop (i * 3)).take 3
  rwa [qns_elem l i q hq] at this
theorem Rd.ques {w : World} {A : Option Addr} {n c : Nat} {l : List Qn} (h : Rd w 3 A n c (qns l)) : l.length = n := by
  have := h.len
  rw [qns_len] at this
  omega
set_option maxRecDepth 8000 in
set_option maxHeartbeats 2000000 in
theorem keys_ (W : World) (C bm : Nat) (room : Int) (row : List Ce) (h : CacheW W C bm room row) (hlen : row.length ≤ 5000) :
    Calls Try.prog 24 #[ptr (some C)] W fun en W' => ∃ v, en = .returned v ∧ W'.ownsRow W.heap.size 25 3 v row.length (qns (row.map fun c => c.e.key)) ∧ Below W.heap.size W W' := by
  have c1 : W.cell? ⟨C, 1, none⟩ = some (ptr (hd row none)) := h.hd.cell 1 _ rfl
  have hstart : ∃ (l m : List Ce), l ++ m = row ∧ ptr (hd row none) = ptr (hd m none) ∧ W.ownsRow W.heap.size 25 3 (.slice none 0 0) l.length (qns (l.map fun c => c.e.key)) ∧ Below W.heap.size W W := ⟨[], row, rfl, rfl, World.ownsRow_nil _ _ _ _, Below.refl _ _⟩
  obtain ⟨r0, hr0⟩ : ∃ x, hd row none = x := ⟨_, rfl⟩
  rw [hr0] at c1 hstart
  have H := Lib.hid h
  clear h hr0
  unfold ptr at c1 ⊢
  go_enter Try.func24, Try.ntmps24
  go_wp2
  go_loopw [3, 4] (fun v p wr => ∃ (l m : List Ce), l ++ m = row ∧ p = ptr (hd m none) ∧ wr.ownsRow W.heap.size 25 3 v l.length (qns (l.map fun c => c.e.key)) ∧ Below W.heap.size W wr) (fun _ p wr => Classical.epsilon (IsLen p wr))
  case atStart => exact hstart
  case round =>
    obtain ⟨l, m, hlm, rfl, ho, hb⟩ := hrel
    cases m with
    | nil =>
      rw [List.append_nil] at hlm
      subst hlm
      rw [show ptr (hd ([] : List Ce) none) = .pointer none from rfl]
      go_wp2
      go_ret
      exact ⟨_, rfl, ho, hb⟩
    | cons e m =>
      have hc := H.out.below hb
      have hlk := hc.lk
      rw [← hlm, Lk.append] at hlk
      obtain ⟨_, hE, hlk2⟩ := hlk
      have e1 : wr.cell? ⟨e.b, 1, none⟩ = some (ptr (hd m none)) := hE.cell 1 _ rfl
      have e2 : wr.cell? ⟨e.b, 2, none⟩ = some (.string e.e.key.nm) := hE.cell 2 _ rfl
      have e3 : wr.cell? ⟨e.b, 3, none⟩ = some (.int .u16 e.e.key.ty) := hE.cell 3 _ rfl
      have e4 : wr.cell? ⟨e.b, 4, none⟩ = some (.int .u16 e.e.key.cl) := hE.cell 4 _ rfl
      have HL0 := Lib.hid (isLen_eps (q := m.length + 1) ⟨e :: m, _, ⟨hE, hlk2⟩, rfl, rfl⟩)
      have hlk0 := H.out.lk
      rw [← hlm, Lk.append] at hlk0
      have HL2 := Lib.hid hlk0.2.2
      have HE0 := Lib.hid hlk0.2.1
      clear hlk0
      have hll : l.length ≤ 5000 := by rw [← hlm] at hlen; simp at hlen; omega
      have hbs := hb.size
      obtain ⟨nx, hnx⟩ : ∃ x, hd m none = x := ⟨_, rfl⟩
      rw [hnx] at e1
      unfold ptr at e1
      clear hc hE hlk2
      rw [show ptr (hd (e :: m) none) = .pointer (some ⟨e.b, 0, none⟩) from rfl]
      go_wp2_with (first | (at_builtin; refine wpList_app (w0 := W) _ W.heap.size rfl (.tmp 19) (.tmp 24) 64 64 25 qZero 3 24 rfl Try.underlying64 infoQue rfl (by omega) (by omega) u3 l.length _ rfl (.own (own_below ho (below_new _ _))) _ 1 e.e.key.cells rfl (.slice (Rd.litN _ _ _ 3 _ rfl rfl) (qn_one _)) (below_alloc hb _) (by rw [World.size_alloc]; omega) (by omega) ?_; intro v1 w2 _ ho2 hb2 hg2; replace ho2 := ho2 (.inl (by omega)); have e1b : w2.cell? ⟨e.b, 1, none⟩ = some (.pointer (nx.map fun b => ⟨b, 0, none⟩)) := by { have := (HE0.out.below hb2).cell 1 _ rfl; rw [hnx] at this; exact this }))
      have hr : ∃ (l m : List Ce), l ++ m = row ∧ ptr nx = ptr (hd m none) ∧ w2.ownsRow W.heap.size 25 3 v1 l.length (qns (l.map fun c => c.e.key)) ∧ Below W.heap.size W w2 := ⟨l ++ [e], m, by rw [List.append_assoc]; exact hlm, by rw [hnx], by rw [List.map_append, List.map_cons, List.map_nil, qns_snoc, List.length_append]; exact ho2, hb2⟩
      go_roundw
      case rel =>
        first
          | exact hr
          | exact ⟨_, _, _, _, _, _, _, _, _, _, _, _, _, _, _, _, hr, rfl⟩
      case measure =>
        have hlk2 : Lk w2 (some e.b) m none := HL2.out.fr (Fr.of_below (S := fun _ => False) hb2) (fun _ _ h => h)
        have h2 := isLen_eps (p := ptr (hd m none)) (q := m.length) ⟨m, _, hlk2, rfl, rfl⟩
        have h3 := HL0.out
        rw [hnx] at h2
        show Classical.epsilon (IsLen (ptr nx) w2) < Classical.epsilon (IsLen (ptr (hd (e :: m) none)) wr)
        rw [h2, h3]
        omega
end Go.Proofs.Ytioehogncgloiaa
