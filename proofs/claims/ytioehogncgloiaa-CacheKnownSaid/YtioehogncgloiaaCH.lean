/- What is put and got, plainly; three rows laid into an answer; clock, Len, New: contracts. -/
import Derived.Test.YtioehogncgloiaaCG
import Derived.Test.YtioehogncgloiaaCD
import Derived.Test.YtioehogncgloiaaNB
namespace Go.Proofs.Ytioehogncgloiaa
open Go.RowKit Go.HL Go.Maps
set_option linter.unusedVariables false
set_option linter.unusedSimpArgs false
/-! ### plain -/
def clockV (now : Int) : Int := if now < 0 then 0 else if 4611686018427387904 < now then 4611686018427387904 else now
theorem clockV_bd (now : Int) : 0 ≤ clockV now ∧ clockV now ≤ 4611686018427387904 := by unfold clockV; split <;> (try split) <;> omega
def Qn.eqB (a b : Qn) : Bool := a.nm.toList == b.nm.toList && a.ty == b.ty && a.cl == b.cl
theorem Qn.eqB_iff (a b : Qn) : a.eqB b = true ↔ a = b := by
  constructor
  · intro h
    simp only [Qn.eqB, Bool.and_eq_true, beq_iff_eq] at h
    obtain ⟨⟨h1, h2⟩, h3⟩ := h
    cases a
    cases b
    simp only at *
    rw [toList_inj h1, h2, h3]
  · rintro rfl
    simp [Qn.eqB]
theorem Qn.eqB_false {a b : Qn} (h : a ≠ b) : a.eqB b = false := by
  cases hh : a.eqB b with
  | false => rfl
  | true => exact absurd ((Qn.eqB_iff a b).1 hh) h
def foldQ (q : Qn) : Qn := { q with nm := foldS q.nm }
theorem foldQ_ok {q : Qn} (h : q.ok) : (foldQ q).ok := ⟨h.ty, h.cl, by show (foldS q.nm).size ≤ _; rw [foldS_size]; exact h.nm⟩
def aliveB (now : Int) (e : Ae) : Bool := decide (now < e.put + e.life * 10)
def sweepV (now : Int) (l : List Ae) : List Ae := l.filter (aliveB now)
/-- Without the entry of a key. -/
def rmV (k : Qn) (l : List Ae) : List Ae := l.eraseP fun e => e.key.eqB k
def findV (k : Qn) (l : List Ae) : Option Ae := l.find? fun e => e.key.eqB k
def newAe (q : Qn) (rc : Int) (an au ex : List Rc) (now : Int) : Ae := ⟨foldQ q, rc, an, au, ex, now, lifeV rc an au ex⟩
/-- What a Put leaves, and tells. -/
def putV (room : Int) (l : List Ae) (q : Qn) (rc : Int) (an au ex : List Rc) (now : Int) : List Ae × Bool :=
  if lifeV rc an au ex = 0 ∨ isNm q.nm = false then (sweepV (clockV now) l, false)
  else if room < ((rmV (foldQ q) (sweepV (clockV now) l)).length : Int) + 1 then ((rmV (foldQ q) (sweepV (clockV now) l) ++ [newAe q rc an au ex (clockV now)]).drop 1, true)
  else (rmV (foldQ q) (sweepV (clockV now) l) ++ [newAe q rc an au ex (clockV now)], true)
def ageV (now : Int) (e : Ae) : Int := (if 0 < now - e.put then now - e.put else 0) / 10
/-- What a Get leaves, and the entry that it tells of. -/
def getV (l : List Ae) (q : Qn) (now : Int) : List Ae × Option Ae :=
  match findV (foldQ q) (sweepV (clockV now) l) with
  | none => (sweepV (clockV now) l, none)
  | some e => (rmV (foldQ q) (sweepV (clockV now) l) ++ [e], some e)
theorem sweepC_e (now : Int) (row : List Ce) : (sweepC now row).map Ce.e = sweepV now (row.map Ce.e) := by
  unfold sweepC sweepV
  rw [List.filter_map]
  congr 1
  apply List.filter_congr
  intro c _
  simp only [overB, aliveB, Function.comp]
  rw [Bool.eq_iff_iff]
  simp
theorem eraseP_mid {α : Type} (p : α → Bool) (l1 l2 : List α) (e : α) (h1 : ∀ x ∈ l1, p x = false) (he : p e = true) : (l1 ++ e :: l2).eraseP p = l1 ++ l2 := by
  rw [List.eraseP_append_right _ (fun x hx => by rw [h1 x hx]; decide)]
  rw [List.eraseP_cons_of_pos he]
theorem find_mid {α : Type} (p : α → Bool) (l1 l2 : List α) (e : α) (h1 : ∀ x ∈ l1, p x = false) (he : p e = true) : (l1 ++ e :: l2).find? p = some e := by
  rw [List.find?_append, List.find?_eq_none.2 (fun x hx => by rw [h1 x hx]; decide), List.find?_cons_of_pos he]
  rfl
/-- A key stands once in a row, or nowhere. -/
theorem split_key (row : List Ce) (k : Qn) (hnk : (row.map fun c => kl c.e.key).Nodup) : (∃ l1 e l2, row = l1 ++ e :: l2 ∧ e.e.key = k ∧ ∀ c ∈ l1, c.e.key ≠ k) ∨ ∀ c ∈ row, c.e.key ≠ k := by
  induction row with
  | nil => exact .inr (fun c h => by cases h)
  | cons c row ih =>
    by_cases hc : c.e.key = k
    · exact .inl ⟨[], c, row, rfl, hc, fun d h => by cases h⟩
    · have hn2 : (row.map fun c => kl c.e.key).Nodup := by rw [List.map_cons, List.nodup_cons] at hnk; exact hnk.2
      rcases ih hn2 with ⟨l1, e, l2, h1, h2, h3⟩ | h
      · refine .inl ⟨c :: l1, e, l2, by rw [h1]; rfl, h2, fun d hd => ?_⟩
        rcases List.mem_cons.1 hd with rfl | hd
        · exact hc
        · exact h3 d hd
      · refine .inr (fun d hd => ?_)
        rcases List.mem_cons.1 hd with rfl | hd
        · exact hc
        · exact h d hd
theorem rmV_mid {l1 l2 : List Ce} {e : Ce} {k : Qn} (h1 : ∀ c ∈ l1, c.e.key ≠ k) (he : e.e.key = k) : rmV k ((l1 ++ e :: l2).map Ce.e) = (l1 ++ l2).map Ce.e ∧ findV k ((l1 ++ e :: l2).map Ce.e) = some e.e := by
  have h2 : ∀ x ∈ l1.map Ce.e, x.key.eqB k = false := by
    intro x hx
    obtain ⟨c, hc, rfl⟩ := List.mem_map.1 hx
    exact Qn.eqB_false (h1 c hc)
  have h3 : e.e.key.eqB k = true := (Qn.eqB_iff _ _).2 he
  unfold rmV findV
  rw [List.map_append, List.map_cons, eraseP_mid _ _ _ _ h2 h3, find_mid _ _ _ _ h2 h3, List.map_append]
  exact ⟨rfl, rfl⟩
theorem rmV_none {row : List Ce} {k : Qn} (h : ∀ c ∈ row, c.e.key ≠ k) : rmV k (row.map Ce.e) = row.map Ce.e ∧ findV k (row.map Ce.e) = none := by
  have h2 : ∀ x ∈ row.map Ce.e, x.key.eqB k = false := by
    intro x hx
    obtain ⟨c, hc, rfl⟩ := List.mem_map.1 hx
    exact Qn.eqB_false (h c hc)
  unfold rmV findV
  exact ⟨List.eraseP_of_forall_not (fun x hx => by rw [h2 x hx]; decide), List.find?_eq_none.2 (fun x hx => by rw [h2 x hx]; decide)⟩
/-! ### three rows are laid into an answer -/
theorem VV.any2 {c : List (Option Value)} {G : Nat → Value → World → Prop} {j : Nat} {u : Value} {W W' : World} (h : VV c G j u W) (hG : G j u W → G j u W') : VV c G j u W' := by
  unfold VV at *
  split
  · rename_i e he; rw [he] at h; exact h
  · rename_i he; rw [he] at h; exact hG h
/-- While three rows are laid into the answer in block g. -/
structure R3 (w0 : World) (g : Nat) (rc : Int) (aa : Bool) (o1 o2 o3 : Value) (l1 l2 l3 : List Rc) (d1 d2 d3 : Bool) (W : World) : Prop where
  fr : Fr (fun k => k = g) w0 W
  ex : ∃ x1 x2 x3, Blk W g 28 [.int .u16 rc, .bool aa, x1, x2, x3] ∧ (d1 = false → x1 = o1) ∧ (d2 = false → x2 = o2) ∧ (d3 = false → x3 = o3) ∧
    (d1 = true → W.ownsRow w0.heap.size 46 12 x1 l1.length (rcs l1)) ∧ (d2 = true → W.ownsRow w0.heap.size 46 12 x2 l2.length (rcs l2)) ∧ (d3 = true → W.ownsRow w0.heap.size 46 12 x3 l3.length (rcs l3))
section
variable {w0 W W' : World} {g : Nat} {rc : Int} {aa : Bool} {o1 o2 o3 : Value} {l1 l2 l3 : List Rc} {d1 d2 d3 : Bool}
theorem R3.below (h : R3 w0 g rc aa o1 o2 o3 l1 l2 l3 d1 d2 d3 W) (hb : Below W.heap.size W W') : R3 w0 g rc aa o1 o2 o3 l1 l2 l3 d1 d2 d3 W' := by
  obtain ⟨h1, x1, x2, x3, hB, a1, a2, a3, b1, b2, b3⟩ := h
  exact ⟨h1.trans (Fr.of_below hb), x1, x2, x3, hB.below hb, a1, a2, a3, fun h => own_below (b1 h) hb, fun h => own_below (b2 h) hb, fun h => own_below (b3 h) hb⟩
theorem own_setCell {n B : Nat} {v x : Value} {cs : List Value} {e : TypeId} (h : W.ownsRow B e 12 v n cs) (g j : Nat) (hg : v.ownBlock ≠ some g) : (W.setCell ⟨g, j, none⟩ x).ownsRow B e 12 v n cs :=
  own_fr h (S := fun k => k = g) ((Fr.refl _ W).setCell g j x (.inl rfl)) (fun i hi e => hg (by rw [← e]; exact hi))
theorem R3.store1 (h : R3 w0 g rc aa o1 o2 o3 l1 l2 l3 d1 d2 d3 W) {v : Value} (hv : W.ownsRow w0.heap.size 46 12 v l1.length (rcs l1)) : R3 w0 g rc aa o1 o2 o3 l1 l2 l3 true d2 d3 (W.setCell ⟨g, 2, none⟩ v) := by
  obtain ⟨h1, x1, x2, x3, hB, a1, a2, a3, b1, b2, b3⟩ := h
  exact ⟨h1.setCell g 2 v (.inl rfl), v, x2, x3, hB.set 2 v, (fun h => by cases h), a2, a3, fun _ => own_setCell hv g 2 (own_ne_blk hv hB (by decide)), fun h => own_setCell (b2 h) g 2 (own_ne_blk (b2 h) hB (by decide)), fun h => own_setCell (b3 h) g 2 (own_ne_blk (b3 h) hB (by decide))⟩
theorem R3.store2 (h : R3 w0 g rc aa o1 o2 o3 l1 l2 l3 d1 d2 d3 W) {v : Value} (hv : W.ownsRow w0.heap.size 46 12 v l2.length (rcs l2)) : R3 w0 g rc aa o1 o2 o3 l1 l2 l3 d1 true d3 (W.setCell ⟨g, 3, none⟩ v) := by
  obtain ⟨h1, x1, x2, x3, hB, a1, a2, a3, b1, b2, b3⟩ := h
  exact ⟨h1.setCell g 3 v (.inl rfl), x1, v, x3, hB.set 3 v, a1, (fun h => by cases h), a3, fun h => own_setCell (b1 h) g 3 (own_ne_blk (b1 h) hB (by decide)), fun _ => own_setCell hv g 3 (own_ne_blk hv hB (by decide)), fun h => own_setCell (b3 h) g 3 (own_ne_blk (b3 h) hB (by decide))⟩
theorem R3.store3 (h : R3 w0 g rc aa o1 o2 o3 l1 l2 l3 d1 d2 d3 W) {v : Value} (hv : W.ownsRow w0.heap.size 46 12 v l3.length (rcs l3)) : R3 w0 g rc aa o1 o2 o3 l1 l2 l3 d1 d2 true (W.setCell ⟨g, 4, none⟩ v) := by
  obtain ⟨h1, x1, x2, x3, hB, a1, a2, a3, b1, b2, b3⟩ := h
  exact ⟨h1.setCell g 4 v (.inl rfl), x1, x2, v, hB.set 4 v, a1, a2, (fun h => by cases h), fun h => own_setCell (b1 h) g 4 (own_ne_blk (b1 h) hB (by decide)), fun h => own_setCell (b2 h) g 4 (own_ne_blk (b2 h) hB (by decide)), fun _ => own_setCell hv g 4 (own_ne_blk hv hB (by decide))⟩
theorem R3.c1 (h : R3 w0 g rc aa o1 o2 o3 l1 l2 l3 false d2 d3 W) : W.cell? ⟨g, 2, none⟩ = some o1 := by
  obtain ⟨_, x1, x2, x3, hB, a1, _⟩ := h
  rw [← a1 rfl]
  exact hB.cell 2 _ rfl
theorem R3.c2 (h : R3 w0 g rc aa o1 o2 o3 l1 l2 l3 d1 false d3 W) : W.cell? ⟨g, 3, none⟩ = some o2 := by
  obtain ⟨_, x1, x2, x3, hB, _, a2, _⟩ := h
  rw [← a2 rfl]
  exact hB.cell 3 _ rfl
theorem R3.c3 (h : R3 w0 g rc aa o1 o2 o3 l1 l2 l3 d1 d2 false W) : W.cell? ⟨g, 4, none⟩ = some o3 := by
  obtain ⟨_, x1, x2, x3, hB, _, _, a3, _⟩ := h
  rw [← a3 rfl]
  exact hB.cell 4 _ rfl
end
/-! ### small contracts -/
theorem clock_ (w : World) (now : Int) : Calls Try.prog 29 #[.int .i64 now] w fun e w' => e = .returned (.int .i64 (clockV now)) ∧ w' = w := by
  go_enter Try.func29, Try.ntmps29
  by_cases h1 : now < 0
  · have e : clockV now = 0 := if_pos h1
    rw [e]
    go_wp2
    go_ret
    exact ⟨rfl, rfl⟩
  · by_cases h2 : 4611686018427387904 < now
    · have e : clockV now = 4611686018427387904 := by unfold clockV; rw [if_neg h1, if_pos h2]
      rw [e]
      go_wp2
      go_ret
      exact ⟨rfl, rfl⟩
    · have e : clockV now = now := by unfold clockV; rw [if_neg h1, if_neg h2]
      rw [e]
      go_wp2
      go_ret
      exact ⟨rfl, rfl⟩
theorem len_ (W : World) (C bm : Nat) (room : Int) (row : List Ce) (h : CacheW W C bm room row) :
    Calls Try.prog 12 #[ptr (some C)] W fun e W' => e = .returned (.int .i64 (row.length : Int)) ∧ W' = W := by
  have c2 : W.cell? ⟨C, 2, none⟩ = some (.map (some bm)) := h.hd.cell 2 _ rfl
  obtain ⟨D, n, h1, h2, _⟩ := h.mp
  have hlen := h1.len Try.underlying73 3
  rw [h2] at hlen
  unfold ptr
  clear h1 h2 h
  go_enter Try.func12, Try.ntmps12
  go_wp2
  go_ret
  exact ⟨rfl, rfl⟩
attribute [local go_sem] run_makeMap in
theorem new_ (W : World) (n : Int) (h1 : 1 ≤ n) (h2 : n ≤ 4096) : Calls Try.prog 9 #[.int .i64 n] W fun e W' => e = .returned (.tuple #[ptr (some (W.heap.size + 1)), .int .i64 0]) ∧ CacheW W' (W.heap.size + 1) W.heap.size n [] ∧ Below W.heap.size W W' := by
  unfold ptr
  go_enter Try.func9, Try.ntmps9
  go_wp2
  go_ret2
  have hM := MapR.made W
  have hb1 := below_new W (.map #[] 0)
  have hB := Blk.new (W.alloc (.map #[] 0)) 78 #[.pointer none, .pointer none, .map (some W.heap.size), .int .i64 n]
  rw [World.size_alloc] at hB
  have hb2 := below_new (W.alloc (.map #[] 0)) (.cells #[.pointer none, .pointer none, .map (some W.heap.size), .int .i64 n] 78)
  exact ⟨rfl, ⟨hB, trivial, hM.fr (Fr.of_below (S := fun _ => False) hb2) (fun h => h), List.nodup_nil, List.nodup_nil, fun c hc => by cases hc⟩, below_alloc hb1 _⟩
end Go.Proofs.Ytioehogncgloiaa
