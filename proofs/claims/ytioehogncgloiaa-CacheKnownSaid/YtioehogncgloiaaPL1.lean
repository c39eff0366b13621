/- The document's cache in memory; New, Clock, key, sweep: contracts. -/
import Derived.Test.YtioehogncgloiaaCV
namespace Go.Proofs.Ytioehogncgloiaa
open Go.RowKit Go.HL Go.Maps
set_option linter.unusedVariables false
set_option linter.unusedSimpArgs false
/-- An entry of the document's row. -/
structure Re where
  key : Qn
  am : Am
  put : Int
  life : Int
def Re.cells (e : Re) : List Value := [.string e.key.nm, .int .u16 e.key.ty, .int .u16 e.key.cl, .int .u16 e.am.rc, .bool e.am.aa, .slice e.am.an.a e.am.an.n e.am.an.c, .slice e.am.au.a e.am.au.n e.am.au.c, .slice e.am.ex.a e.am.ex.n e.am.ex.c, .int .i64 e.put, .int .i64 e.life]
def Re.val (e : Re) : Value := .agg #[.string e.key.nm, .int .u16 e.key.ty, .int .u16 e.key.cl, .int .u16 e.am.rc, .bool e.am.aa, .slice e.am.an.a e.am.an.n e.am.an.c, .slice e.am.au.a e.am.au.n e.am.au.c, .slice e.am.ex.a e.am.ex.n e.am.ex.c, .int .i64 e.put, .int .i64 e.life]
def Re.e (e : Re) : Ae := ⟨e.key, e.am.rc, e.am.an.l, e.am.au.l, e.am.ex.l, e.put, e.life⟩
def res (l : List Re) : List Value := l.flatMap Re.cells
structure ReOk (W : World) (e : Re) : Prop where
  key : e.key.ok
  am : e.am.ok W
  sm : e.am.small
  put : 0 ≤ e.put ∧ e.put ≤ 4611686018427387904
  life : 0 ≤ e.life ∧ e.life ≤ 2147483647
theorem ReOk.below {W W' : World} {e : Re} (h : ReOk W e) (hb : Below W.heap.size W W') : ReOk W' e := ⟨h.key, h.am.below hb, h.sm, h.put, h.life⟩
def reZero : Value := .agg #[.string ⟨#[]⟩, .int .u16 0, .int .u16 0, .int .u16 0, .bool false, .slice none 0 0, .slice none 0 0, .slice none 0 0, .int .i64 0, .int .i64 0]
theorem infoEnt : (Try.prog.info? 91).map (fun i => (i.zero, i.size, i.bytes)) = some (some reZero, 10, 120) := by kernel_rfl
theorem sizeEnt : (Try.prog.info? 91).map (·.size) = some 10 := by kernel_rfl
theorem res_snoc (l : List Re) (e : Re) : res (l ++ [e]) = res l ++ e.cells := by simp [res]
theorem res_append (l m : List Re) : res (l ++ m) = res l ++ res m := by simp [res]
theorem res_len (l : List Re) : (res l).length = l.length * 10 := by
  induction l with
  | nil => rfl
  | cons x l ih => simp only [res, List.flatMap_cons, List.length_append, List.length_cons] at *; rw [ih]; simp [Re.cells]; omega
theorem re_one (e : Re) : ∀ u ∈ e.cells, u.oneCell' = true := by
  intro u hu
  simp only [Re.cells, List.mem_cons, List.not_mem_nil, or_false] at hu
  rcases hu with h | h | h | h | h | h | h | h | h | h <;> (subst h; rfl)
theorem res_one (l : List Re) : ∀ u ∈ res l, u.oneCell' = true := by
  intro u hu
  obtain ⟨e, he, h⟩ := List.mem_flatMap.1 hu
  exact re_one e u h
theorem res_take (l : List Re) (k : Nat) : (res l).take (k * 10) = res (l.take k) := by
  induction l generalizing k with
  | nil => simp [res]
  | cons x l ih =>
    cases k with
    | zero => simp [res]
    | succ k =>
      simp only [res, List.flatMap_cons, List.take_succ_cons] at *
      rw [show (k + 1) * 10 = x.cells.length + k * 10 by simp [Re.cells]; omega, List.take_length_add_append, ih]
theorem res_drop (l : List Re) (k : Nat) : (res l).drop (k * 10) = res (l.drop k) := by
  induction l generalizing k with
  | nil => simp [res]
  | cons x l ih =>
    cases k with
    | zero => simp [res]
    | succ k =>
      simp only [res, List.flatMap_cons, List.drop_succ_cons] at *
      rw [show (k + 1) * 10 = x.cells.length + k * 10 by simp [Re.cells]; omega, List.drop_length_add_append, ih]
theorem Rd.ent {w : World} {ad : Addr} {n c : Nat} {l : List Re} (h : Rd w 10 (some ad) n c (res l)) (i : Nat) (e : Re) (he : l[i]? = some e) : Cells w (ad.add (i * 10)) e.cells := fun j u hu => by
  have hj : j < 10 := (List.getElem?_eq_some_iff.1 hu).1
  have := h.cells ad rfl (i * 10 + j) u (by
    unfold res
    rw [flat_get Re.cells 10 (by omega) (fun _ => rfl), show (i * 10 + j) / 10 = i by omega, show (i * 10 + j) % 10 = j by omega, he]
    exact hu)
  rwa [Addr.add_add]
theorem Rd.ents {w : World} {A : Option Addr} {n c : Nat} {l : List Re} (h : Rd w 10 A n c (res l)) : l.length = n := by
  have := h.len
  rw [res_len] at this
  omega
/-- The document's cache in memory. -/
structure RefW (W : World) (M : Nat) (v : Value) (room : Int) (row : List Re) : Prop where
  hd : Blk W M 62 [v, .int .i64 room]
  rd : ∃ A c, v = .slice A row.length c ∧ Rd W 10 A row.length c (res row)
  ne : ∀ A n c, v = .slice (some A) n c → 0 < n → A.block ≠ M
/-- The block of a row. -/
def RB (v : Value) (k : Nat) : Prop := ∃ A n c, v = .slice (some A) n c ∧ 0 < n ∧ A.block = k
theorem RefW.fr {S : Nat → Prop} {W W' : World} {M : Nat} {v : Value} {room : Int} {row : List Re} (h : RefW W M v room row) (k : Fr S W W') (h1 : ¬ S M) (h2 : ∀ i, RB v i → ¬ S i) : RefW W' M v room row := by
  obtain ⟨A, c, rfl, hr⟩ := h.rd
  exact ⟨h.hd.fr k h1, ⟨A, c, rfl, Rd.fr0 hr k (fun a ha h0 => h2 _ ⟨a, _, _, by rw [ha], h0, rfl⟩)⟩, h.ne⟩
theorem RefW.below {W W' : World} {M : Nat} {v : Value} {room : Int} {row : List Re} (h : RefW W M v room row) (k : Below W.heap.size W W') : RefW W' M v room row :=
  h.fr (Fr.of_below (S := fun _ => False) k) (fun h => h) (fun _ _ h => h)
theorem RefW.rb_lt {W : World} {M : Nat} {v : Value} {room : Int} {row : List Re} (h : RefW W M v room row) (i : Nat) (hi : RB v i) : i < W.heap.size := by
  obtain ⟨A, n, c, e1, h0, rfl⟩ := hi
  obtain ⟨B, d, e2, hr⟩ := h.rd
  rw [e1] at e2
  cases e2
  cases row with
  | nil => simp at h0
  | cons e row =>
    have h1 := Rd.ent hr 0 e rfl
    have h2 := h1 0 _ rfl
    rw [Nat.zero_mul, Addr.add_zero', Addr.add_zero'] at h2
    exact World.block_lt_of_cell? W _ h2
theorem own_rb {w : World} {base n size : Nat} {e : TypeId} {v : Value} {cs : List Value} (h : w.ownsRow base e size v n cs) (k : Nat) (hk : RB v k) : v.ownBlock = some k := by
  obtain ⟨A, m, c, rfl, h0, rfl⟩ := hk
  rcases h.2 with ⟨h1, _⟩ | ⟨g, cap, cur, h1, _⟩
  · cases h1
  · cases h1
    rfl
/-- A row of one's own, laid into the cache. -/
theorem RefW.mk' {W : World} {M base : Nat} {v : Value} {room : Int} {row : List Re} (hB : Blk W M 62 [v, .int .i64 room]) (ho : W.ownsRow base 91 10 v row.length (res row)) : RefW W M v room row := by
  refine ⟨hB, ?_, fun A n c hv h0 => ?_⟩
  · obtain ⟨A, c, h1, h2⟩ := own_rd ho
    exact ⟨A, c, h1, h2⟩
  · intro e
    exact own_ne_blk ho hB (by decide) (own_rb ho _ ⟨A, n, c, hv, h0, e⟩)
/-! ### plain -/
def sweepR (now : Int) (l : List Re) : List Re := l.filter fun e => aliveB now e.e
def rmR (k : Qn) (l : List Re) : List Re := l.eraseP fun e => e.key.eqB k
def findR (k : Qn) (l : List Re) : Option Re := l.find? fun e => e.key.eqB k
theorem sweepR_e (now : Int) (l : List Re) : (sweepR now l).map Re.e = sweepV now (l.map Re.e) := by
  unfold sweepR sweepV
  rw [List.filter_map]
  rfl
theorem rmR_e (k : Qn) (l : List Re) : (rmR k l).map Re.e = rmV k (l.map Re.e) := by
  unfold rmR rmV
  induction l with
  | nil => rfl
  | cons e l ih =>
    simp only [List.eraseP_cons, List.map_cons]
    rw [show (e.e.key.eqB k) = (e.key.eqB k) from rfl]
    cases e.key.eqB k with
    | true => simp
    | false => simp [ih]
theorem findR_e (k : Qn) (l : List Re) : (findR k l).map Re.e = findV k (l.map Re.e) := by
  unfold findR findV
  rw [List.find?_map]
  rfl
/-! ### small contracts -/
theorem rclock_ (w : World) (now : Int) : Calls Try.prog 40 #[.int .i64 now] w fun e w' => e = .returned (.int .i64 (clockV now)) ∧ w' = w := by
  go_enter Try.func40, Try.ntmps40
  by_cases h1 : now < 0
  · have e : clockV now = 0 := if_pos h1
    rw [e]
    go_wp2
    go_ret
    exact ⟨rfl, rfl⟩
  · by_cases h2 : 4611686018427387904 < now
    · have e : clockV now = 4611686018427387904 := by unfold clockV; rw [if_neg h1, if_pos h2]
      rw [e]
      go_wp2
      go_ret
      exact ⟨rfl, rfl⟩
    · have e : clockV now = now := by unfold clockV; rw [if_neg h1, if_neg h2]
      rw [e]
      go_wp2
      go_ret
      exact ⟨rfl, rfl⟩
theorem rnew_ (W : World) (n : Int) (h1 : 1 ≤ n) (h2 : n ≤ 4096) : Calls Try.prog 18 #[.int .i64 n] W fun e W' => e = .returned (.tuple #[ptr (some W.heap.size), .int .i64 0]) ∧ RefW W' W.heap.size (.slice none 0 0) n [] ∧ Below W.heap.size W W' := by
  unfold ptr
  go_enter Try.func18, Try.ntmps18
  go_wp2
  go_ret2
  exact ⟨rfl, ⟨Blk.new W _ _, ⟨none, 0, rfl, Rd.nil _ _⟩, fun A n c hv => (by cases hv)⟩, below_new W _⟩
theorem rnew_bad (W : World) (n : Int) (h : n < 1 ∨ 4096 < n) : Calls Try.prog 18 #[.int .i64 n] W fun e W' => e = .returned (.tuple #[ptr none, .int .i64 1]) ∧ W' = W := by
  unfold ptr
  go_enter Try.func18, Try.ntmps18
  by_cases h1 : n < 1
  · go_wp2
    go_ret2
    exact ⟨rfl, rfl⟩
  · have h2 : 4096 < n := by omega
    go_wp2
    go_ret2
    exact ⟨rfl, rfl⟩
theorem new_bad (W : World) (n : Int) (h : n < 1 ∨ 4096 < n) : Calls Try.prog 9 #[.int .i64 n] W fun e W' => e = .returned (.tuple #[ptr none, .int .i64 1]) ∧ W' = W := by
  unfold ptr
  go_enter Try.func9, Try.ntmps9
  by_cases h1 : n < 1
  · go_wp2
    go_ret2
    exact ⟨rfl, rfl⟩
  · have h2 : 4096 < n := by omega
    go_wp2
    go_ret2
    exact ⟨rfl, rfl⟩
theorem results_rec1 {P : Program} {w : World} {fn : Func} {p : Tmp} {ty : TypeId} (h : fn.results = #[.cell p ty]) (tmps : Array Value) (g : Nat) (t : TypeId) (cs : List Value) (d : TypeDesc) (hp : tmps.getD p undef = .pointer (some ⟨g, 0, none⟩)) (hg : Blk w g t cs)
    (hu : P.underlying ty = some d) (hd : (match d with | .struct _ | .array _ _ => true | _ => false) = true) (hi : (P.info? ty).map (·.size) = some cs.length) :
    (results fn tmps).run P w = .ok (.agg cs.toArray) w := by
  have hl := run_loadVar_row (P := P) w g t ty cs.toArray (0, 0) d hg hu hd (by simpa using hi)
  have hp' : tmps[p]?.getD undef = .pointer (some ⟨g, 0, none⟩) := by simpa using hp
  simp [results, h, Sem.run_bind, hp', asAddr, hl, Result.andThen]
theorem sizeQue' : (Try.prog.info? 25).map (·.size) = some 3 := by kernel_rfl
set_option maxHeartbeats 1000000 in
theorem rkey_ (w : World) (q : Qn) (hq : q.nm.size ≤ 140737488355328) : Calls Try.prog 45 #[q.val] w fun e w' => e = .returned (foldQ q).val ∧ Below w.heap.size w w' := by
  have b1 := below_new w (.cells #[.string q.nm, .int .u16 q.ty, .int .u16 q.cl] 25)
  have b2 := below_alloc b1 (.cells #[.string ⟨#[]⟩, .int .u16 0, .int .u16 0] 25)
  have hQ := (Blk.new w 25 #[.string q.nm, .int .u16 q.ty, .int .u16 q.cl]).alloc (.cells #[.string ⟨#[]⟩, .int .u16 0, .int .u16 0] 25)
  have hR := Blk.new (w.alloc (.cells #[.string q.nm, .int .u16 q.ty, .int .u16 q.cl] 25)) 25 #[.string ⟨#[]⟩, .int .u16 0, .int .u16 0]
  rw [World.size_alloc] at hR
  obtain ⟨W0, hW0⟩ : ∃ x, (w.alloc (.cells #[.string q.nm, .int .u16 q.ty, .int .u16 q.cl] 25)).alloc (.cells #[.string ⟨#[]⟩, .int .u16 0, .int .u16 0] 25) = x := ⟨_, rfl⟩
  have hz : W0.heap.size = w.heap.size + 2 := by rw [← hW0, World.size_alloc, World.size_alloc]
  obtain ⟨g, hg⟩ : ∃ x, w.heap.size = x := ⟨_, rfl⟩
  rw [hW0] at b2 hQ hR
  rw [hg] at hQ hR hz
  have q0 := hQ.cell 0 _ rfl
  unfold Qn.val
  go_enter Try.func45, Try.ntmps45
  go_wp2_with (first | (go_at_call 16; refine (refFold_ _ _ (by omega)).mono ?_; rintro e W1 ⟨rfl, hb1⟩; have hQ1 := hQ.below hb1; have f1 := hQ1.free 0; have y0 := hQ1.cell 0 _ rfl) | (refine wpList_get rfl 25 (.tmp 1) rfl g rfl 25 [.string (foldS q.nm), .int .u16 q.ty, .int .u16 q.cl] _ (hQ1.set 0 _) Try.underlying25 rfl sizeQue' ?_) | (refine wpList_put rfl 25 (.tmp 2) (.tmp 7) rfl (g + 1) #[.string (foldS q.nm), .int .u16 q.ty, .int .u16 q.cl] rfl rfl 25 [.string ⟨#[]⟩, .int .u16 0, .int .u16 0] ((hR.below hb1).set_other 0 _ (by omega)) sizeQue' rfl rfl ?_))
  have hb := below_trans b2 hb1
  have hz1 := hb1.size
  have hbs := below_setCell hb ⟨g, 0, none⟩ (.string (foldS q.nm)) (by simp; omega)
  have hRs := (hR.below hb1).set_other (g' := g) 0 (.string (foldS q.nm)) (by omega)
  refine bodyPost_ret (results_rec1 rfl _ _ _ _ _ rfl (hRs.row #[.string (foldS q.nm), .int .u16 q.ty, .int .u16 q.cl]) Try.underlying25 rfl sizeQue') rfl ?_
  exact ⟨rfl, hbs.grown (grown_row _ _ _) (by simp [World.setCell]; omega) (fun k hk => by cases hk; omega)⟩
end Go.Proofs.Ytioehogncgloiaa
