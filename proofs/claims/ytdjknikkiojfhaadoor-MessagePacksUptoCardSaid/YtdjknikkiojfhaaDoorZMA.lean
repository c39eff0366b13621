import Derived.Test.YtdjknikkiojfhaaDoorZKM
import Derived.Test.YtdjknikkiojfhaaDoorZRDK
import Derived.Deep.RegionLaw
import Derived.Laws.EntriesVeiled
import Derived.StillTailTactics
/- A message's parts and flags. -/
namespace Go.Proofs.YtdjknikkiojfhaaDoor
open Go.RowKit Go.HL Go.Maps
set_option linter.unusedVariables false
set_option linter.unusedSimpArgs false
/-- A record's data. -/
def Rc.dt (r : Rc) : Dt := ⟨r.raw, r.host, r.mail, r.n0, r.n1, r.n2, r.n3, r.n4⟩
theorem Rc.dt_ok {r : Rc} (h : r.ok) : ∀ k, k < 5 → 0 ≤ r.dt.getN k ∧ r.dt.getN k < 4294967296 := by
  intro k hk
  rcases k with _ | _ | _ | _ | _ | k
  · exact h.n0
  · exact h.n1
  · exact h.n2
  · exact h.n3
  · exact h.n4
  · omega
/-- The three parts of a message. -/
def Mg.part (m : Mg) : Nat → Sl
  | 0 => m.an
  | 1 => m.au
  | _ => m.ex
theorem Mg.part_ok {W : World} {m : Mg} (h : m.ok W) (p : Nat) : (m.part p).ok W := by
  rcases p with _ | _ | p
  · exact h.an
  · exact h.au
  · exact h.ex
theorem Mg.part_cell (m : Mg) (p : Nat) (hp : p < 3) : m.cells[10 + p]? = some (.slice (m.part p).a (m.part p).n (m.part p).c) := by
  rcases p with _ | _ | _ | p
  · rfl
  · rfl
  · rfl
  · omega
/-- How great a message is: at most B records a part, texts of at most B bytes. -/
structure Mg.fit (B : Nat) (m : Mg) : Prop where
  q : m.q.n ≤ B
  p : ∀ p, p < 3 → (m.part p).n ≤ B
  qs : ∀ x ∈ m.q.l, x.nm.size ≤ B
  rs : ∀ p, p < 3 → ∀ r ∈ (m.part p).l, r.nm.size ≤ B ∧ r.raw.size ≤ B ∧ r.host.size ≤ B ∧ r.mail.size ≤ B
theorem Mg.fit.mono {B C : Nat} {m : Mg} (h : m.fit B) (hb : B ≤ C) : m.fit C :=
  ⟨Nat.le_trans h.q hb, fun p hp => Nat.le_trans (h.p p hp) hb, fun x hx => Nat.le_trans (h.qs x hx) hb, fun p hp r hr => by have := h.rs p hp r hr; omega⟩
def partsV (g : Nat) : Value := .agg #[.pointer (some ⟨g, 10, none⟩), .pointer (some ⟨g, 11, none⟩), .pointer (some ⟨g, 12, none⟩)]
theorem parts_idx (g p : Nat) (hp : p < 3) (w : World) : (Instr.index 66 (partsV g) (.int .i64 (p : Int))).run Tryd.prog w = .ok (.pointer (some ⟨g, 10 + p, none⟩)) w := by
  rcases p with _ | _ | _ | p
  · kernel_rfl
  · kernel_rfl
  · kernel_rfl
  · omega
theorem results_one {P : Program} {fn : Func} {p : Tmp} {ty : TypeId} (h : fn.results = #[.cell p ty]) (tmps : Array Value) (w : World) (g : Nat) (t : TypeId) (cs : List Value) (d : TypeDesc) (hp : tmps.getD p undef = .pointer (some ⟨g, 0, none⟩)) (hg : Blk w g t cs)
    (hu : P.underlying ty = some d) (hd : (match d with | .struct _ | .array _ _ => true | _ => false) = true) (hi : (P.info? ty).map (·.size) = some cs.length) :
    (results fn tmps).run P w = .ok (.agg cs.toArray) w := by
  have hl := run_loadVar_row (P := P) w g t ty cs.toArray (0, 0) d hg hu hd (by simpa using hi)
  have hp' : tmps[p]?.getD undef = .pointer (some ⟨g, 0, none⟩) := by simpa using hp
  simp [results, h, Sem.run_bind, hp', asAddr, hl, Result.andThen]
theorem sizeP3 : (Tryd.prog.info? 66).map (·.size) = some 3 := by kernel_rfl
set_option maxRecDepth 8000 in
theorem parts_ (w : World) (g : Nat) : Calls Tryd.prog 26 #[.pointer (some ⟨g, 0, none⟩)] w fun e w' => e = .returned (partsV g) ∧ Below w.heap.size w w' := by
  have h0 := Blk.new w 66 #[.pointer none, .pointer none, .pointer none]
  have hb0 := below_new w (.cells #[.pointer none, .pointer none, .pointer none] 66)
  obtain ⟨W1, hW1⟩ : ∃ x, w.alloc (.cells #[.pointer none, .pointer none, .pointer none] 66) = x := ⟨_, rfl⟩
  rw [hW1] at h0 hb0
  obtain ⟨b, hb⟩ : ∃ x, w.heap.size = x := ⟨_, rfl⟩
  rw [hb] at h0 hb0 ⊢
  go_enter Tryd.func26, Tryd.ntmps26
  go_wp2
  clear hW1 hb
  go_still_tail 10, (by kernel_rfl)
  have h1 : Blk W1.drew b 66 [.pointer none, .pointer none, .pointer none] := h0
  have h2 := h1.row #[.pointer (some ⟨g, 10, none⟩), .pointer (some ⟨g, 11, none⟩), .pointer (some ⟨g, 12, none⟩)]
  have hb2 : Below b w (W1.drew.setRow b #[.pointer (some ⟨g, 10, none⟩), .pointer (some ⟨g, 11, none⟩), .pointer (some ⟨g, 12, none⟩)]) := Below.grown (hb0.drew) (grown_row _ _ _) (Nat.le_of_lt h0.lt) (fun k hk => by cases hk; exact Nat.le_refl _)
  refine wpList_put rfl 66 _ _ rfl b #[.pointer (some ⟨g, 10, none⟩), .pointer (some ⟨g, 11, none⟩), .pointer (some ⟨g, 12, none⟩)] rfl rfl 66 _ h1 sizeP3 rfl rfl ?_
  go_wp2
  exact bodyPost_ret (v := partsV g) (results_one rfl _ _ b 66 _ _ rfl h2 Tryd.underlying66 rfl sizeP3) rfl ⟨rfl, hb2⟩
/-- What holds while the flags are told. -/
structure Fl (W : World) (F : Nat) (f : Int) (wr : World) : Prop where
  f : Blk wr F 22 [.int .u16 f]
  p : Blk wr (F + 1) 116 [.func (.func 62) #[] #[.pointer (some ⟨F, 0, none⟩)]]
  B : Below F W wr
theorem Fl.set {W : World} {F : Nat} {f g : Int} {wr : World} (h : Fl W F f wr) : Fl W F g (wr.setCell ⟨F, 0, none⟩ (.int .u16 g)) := by
  have hf := (Fr.refl (fun i => i = F) wr).setCell F 0 (.int .u16 g) (.inl rfl)
  exact ⟨h.f.set 0 _, h.p.fr hf (by omega), Fr.toBelow h.B hf (fun i _ e => by have e' : i = F := e; omega) (Nat.le_of_lt h.f.lt)⟩
theorem Fl.drew {W : World} {F : Nat} {f : Int} {wr : World} (h : Fl W F f wr) : Fl W F f wr.drew := ⟨h.f, h.p, h.B.drew⟩
theorem shl16 (f v : Int) (n : Nat) (hn : n = 1 ∨ n = 3 ∨ n = 4) (hf : 0 ≤ f) (hv : 0 ≤ v ∧ v < 2 ^ n) (h : f * 2 ^ n + v < 65536) : bits .or .u16 (f * 2 ^ n) v = f * 2 ^ n + v := by
  rcases hn with rfl | rfl | rfl
  · exact bits_join .u16 16 (by decide) (fun n h0 h1 => wraps_u16 n h0 h1) 1 (f * 2 ^ 1) v (by omega) (by omega) (by omega) (by omega) (by omega) (by omega)
  · exact bits_join .u16 16 (by decide) (fun n h0 h1 => wraps_u16 n h0 h1) 3 (f * 2 ^ 3) v (by omega) (by omega) (by omega) (by omega) (by omega) (by omega)
  · exact bits_join .u16 16 (by decide) (fun n h0 h1 => wraps_u16 n h0 h1) 4 (f * 2 ^ 4) v (by omega) (by omega) (by omega) (by omega) (by omega) (by omega)
theorem push_ (w : World) (F : Nat) (f v : Int) (n : Nat) (hn : n = 1 ∨ n = 3 ∨ n = 4) (hf : 0 ≤ f) (hv : 0 ≤ v ∧ v < 2 ^ n) (h : f * 2 ^ n + v < 65536) (hF : Blk w F 22 [.int .u16 f]) :
    Calls Tryd.prog 62 #[.int .u8 v, .int .i64 (n : Int), .pointer (some ⟨F, 0, none⟩)] w fun e w' => e = .returned (.tuple #[]) ∧ w' = w.setCell ⟨F, 0, none⟩ (.int .u16 (f * 2 ^ n + v)) := by
  have hs := shl16 f v n hn hf hv h
  have c0 := hF.cell 0 _ rfl
  have f0 := hF.free 0
  clear hF
  rcases hn with rfl | rfl | rfl
  all_goals
    simp only [Nat.reducePow, Int.reducePow] at hv h hs ⊢
    go_enter Tryd.func62, Tryd.ntmps62
    go_wp2
    exact bodyPost_end (results_none rfl _ _ _) rfl ⟨rfl, rfl⟩
theorem Fl.push {W : World} {F : Nat} {f : Int} {wr : World} (h : Fl W F f wr) (hf : 0 ≤ f) (n : Nat) (hn : n = 1 ∨ n = 3 ∨ n = 4) (v : Int) (hv : 0 ≤ v ∧ v < 2 ^ n) (hb : f * 2 ^ n + v < 65536) :
    Calls Tryd.prog 62 #[.int .u8 v, .int .i64 (n : Int), .pointer (some ⟨F, 0, none⟩)] wr fun e w' => e = .returned (.tuple #[]) ∧ Fl W F (f * 2 ^ n + v) w' :=
  (push_ wr F f v n hn hf hv hb h.f).mono fun e w' ⟨h1, h2⟩ => ⟨h1, by rw [h2]; exact h.set⟩
def bitV (b : Bool) : Int := if b then 1 else 0
theorem Fl.one {W : World} {F : Nat} {f : Int} {wr : World} (h : Fl W F f wr) (hf : 0 ≤ f) (x : Bool) (hb : f * 2 + 1 < 65536) :
    Calls Tryd.prog 63 #[.bool x, .pointer (some ⟨F + 1, 0, none⟩)] wr fun e w' => e = .returned (.tuple #[]) ∧ Fl W F (f * 2 + bitV x) w' := by
  have c1 := h.p.cell 0 _ rfl
  cases x
  · have hp := h.push hf 1 (.inl rfl) 0 (by decide) (by omega)
    simp only [Int.reducePow] at hp
    clear hb h
    go_enter Tryd.func63, Tryd.ntmps63
    go_wp2_with (go_at_call 62; refine hp.mono ?_; clear hp; rintro e w1 ⟨rfl, h1⟩)
    exact bodyPost_end (results_none rfl _ _ _) rfl ⟨rfl, h1⟩
  · have hp := h.push hf 1 (.inl rfl) 1 (by decide) (by omega)
    simp only [Int.reducePow] at hp
    clear hb h
    go_enter Tryd.func63, Tryd.ntmps63
    go_wp2_with (go_at_call 62; refine hp.mono ?_; clear hp; rintro e w1 ⟨rfl, h1⟩)
    exact bodyPost_end (results_none rfl _ _ _) rfl ⟨rfl, h1⟩
/-- The bits of a head. -/
def flagsV (m : Mg) : Int := bitV m.reply * 32768 + m.op * 2048 + bitV m.aa * 1024 + bitV m.tc * 512 + bitV m.rd * 256 + bitV m.ra * 128 + m.z * 16 + m.rc
theorem bitV_bd (b : Bool) : 0 ≤ bitV b ∧ bitV b ≤ 1 := by cases b <;> decide
theorem Fl.new (w : World) : Fl w w.heap.size 0 ((w.alloc (.cells #[.int .u16 0] 22)).alloc (.cells #[.func (.func 62) #[] #[.pointer (some ⟨w.heap.size, 0, none⟩)]] 116)) := by
  have h1 := Blk.new w 22 #[.int .u16 0]
  have h2 := Blk.new (w.alloc (.cells #[.int .u16 0] 22)) 116 #[.func (.func 62) #[] #[.pointer (some ⟨w.heap.size, 0, none⟩)]]
  rw [World.size_alloc] at h2
  exact ⟨h1.alloc _, h2, below_alloc (below_new _ _) _⟩
set_option maxRecDepth 8000 in
set_option maxHeartbeats 2000000 in
theorem flags_ (w : World) (g : Nat) (m : Mg) (hm : Blk w g 26 m.cells) (hop : 0 ≤ m.op ∧ m.op ≤ 15) (hz : 0 ≤ m.z ∧ m.z ≤ 7) (hrc : 0 ≤ m.rc ∧ m.rc ≤ 15) :
    Calls Tryd.prog 39 #[.pointer (some ⟨g, 0, none⟩)] w fun e w' => e = .returned (.int .u16 (flagsV m)) ∧ Below w.heap.size w w' := by
  have hF0 := Fl.new w
  have hgF : g < w.heap.size := hm.lt
  have hcell : ∀ (f : Int) (wr : World), Fl w w.heap.size f wr → Blk wr g 26 m.cells := fun f wr h => (h.B.block g hgF).trans hm
  have b1 := bitV_bd m.reply
  have b2 := bitV_bd m.aa
  have b3 := bitV_bd m.tc
  have b4 := bitV_bd m.rd
  have b5 := bitV_bd m.ra
  have h1 := hF0
  have hmm := hcell _ _ h1
  have c1 := hmm.cell 1 _ rfl
  have c2 := hmm.cell 2 _ rfl
  have c3 := hmm.cell 3 _ rfl
  have c4 := hmm.cell 4 _ rfl
  have c5 := hmm.cell 5 _ rfl
  have c6 := hmm.cell 6 _ rfl
  have c7 := hmm.cell 7 _ rfl
  have c8 := hmm.cell 8 _ rfl
  have cp := h1.p.cell 0 _ rfl
  have cf := h1.f.cell 0 _ rfl
  have HS := Lib.hid h1
  clear hmm h1 hF0 hm
  obtain ⟨R, hR⟩ : ∃ R, flagsV m = R := ⟨_, rfl⟩
  rw [hR]
  have HRR := Lib.hid hR
  clear hR
  go_enter Tryd.func39, Tryd.ntmps39
  go_upto_region 5 with (first | (go_at_call 63; refine (HS.out.one (by omega) _ (by omega)).mono ?_; rintro e w1 ⟨rfl, h1⟩; replace HS := Lib.hid h1; clear c1 c2 c3 c4 c5 c6 c7 c8 cp cf; have hmm := hcell _ _ h1; have c1 := hmm.cell 1 _ rfl; have c2 := hmm.cell 2 _ rfl; have c3 := hmm.cell 3 _ rfl; have c4 := hmm.cell 4 _ rfl; have c5 := hmm.cell 5 _ rfl; have c6 := hmm.cell 6 _ rfl; have c7 := hmm.cell 7 _ rfl; have c8 := hmm.cell 8 _ rfl; have cp := h1.p.cell 0 _ rfl; have cf := h1.f.cell 0 _ rfl; clear hmm h1) | (go_at_call 63; refine (HS.out.one (by omega) _ (by omega)).mono ?_; rintro e w1 ⟨rfl, h1⟩; replace HS := Lib.hid h1; clear c1 c2 c3 c4 c5 c6 c7 c8 cp cf; have hmm := hcell _ _ h1; have c1 := hmm.cell 1 _ rfl; have c2 := hmm.cell 2 _ rfl; have c3 := hmm.cell 3 _ rfl; have c4 := hmm.cell 4 _ rfl; have c5 := hmm.cell 5 _ rfl; have c6 := hmm.cell 6 _ rfl; have c7 := hmm.cell 7 _ rfl; have c8 := hmm.cell 8 _ rfl; have cp := h1.p.cell 0 _ rfl; have cf := h1.f.cell 0 _ rfl; clear hmm h1))
  go_still_tail 5, (by kernel_rfl)
  have h1 := HS.out.drew
  clear c1 c2 c3 c4 c5 c6 c7 c8 cp cf
  replace HS := Lib.hid h1
  have hmm := hcell _ _ h1
  have c1 := hmm.cell 1 _ rfl
  have c2 := hmm.cell 2 _ rfl
  have c3 := hmm.cell 3 _ rfl
  have c4 := hmm.cell 4 _ rfl
  have c5 := hmm.cell 5 _ rfl
  have c6 := hmm.cell 6 _ rfl
  have c7 := hmm.cell 7 _ rfl
  have c8 := hmm.cell 8 _ rfl
  have cp := h1.p.cell 0 _ rfl
  have cf := h1.f.cell 0 _ rfl
  clear hmm h1
  go_upto_region 10 with (first | (go_at_call 62; refine (HS.out.push (by omega) 4 (by decide) m.op (by omega) (by omega)).mono ?_; rintro e w1 ⟨rfl, h1⟩; replace HS := Lib.hid h1; clear c1 c2 c3 c4 c5 c6 c7 c8 cp cf; have hmm := hcell _ _ h1; have c1 := hmm.cell 1 _ rfl; have c2 := hmm.cell 2 _ rfl; have c3 := hmm.cell 3 _ rfl; have c4 := hmm.cell 4 _ rfl; have c5 := hmm.cell 5 _ rfl; have c6 := hmm.cell 6 _ rfl; have c7 := hmm.cell 7 _ rfl; have c8 := hmm.cell 8 _ rfl; have cp := h1.p.cell 0 _ rfl; have cf := h1.f.cell 0 _ rfl; clear hmm h1) | (go_at_call 63; refine (HS.out.one (by omega) _ (by omega)).mono ?_; rintro e w1 ⟨rfl, h1⟩; replace HS := Lib.hid h1; clear c1 c2 c3 c4 c5 c6 c7 c8 cp cf; have hmm := hcell _ _ h1; have c1 := hmm.cell 1 _ rfl; have c2 := hmm.cell 2 _ rfl; have c3 := hmm.cell 3 _ rfl; have c4 := hmm.cell 4 _ rfl; have c5 := hmm.cell 5 _ rfl; have c6 := hmm.cell 6 _ rfl; have c7 := hmm.cell 7 _ rfl; have c8 := hmm.cell 8 _ rfl; have cp := h1.p.cell 0 _ rfl; have cf := h1.f.cell 0 _ rfl; clear hmm h1))
  go_still_tail 5, (by kernel_rfl)
  have h1 := HS.out.drew
  clear c1 c2 c3 c4 c5 c6 c7 c8 cp cf
  replace HS := Lib.hid h1
  have hmm := hcell _ _ h1
  have c1 := hmm.cell 1 _ rfl
  have c2 := hmm.cell 2 _ rfl
  have c3 := hmm.cell 3 _ rfl
  have c4 := hmm.cell 4 _ rfl
  have c5 := hmm.cell 5 _ rfl
  have c6 := hmm.cell 6 _ rfl
  have c7 := hmm.cell 7 _ rfl
  have c8 := hmm.cell 8 _ rfl
  have cp := h1.p.cell 0 _ rfl
  have cf := h1.f.cell 0 _ rfl
  clear hmm h1
  go_upto_region 11 with (first | (go_at_call 62; refine (HS.out.push (by omega) 3 (by decide) m.z (by omega) (by omega)).mono ?_; rintro e w1 ⟨rfl, h1⟩; replace HS := Lib.hid h1; clear c1 c2 c3 c4 c5 c6 c7 c8 cp cf; have hmm := hcell _ _ h1; have c1 := hmm.cell 1 _ rfl; have c2 := hmm.cell 2 _ rfl; have c3 := hmm.cell 3 _ rfl; have c4 := hmm.cell 4 _ rfl; have c5 := hmm.cell 5 _ rfl; have c6 := hmm.cell 6 _ rfl; have c7 := hmm.cell 7 _ rfl; have c8 := hmm.cell 8 _ rfl; have cp := h1.p.cell 0 _ rfl; have cf := h1.f.cell 0 _ rfl; clear hmm h1) | (go_at_call 63; refine (HS.out.one (by omega) _ (by omega)).mono ?_; rintro e w1 ⟨rfl, h1⟩; replace HS := Lib.hid h1; clear c1 c2 c3 c4 c5 c6 c7 c8 cp cf; have hmm := hcell _ _ h1; have c1 := hmm.cell 1 _ rfl; have c2 := hmm.cell 2 _ rfl; have c3 := hmm.cell 3 _ rfl; have c4 := hmm.cell 4 _ rfl; have c5 := hmm.cell 5 _ rfl; have c6 := hmm.cell 6 _ rfl; have c7 := hmm.cell 7 _ rfl; have c8 := hmm.cell 8 _ rfl; have cp := h1.p.cell 0 _ rfl; have cf := h1.f.cell 0 _ rfl; clear hmm h1))
  go_still_tail 5, (by kernel_rfl)
  have h1 := HS.out.drew
  clear c1 c2 c3 c4 c5 c6 c7 c8 cp cf
  replace HS := Lib.hid h1
  have hmm := hcell _ _ h1
  have c1 := hmm.cell 1 _ rfl
  have c2 := hmm.cell 2 _ rfl
  have c3 := hmm.cell 3 _ rfl
  have c4 := hmm.cell 4 _ rfl
  have c5 := hmm.cell 5 _ rfl
  have c6 := hmm.cell 6 _ rfl
  have c7 := hmm.cell 7 _ rfl
  have c8 := hmm.cell 8 _ rfl
  have cp := h1.p.cell 0 _ rfl
  have cf := h1.f.cell 0 _ rfl
  clear hmm h1
  go_wp2_with (first | (go_at_call 62; refine (HS.out.push (by omega) 4 (by decide) m.rc (by omega) (by omega)).mono ?_; rintro e w1 ⟨rfl, h1⟩; replace HS := Lib.hid h1; clear c1 c2 c3 c4 c5 c6 c7 c8 cp cf; have hmm := hcell _ _ h1; have c1 := hmm.cell 1 _ rfl; have c2 := hmm.cell 2 _ rfl; have c3 := hmm.cell 3 _ rfl; have c4 := hmm.cell 4 _ rfl; have c5 := hmm.cell 5 _ rfl; have c6 := hmm.cell 6 _ rfl; have c7 := hmm.cell 7 _ rfl; have c8 := hmm.cell 8 _ rfl; have cp := h1.p.cell 0 _ rfl; have cf := h1.f.cell 0 _ rfl; clear hmm h1))
  go_ret
  refine ⟨?_, HS.out.B⟩
  rw [← HRR.out]
  exact congrArg (fun x => Ending.returned (.int .u16 x)) (show (((((((bitV m.reply * 16 + m.op) * 2 + bitV m.aa) * 2 + bitV m.tc) * 2 + bitV m.rd) * 2 + bitV m.ra) * 8 + m.z) * 16 + m.rc) = flagsV m by unfold flagsV; omega)
end Go.Proofs.YtdjknikkiojfhaaDoor
