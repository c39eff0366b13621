/- The examples of the caches, plainly. -/
import Derived.Test.YtioehogncgloiaaKN2
namespace Go.Proofs.Ytioehogncgloiaa
open Go.RowKit Go.HL Go.Maps
set_option linter.unusedVariables false
set_option linter.unusedSimpArgs false
def dE (b : UInt8) (t at' : Int) : Ae := ⟨qL b, 0, [rT t], [], [], at', t⟩
theorem eqL (a b : UInt8) : (qL a).eqB (qL b) = (a == b) := by
  by_cases h : a = b
  · subst h
    rw [(Qn.eqB_iff _ _).2 rfl]
    simp
  · rw [Qn.eqB_false (fun e => h (by have := congrArg (fun q : Qn => q.nm.data.toList) e; simpa [qL] using this))]
    simp [h]
theorem new9 (b : UInt8) (t at' : Int) (hf : foldQ (qL b) = qL b) (hl : lifeV 0 [rT t] [] [] = t) : newAe (qL b) 0 [rT t] [] [] at' = dE b t at' := by
  unfold newAe dE
  rw [hf, hl]
theorem d1 : putV 2 [] (qL 97) 0 [rT 9] [] [] 0 = ([dE 97 9 0], true) := by kernel_rfl
theorem d2 : putV 2 [dE 97 9 0] (qL 98) 0 [rT 9] [] [] 0 = ([dE 97 9 0, dE 98 9 0], true) := by kernel_rfl
theorem d3 : getV [dE 97 9 0, dE 98 9 0] (qL 97) 0 = ([dE 98 9 0, dE 97 9 0], some (dE 97 9 0)) := by kernel_rfl
theorem d4 : putV 2 [dE 98 9 0, dE 97 9 0] (qL 99) 0 [rT 9] [] [] 0 = ([dE 97 9 0, dE 99 9 0], true) := by kernel_rfl
theorem d5 : putV 2 [dE 97 9 0, dE 99 9 0] (qL 97) 0 [rT 0] [] [] 1 = ([dE 97 9 0, dE 99 9 0], false) := by kernel_rfl
theorem d6 : putV 2 [dE 97 9 0, dE 99 9 0] (qL 65) 0 [rT 3] [] [] 1 = ([dE 99 9 0, dE 97 3 1], true) := by kernel_rfl
theorem d7 : putV 2 [dE 99 9 0, dE 97 3 1] (qL 122) 0 [rT 0] [] [] 9223372036854775807 = ([], false) := by kernel_rfl
def eA : Ae := ⟨qL 97, 0, [rT 30, rT 5], [], [], 100, 5⟩
def rS : Rc := ⟨⟨#[0]⟩, 6, 1, 60, ⟨#[]⟩, ⟨#[]⟩, ⟨#[]⟩, 0, 0, 0, 0, 7⟩
def r2 : Rc := ⟨⟨#[]⟩, 2, 0, 99, ⟨#[]⟩, ⟨#[]⟩, ⟨#[]⟩, 0, 0, 0, 0, 0⟩
def r8 : Rc := ⟨⟨#[]⟩, 6, 0, 88, ⟨#[]⟩, ⟨#[]⟩, ⟨#[]⟩, 0, 0, 0, 0, 0⟩
def r25 : Rc := ⟨⟨#[]⟩, 2, 0, 5, ⟨#[]⟩, ⟨#[]⟩, ⟨#[]⟩, 0, 0, 0, 0, 0⟩
def eN : Ae := ⟨qL 110, 3, [], [r2, rS, r8], [], 0, 7⟩
theorem c1 : putV 4096 [] (qL 97) 0 [rT 30, rT 5] [] [] 100 = ([eA], true) := by kernel_rfl
theorem c2 : getV [eA] (qL 65) 100 = ([eA], some eA) := by kernel_rfl
theorem c3 : getV [eA] (qL 65) 109 = ([eA], some eA) := by kernel_rfl
theorem c4 : getV [eA] (qL 65) 110 = ([eA], some eA) := by kernel_rfl
theorem c5 : getV [eA] (qL 65) 149 = ([eA], some eA) := by kernel_rfl
theorem c6 : getV [eA] (qL 97) (-5) = ([eA], some eA) := by kernel_rfl
theorem c7 : getV [eA] (qL 97) 150 = ([], none) := by kernel_rfl
theorem c8 : putV 4096 [] (qL 110) 3 [] [r2, rS, r8] [] 0 = ([eN], true) := by kernel_rfl
theorem c9 : getV [eN] (qL 110) 69 = ([eN], some eN) := by kernel_rfl
theorem c10 : getV [eN] (qL 110) 70 = ([], none) := by kernel_rfl
/-- Whether it is put hangs on the answer alone. -/
theorem put2 (room : Int) (l : List Ae) (q : Qn) (rc : Int) (an au ex : List Rc) (now : Int) : (putV room l q rc an au ex now).2 = !(decide (lifeV rc an au ex = 0) || !isNm q.nm) := by
  unfold putV
  by_cases h : lifeV rc an au ex = 0
  · rw [if_pos (.inl h)]; simp [h]
  · cases hn : isNm q.nm with
    | false => rw [if_pos (.inr rfl)]; simp
    | true => rw [if_neg (by simp [h])]; split <;> simp [h]
theorem rT_ok (t : Int) (h0 : 0 ≤ t) (h1 : t < 4294967296) : (rT t).ok ∧ (rT t).nm.size ≤ 2000 :=
  ⟨⟨by show (0 : Int) ≤ 1 ∧ (1 : Int) < 65536; omega, by show (0 : Int) ≤ 1 ∧ (1 : Int) < 65536; omega, ⟨h0, h1⟩, by show (0 : Int) ≤ 0 ∧ (0 : Int) < 4294967296; omega, by show (0 : Int) ≤ 0 ∧ (0 : Int) < 4294967296; omega, by show (0 : Int) ≤ 0 ∧ (0 : Int) < 4294967296; omega, by show (0 : Int) ≤ 0 ∧ (0 : Int) < 4294967296; omega, by show (0 : Int) ≤ 0 ∧ (0 : Int) < 4294967296; omega, by show (3 : Nat) ≤ _; simp only [maxLen]; omega, by show (4 : Nat) ≤ _; simp only [maxLen]; omega, by show (0 : Nat) ≤ _; omega, by show (0 : Nat) ≤ _; omega⟩, by show (3 : Nat) ≤ 2000; omega⟩
theorem okT (l : List Int) (hl : l.length ≤ 30) (h : ∀ t ∈ l, 0 ≤ t ∧ t < 4294967296) : okRs (l.map rT) := ⟨by rw [List.length_map]; exact hl, fun r hr => by obtain ⟨t, ht, rfl⟩ := List.mem_map.1 hr; exact rT_ok t (h t ht).1 (h t ht).2⟩
theorem okNil : okRs [] := ⟨Nat.zero_le _, fun r hr => by cases hr⟩
theorem okK (r : Rc) (h : r = rS ∨ r = r2 ∨ r = r8 ∨ r = r25) : r.ok ∧ r.nm.size ≤ 2000 := by
  rcases h with rfl | rfl | rfl | rfl <;> exact ⟨⟨by decide, by decide, by decide, by decide, by decide, by decide, by decide, by decide, by decide, by decide, by decide, by decide⟩, by decide⟩
theorem okNx : okRs [r2, rS, r8] := ⟨by decide, fun r hr => okK r (by simp at hr; rcases hr with h | h | h <;> simp [h])⟩
theorem okS : okRs [rS] := ⟨by decide, fun r hr => okK r (by simp at hr; simp [hr])⟩
theorem ok25 : okRs [r25] := ⟨by decide, fun r hr => okK r (by simp at hr; simp [hr])⟩
/-- A literal's row. -/
theorem Rd.lit1 (w : World) (cs : Array Value) (e : TypeId) (g : Nat) (hg : w.heap.size = g) : Rd (w.alloc (.cells cs e)) 1 (some ⟨g, 0, none⟩) cs.size cs.size cs.toList := by
  subst hg
  exact ⟨by simp, fun h => (by cases h), Nat.le_refl _, fun a ha j u hu => by cases ha; rw [add_plain]; exact (Blk.new w e cs).cell j u hu⟩
theorem agedT (g t : Int) (h0 : 0 ≤ t - g) (h1 : t - g < 4294967296) : agedR g (rT t) = rT (t - g) := by
  unfold agedR rT
  rw [show foldS (⟨#[1, 97, 0]⟩ : ByteArray) = ⟨#[1, 97, 0]⟩ from rfl, Int.emod_eq_of_lt h0 h1]
theorem CH.noblk {W : World} {C bm : Nat} {room : Int} {row : List Ce} (h : CacheW W C bm room row) {g : Nat} {t : TypeId} {cs : List Value} (hb : Blk W g t cs) (h1 : t ≠ 78) (h2 : t ≠ 86) (h3 : 46 ≠ t) : ¬ CH C bm row g := by
  rintro (hk | ⟨c, hc, hk⟩)
  · exact CS.noblk h hb h1 h2 hk
  · have ho := h.ok c hc
    rcases hk with hk | hk | hk
    · exact own_ne_blk ho.o1 hb h3 hk
    · exact own_ne_blk ho.o2 hb h3 hk
    · exact own_ne_blk ho.o3 hb h3 hk
theorem Kw.set {C bm E be : Nat} {r1 r2 : Int} {w0 W W' : World} {rowc rowd : List Ce} (h : Kw C bm E be r1 r2 w0 W rowc rowd) {g : Nat} {t : TypeId} {cs : List Value} (hb : Blk W g t cs) (h1 : t ≠ 78) (h2 : t ≠ 86) (h3 : 46 ≠ t) (hg : w0.heap.size ≤ g) (hf : Fr (fun i => i = g) W W') : Kw C bm E be r1 r2 w0 W' rowc rowd :=
  ⟨h.c.fr hf (fun i hi e => CH.noblk h.c hb h1 h2 h3 (by rw [← (show i = g from e)]; exact hi)), h.d.fr hf (fun i hi e => CH.noblk h.d hb h1 h2 h3 (by rw [← (show i = g from e)]; exact hi)), h.ap, h.ld, Fr.toBelow h.b hf (fun i _ e => by have e' : i = g := e; omega) h.b.size⟩
/-- What is written in a block that is new leaves what was there. -/
theorem Kst.set {W5 W W' : World} {g : Nat} (h : Kst W5 W) (hg : W5.heap.size ≤ g) (hf : Fr (fun i => i = g) W W') : Kst W5 W' :=
  ⟨fun x t cs hb h1 h2 => (h.blk x t cs hb h1 h2).fr hf (fun e => by have e' : x = g := e; have := hb.lt; omega), fun B v n cs ho => own_fr (h.own B v n cs ho) hf (fun i hi e => by
    have e' : i = g := e
    obtain ⟨_, _, hx⟩ := own_blk ho hi
    have := (Array.getElem?_eq_some_iff.1 hx).1
    omega), Nat.le_trans h.size hf.size⟩
def L1 : List Value := [.int .i64 100, .int .i64 109, .int .i64 110, .int .i64 149]
def L2 : List Value := [.int .u32 30, .int .u32 5, .int .u32 30, .int .u32 5, .int .u32 29, .int .u32 4, .int .u32 26, .int .u32 1]
theorem tab (k : Nat) (hk : k < 4) : ∃ a g : Int, L1[k]? = some (.int .i64 a) ∧ L2[k * 2]? = some (.int .u32 (30 - g)) ∧ L2[k * 2 + 1]? = some (.int .u32 (5 - g)) ∧ getV [eA] (qL 65) a = ([eA], some eA) ∧ ageV (clockV a) eA = g ∧ 0 ≤ g ∧ g ≤ 4 := by
  rcases k with _ | _ | _ | _ | k
  · exact ⟨100, 0, rfl, rfl, rfl, c2, by decide, by decide, by decide⟩
  · exact ⟨109, 0, rfl, rfl, rfl, c3, by decide, by decide, by decide⟩
  · exact ⟨110, 1, rfl, rfl, rfl, c4, by decide, by decide, by decide⟩
  · exact ⟨149, 4, rfl, rfl, rfl, c5, by decide, by decide, by decide⟩
  · omega
/-- While an example is got, in whatever order. -/
structure GI (C lo E be : Nat) (w W5 : World) (ds d10 : Bool) (x8 x10 : Value) (W : World) : Prop where
  k : ∃ rowc, Kw C lo E be 4096 2 w W rowc [] ∧ rowc.map Ce.e = [eA]
  s : Kst W5 W
  b : d10 = true → ∃ g, x10 = .pointer (some ⟨g, 0, none⟩) ∧ W5.heap.size ≤ g ∧ (ds = false → Blk W g 28 [.int .u16 0, .bool false, .slice none 0 0, .slice none 0 0, .slice none 0 0]) ∧ (ds = true → ∃ cs : List Value, x8 = .agg cs.toArray ∧ Blk W g 28 cs)
  e : ds = true → d10 = true
theorem GI.below {C lo E be : Nat} {w W5 W W' : World} {ds d10 : Bool} {x8 x10 : Value} (h : GI C lo E be w W5 ds d10 x8 x10 W) (hb : Below W.heap.size W W') : GI C lo E be w W5 ds d10 x8 x10 W' :=
  ⟨by obtain ⟨r, h1, h2⟩ := h.k; exact ⟨r, h1.below hb, h2⟩, h.s.trans (Kst.below hb), fun x => by
    obtain ⟨g, h1, h2, h3, h4⟩ := h.b x
    exact ⟨g, h1, h2, fun y => (h3 y).below hb, fun y => by obtain ⟨cs, h5, h6⟩ := h4 y; exact ⟨cs, h5, h6.below hb⟩⟩, h.e⟩
def g14I (C lo E be : Nat) (w W5 : World) : List Value → List Bool → World → Prop
  | [_, _, x8, x10, _], [_, _, _, d10, d11], W => GI C lo E be w W5 d11 d10 x8 x10 W
  | _, _, _ => True
def g14G (g : Int) : Nat → Value → World → Prop
  | 6, u, W => ∃ y, u = .tuple #[y, .bool true] ∧ AnsO W 0 0 false [rT (30 - g), rT (5 - g)] [] [] y
  | 7, u, W => ∃ y, u = .tuple #[y, .bool true] ∧ AnsO W 0 0 false [rT (30 - g), rT (5 - g)] [] [] y
  | 8, u, W => AnsO W 0 0 false [rT (30 - g), rT (5 - g)] [] [] u
  | _, _, _ => True
theorem g14G_st {g : Int} {j : Nat} {u : Value} {W W' : World} (h : g14G g j u W) (k : ∀ y, AnsO W 0 0 false [rT (30 - g), rT (5 - g)] [] [] y → AnsO W' 0 0 false [rT (30 - g), rT (5 - g)] [] [] y) : g14G g j u W' := by
  unfold g14G at *
  split at h
  · obtain ⟨y, h1, h2⟩ := h; exact ⟨y, h1, k y h2⟩
  · obtain ⟨y, h1, h2⟩ := h; exact ⟨y, h1, k y h2⟩
  · exact k _ h
  · trivial
def g14c (C h1 k : Nat) (a : Int) : List (Option Value) := [some (.pointer (some ⟨C, 0, none⟩)), some (qL 65).val, some (.slice (some ⟨h1, 0, none⟩) 4 4), some (.int .i64 (k : Int)), some (.pointer (some ⟨h1, k, none⟩)), some (.int .i64 a), none, none, none, some (.bool true), none, some undef, some (.bool true)]
theorem own_litN (w : World) (cs : Array Value) (e : TypeId) (size n : Nat) (hs : cs.size = n * size) (hn : n ≤ 30) : (w.alloc (.cells cs e)).ownsRow w.heap.size e size (.slice (some ⟨w.heap.size, 0, none⟩) n n) n cs.toList := by
  refine ⟨by simpa using hs, .inr ⟨w.heap.size, n, cs, rfl, Nat.le_refl _, heap_alloc_new w _, Nat.le_refl _, by simp only [maxLen]; omega, hs, ?_⟩⟩
  rw [List.take_of_length_le (by simp; omega)]
/-- While something is put into the first cache, in whatever order. -/
def k23I (C lo E be : Nat) (w W5 : World) (LA LB : List Ae) : List Bool → World → Prop
  | [_, d3], W => (∃ rowc, Kw C lo E be 4096 2 w W rowc [] ∧ rowc.map Ce.e = if d3 then LB else LA) ∧ Kst W5 W
  | _, _ => True
def k23c (C : Nat) (s : Nat) : List (Option Value) := [some (.pointer (some ⟨C, 0, none⟩)), some (qL 110).val, some (.agg #[.int .u16 3, .bool false, .slice none 0 0, .slice (some ⟨s, 0, none⟩) 3 3, .slice none 0 0]), some (.bool true), some (.bool false)]
def noG : Nat → Value → World → Prop := fun _ _ _ => True
end Go.Proofs.Ytioehogncgloiaa
