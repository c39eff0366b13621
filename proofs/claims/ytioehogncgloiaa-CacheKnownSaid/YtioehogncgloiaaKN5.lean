/- What is put at once, and the second cache: what holds meanwhile. -/
import Derived.Test.YtioehogncgloiaaKN3
namespace Go.Proofs.Ytioehogncgloiaa
open Go.RowKit Go.HL Go.Maps
set_option linter.unusedVariables false
set_option linter.unusedSimpArgs false
inductive GK
  | nums (l : List Int)
  | ans (rc : Int) (l1 l2 l3 : List Rc)
  | row (l : List Rc)
  | any
def Gk (k : GK) (u : Value) (W : World) : Prop := match k with
  | .nums l => ∃ g, u = .slice (some ⟨g, 0, none⟩) l.length l.length ∧ Blk W g 40 (l.map (Value.int .u32))
  | .ans rc l1 l2 l3 => AnsO W 0 rc false l1 l2 l3 u
  | .row l => W.ownsRow 0 46 12 u l.length (rcs l)
  | .any => True
theorem Gk.kst {k : GK} {u : Value} {W W' : World} (h : Gk k u W) (s : Kst W W') : Gk k u W' := by
  cases k with
  | nums l => obtain ⟨g, h1, h2⟩ := h; exact ⟨g, h1, s.blk _ _ _ h2 (by decide) (by decide)⟩
  | ans rc l1 l2 l3 => exact AnsO.kst h s
  | row l => exact s.own _ _ _ _ h
  | any => trivial
structure JP (C lo E be : Nat) (w W5 W : World) : Prop where
  k : ∃ rowc, Kw C lo E be 4096 2 w W rowc [] ∧ (rowc.length : Int) ≤ 4096
  s : Kst W5 W
theorem JP.below {C lo E be : Nat} {w W5 W W' : World} (h : JP C lo E be w W5 W) (b : Below W.heap.size W W') : JP C lo E be w W5 W' :=
  ⟨by obtain ⟨r, h1, h2⟩ := h.k; exact ⟨r, h1.below b, h2⟩, h.s.trans (Kst.below b)⟩
theorem JP.put {C lo E be : Nat} {w W5 W : World} (h : JP C lo E be w W5 W) (q : Qn) (hq : q.ok) (hqs : q.nm.size ≤ 2000) (rc : Int) (l1 l2 l3 : List Rc) (u : Value) (ha : Gk (.ans rc l1 l2 l3) u W) (hrc : 0 ≤ rc ∧ rc < 65536) (h1 : okRs l1) (h2 : okRs l2) (h3 : okRs l3) (b : Bool)
    (hb : (!(decide (lifeV rc l1 l2 l3 = 0) || !isNm q.nm)) = b) :
    Calls Try.prog 10 #[.pointer (some ⟨C, 0, none⟩), q.val, u, .int .i64 0] W fun en W' => en = .returned (.bool b) ∧ JP C lo E be w W5 W' ∧ Kst W W' := by
  obtain ⟨⟨rowc, K, hl⟩, s⟩ := h
  refine (K.putC (by omega) (by omega) hl q hq hqs rc false l1 l2 l3 u 0 ha hrc h1 h2 h3 0).mono ?_
  rintro en W' ⟨rfl, ⟨row', hr, K'⟩, ks⟩
  refine ⟨by rw [put2, hb], ⟨⟨row', K', ?_⟩, s.trans ks⟩, ks⟩
  have := putV_len (l := rowc.map Ce.e) (q := q) (rc := rc) (an := l1) (au := l2) (ex := l3) (now := 0) (room := 4096) (by omega) (by rw [List.length_map]; exact hl)
  rw [← hr, List.length_map] at this
  exact this
theorem rd_blk {W : World} {g n : Nat} {e : TypeId} {cs : List Value} (h : Blk W g e cs) (hn : cs.length = n) : Rd W 1 (some ⟨g, 0, none⟩) n n cs :=
  ⟨by omega, fun h => (by cases h), Nat.le_refl _, fun a ha j u hu => by cases ha; rw [add_plain]; exact h.cell j u hu⟩
theorem ans_ {W : World} {l : List Int} {u : Value} (h : Gk (.nums l) u W) (hn : l.length ≤ 30) : Calls Try.prog 27 #[u] W fun e W' => ∃ v, e = .returned v ∧ Gk (.ans 0 (l.map rT) [] []) v W' ∧ Below W.heap.size W W' := by
  obtain ⟨g, rfl, hB⟩ := h
  refine (answered_ W _ _ _ l (rd_blk hB (List.length_map _)) hn).mono ?_
  rintro e W' ⟨v, rfl, h, b⟩
  obtain ⟨v1, v2, v3, rfl, o1, o2, o3⟩ := h.ex
  exact ⟨_, rfl, ⟨v1, v2, v3, rfl, own_lower o1 (Nat.zero_le _), own_lower o2 (Nat.zero_le _), own_lower o3 (Nat.zero_le _)⟩, b⟩
theorem run_fieldAns (W : World) (a b : Value) (A1 A2 A3 : Option Addr) (n1 n2 n3 c1 c2 c3 : Nat) : Sem.run Try.prog (Instr.field 28 (.agg #[a, b, .slice A1 n1 c1, .slice A2 n2 c2, .slice A3 n3 c3]) 2) W = .ok (.slice A1 n1 c1) W := by
  kernel_rfl
def qA : Qn := ⟨⟨#[97, 46]⟩, 0, 0⟩
theorem qA_ok : qA.ok := ⟨by show (0 : Int) ≤ 0 ∧ (0 : Int) < 65536; omega, by show (0 : Int) ≤ 0 ∧ (0 : Int) < 65536; omega, by show (2 : Nat) ≤ _; simp only [maxLen]; omega⟩
def g29c (C : Nat) : List (Option Value) := [some (.pointer (some ⟨C, 0, none⟩)), some ((qL 120).val), none, none, none, none, some (.bool false), some (.bool false), some (.pointer (some ⟨C, 0, none⟩)), some ((qL 120).val), none, some (.bool false), some (.bool false), some (.bool false), some (.pointer (some ⟨C, 0, none⟩)), some ((qL 120).val), none, none, some (.bool false), some (.bool false), some (.bool false), some (.pointer (some ⟨C, 0, none⟩)), some ((qL 120).val), none, none, some (.bool false), some (.bool false), some (.bool false), some (.pointer (some ⟨C, 0, none⟩)), some ((qL 120).val), none, none, some (.bool true), some (.bool false), some (.bool false), some (.bool false), some (.pointer (some ⟨C, 0, none⟩)), some (qA.val), none, none, some (.bool false), some (.bool false), some (.bool false), some (.pointer (some ⟨C, 0, none⟩)), some ((qL 121).val), none, none, none, some (.agg #[.string ⟨#[]⟩, .int .u16 2, .int .u16 0, .int .u32 5, .string ⟨#[]⟩, .string ⟨#[]⟩, .string ⟨#[]⟩, .int .u32 0, .int .u32 0, .int .u32 0, .int .u32 0, .int .u32 0]), none, none, some (.bool false), some (.bool false), some (.bool false), some (.pointer (some ⟨C, 0, none⟩)), some ((qL 121).val), some (.agg #[.string ⟨#[0]⟩, .int .u16 6, .int .u16 1, .int .u32 60, .string ⟨#[]⟩, .string ⟨#[]⟩, .string ⟨#[]⟩, .int .u32 0, .int .u32 0, .int .u32 0, .int .u32 0, .int .u32 7]), none, none, some (.bool true), some (.bool false), some (.bool false)]
def g29k : List GK := [.any, .any, (.nums [5]), (.ans 0 [rT 5] [] []), (.row [rT 5]), (.ans 2 [rT 5] [] []), .any, .any, .any, .any, (.ans 0 [] [] []), .any, .any, .any, .any, .any, (.nums [0]), (.ans 0 [rT 0] [] []), .any, .any, .any, .any, .any, (.nums [9, 2147483648]), (.ans 0 [rT 9, rT 2147483648] [] []), .any, .any, .any, .any, .any, (.nums [2147483647]), (.ans 0 [rT 2147483647] [] []), .any, .any, .any, .any, .any, .any, (.nums [5]), (.ans 0 [rT 5] [] []), .any, .any, .any, .any, .any, (.nums [5]), (.ans 0 [rT 5] [] []), (.row [rT 5]), .any, (.row [r25]), (.ans 0 [] [r25] [rT 5]), .any, .any, .any, .any, .any, .any, (.row [rS]), (.ans 0 [] [rS] []), .any, .any, .any]
def g29G (j : Nat) (u : Value) (W : World) : Prop := Gk (g29k.getD j .any) u W
def g29I (C lo E be : Nat) (w W5 : World) : List Bool → World → Prop := fun _ W => JP C lo E be w W5 W
/-! ### the second cache -/
def KD (C lo E be : Nat) (w : World) (L : List Ae) (W : World) : Prop := ∃ rowc rowd, Kw C lo E be 4096 2 w W rowc rowd ∧ rowd.map Ce.e = L
section
variable {C lo E be : Nat} {w W W' : World} {L L' : List Ae}
theorem KD.below (h : KD C lo E be w L W) (b : Below W.heap.size W W') : KD C lo E be w L W' := by
  obtain ⟨rc, rd, k, e⟩ := h
  exact ⟨rc, rd, k.below b, e⟩
theorem KD.put (h : KD C lo E be w L W) (hl : (L.length : Int) ≤ 2) (b' : UInt8) (l : List Int) (h1 : l.length ≤ 30) (h2 : ∀ t ∈ l, 0 ≤ t ∧ t < 4294967296) (now : Int) (b : Bool) (e : putV 2 L (qL b') 0 (l.map rT) [] [] now = (L', b)) (u : Value) (B : Nat) (ha : AnsO W B 0 false (l.map rT) [] [] u) :
    Calls Try.prog 10 #[.pointer (some ⟨E, 0, none⟩), (qL b').val, u, .int .i64 now] W fun en W' => en = .returned (.bool b) ∧ KD C lo E be w L' W' := by
  obtain ⟨rc, rd, k, rfl⟩ := h
  refine (k.putD (by omega) (by omega) (by rw [List.length_map] at hl; exact hl) (qL b') (qL_ok _) (by show (3 : Nat) ≤ _; omega) 0 false (l.map rT) [] [] u B ha (by omega) (okT l h1 h2) okNil okNil now).mono ?_
  rintro en W' ⟨rfl, ⟨row', hr, K'⟩, -⟩
  rw [e] at hr
  exact ⟨by rw [e], _, _, K', hr⟩
theorem KD.get (h : KD C lo E be w L W) (b' : UInt8) (now : Int) (O : Option Ae) (e : getV L (qL b') now = (L', O)) :
    Calls Try.prog 11 #[.pointer (some ⟨E, 0, none⟩), (qL b').val, .int .i64 now] W fun en W' => ∃ x, en = .returned x ∧ KD C lo E be w L' W' := by
  obtain ⟨rc, rd, k, rfl⟩ := h
  refine (k.getD (qL b') (qL_ok _) (by show (3 : Nat) ≤ _; omega) now).mono ?_
  rintro en W' ⟨x, rfl, -, ⟨row', hr, K'⟩, -⟩
  rw [e] at hr
  exact ⟨x, rfl, _, _, K', hr⟩
theorem KD.len (h : KD C lo E be w L W) (n : Int) (hn : (L.length : Int) = n) : Calls Try.prog 12 #[.pointer (some ⟨E, 0, none⟩)] W fun e W' => e = .returned (.int .i64 n) ∧ W' = W := by
  obtain ⟨rc, rd, k, rfl⟩ := h
  rw [List.length_map] at hn
  rw [← hn]
  exact len_ W E be 2 rd k.d
theorem KD.keys (h : KD C lo E be w L W) (hl : (L.length : Int) ≤ 2) (l : List Qn) (e : L.map (·.key) = l) (n : Nat) (hn : L.length = n) : Calls Try.prog 24 #[.pointer (some ⟨E, 0, none⟩)] W fun en W' => ∃ A c, en = .returned (.slice A n c) ∧ Rd W' 3 A n c (qns l) ∧ KD C lo E be w L W' := by
  have h0 := h
  obtain ⟨rc, rd, k, e1⟩ := h
  have hr : rd.length = L.length := by rw [← e1, List.length_map]
  refine (keys_ W E be 2 rd k.d (by omega)).mono ?_
  rintro en W' ⟨v, rfl, ho, b⟩
  obtain ⟨A, c, rfl, hrd⟩ := own_rd ho
  rw [hr, hn] at hrd ⊢
  refine ⟨A, c, rfl, ?_, h0.below b⟩
  rw [← e, ← e1, List.map_map]
  exact hrd
end
theorem askedL_ (w : World) (b : UInt8) : Calls Try.prog 26 #[.string ⟨#[b]⟩] w fun e w' => e = .returned (.agg #[.string ⟨#[1, b, 0]⟩, .int .u16 1, .int .u16 1]) ∧ Below w.heap.size w w' := asked_ w b
theorem Rd.lit3 (w : World) (cs : Array Value) (e : TypeId) (g n : Nat) (hg : w.heap.size = g) (hs : cs.size = n * 3) : Rd (w.alloc (.cells cs e)) 3 (some ⟨g, 0, none⟩) n n cs.toList := by
  subst hg
  exact ⟨by simpa using hs, fun h => (by cases h), Nat.le_refl _, fun a ha j u hu => by cases ha; rw [add_plain]; exact (Blk.new w e cs).cell j u hu⟩
theorem kds : [dE 97 9 0, dE 99 9 0].map (·.key) = [qL 97, qL 99] := rfl
theorem kds2 : [dE 99 9 0, dE 97 3 1].map (·.key) = [qL 99, qL 97] := rfl
end Go.Proofs.Ytioehogncgloiaa
