/- The document's sweep: contract. -/
import Derived.Test.YtioehogncgloiaaPL1
namespace Go.Proofs.Ytioehogncgloiaa
open Go.RowKit Go.HL Go.Maps
set_option linter.unusedVariables false
set_option linter.unusedSimpArgs false
theorem sweepR_snoc (now : Int) (l : List Re) (e : Re) : sweepR now (l ++ [e]) = sweepR now l ++ if now < e.put + e.life * 10 then [e] else [] := by
  unfold sweepR
  rw [List.filter_append]
  congr 1
  rw [List.filter_cons]
  have : aliveB now e.e = decide (now < e.put + e.life * 10) := rfl
  rw [this]
  split <;> split <;> simp_all
theorem take_snoc {α : Type} {l : List α} {k : Nat} {x : α} (h : l[k]? = some x) : l.take (k + 1) = l.take k ++ [x] := by
  rw [List.take_add_one, h]; rfl
/-- What sweep leaves. -/
def RSweepP (W : World) (M : Nat) (room : Int) (l : List Re) (en : Ending) (W' : World) : Prop :=
  en = .returned (.tuple #[]) ∧ ∃ v', Blk W' M 62 [v', .int .i64 room] ∧ W'.ownsRow W.heap.size 91 10 v' l.length (res l) ∧ Fr (fun k => k = M) W W'
set_option maxRecDepth 8000 in
set_option maxHeartbeats 4000000 in
theorem rsweep_ (W : World) (M : Nat) (v : Value) (room : Int) (row : List Re) (h : RefW W M v room row) (hok : ∀ e ∈ row, (0 ≤ e.put ∧ e.put ≤ 4611686018427387904) ∧ (0 ≤ e.life ∧ e.life ≤ 2147483647)) (hlen : row.length ≤ 5000) (now : Int) :
    Calls Try.prog 41 #[ptr (some M), .int .i64 now] W (RSweepP W M room (sweepR now row)) := by
  obtain ⟨A, c, rfl, hr⟩ := h.rd
  obtain ⟨n, hn⟩ : ∃ n, row.length = n := ⟨_, rfl⟩
  rw [hn] at hr h
  have c0 : W.cell? ⟨M, 0, none⟩ = some (.slice A n c) := h.hd.cell 0 _ rfl
  have HD := Lib.hid h.hd
  clear h
  unfold ptr
  simp only [Option.map]
  go_enter Try.func41, Try.ntmps41
  go_wp2
  go_loopw [4, 5] (fun u i wr => ∃ k : Nat, k ≤ n ∧ i = .int .i64 k ∧ wr.ownsRow W.heap.size 91 10 u (sweepR now (row.take k)).length (res (sweepR now (row.take k))) ∧ Below W.heap.size W wr) (fun _ i _ => n - (intOf i).toNat)
  case atStart => exact ⟨0, Nat.zero_le _, rfl, World.ownsRow_nil _ _ _ _, Below.refl _ _⟩
  case round =>
    clear c0
    obtain ⟨k, hk, rfl, ho, hb⟩ := hrel
    have hB := HD.out.below hb
    have c0 : wr.cell? ⟨M, 0, none⟩ = some (.slice A n c) := hB.cell 0 _ rfl
    by_cases hlt : k < n
    · obtain ⟨e, hek⟩ : ∃ e, row[k]? = some e := ⟨row[k], List.getElem?_eq_getElem (by omega)⟩
      obtain ⟨⟨p0, p1⟩, l0, l1⟩ := hok e (List.mem_of_getElem? hek)
      cases A with
      | none => have := (hr.nil_ rfl).1; omega
      | some ad =>
      have hcs := Rd.ent (hr.below hb) k e hek
      have g8 := cells_at hcs 7 _ rfl
      have g9 := cells_at hcs 8 _ rfl
      have hki : (k : Int) < (n : Int) := by omega
      have hln : (sweepR now (row.take k)).length ≤ 5000 := by have := List.length_filter_le (fun e : Re => aliveB now e.e) (row.take k); rw [List.length_take] at this; unfold sweepR; omega
      obtain ⟨sl, hsl⟩ : ∃ x, sweepR now (row.take k) = x := ⟨_, rfl⟩
      have htk : sweepR now (row.take (k + 1)) = sl ++ if now < e.put + e.life * 10 then [e] else [] := by rw [take_snoc hek, sweepR_snoc, hsl]
      rw [hsl] at ho hln
      clear hsl hcs
      obtain ⟨pt, hpt⟩ : ∃ x, e.put = x := ⟨_, rfl⟩
      obtain ⟨lf, hlf⟩ : ∃ x, e.life = x := ⟨_, rfl⟩
      rw [hpt] at g8 p0 p1 htk
      rw [hlf] at g9 l0 l1 htk
      have HT := Lib.hid htk
      clear htk
      go_upto_region 4 with fail
      by_cases hal : now < pt + lf * 10
      · go_quiet (fail)
        have hb9 := below_drewN hb nq
        have ho9 := own_below ho (below_drewN (Below.refl _ wr) nq)
        obtain ⟨W9, hW9⟩ : ∃ x, wr.drewN nq = x := ⟨_, rfl⟩
        rw [hW9] at hb9 ho9 ⊢
        have c9 : W9.cell? ⟨M, 0, none⟩ = some (.slice (some ad) n c) := (HD.out.below hb9).cell 0 _ rfl
        have hc9 : Cells W9 (ad.add (k * 10)) [.string e.key.nm, .int .u16 e.key.ty, .int .u16 e.key.cl, .int .u16 e.am.rc, .bool e.am.aa, .slice e.am.an.a e.am.an.n e.am.an.c, .slice e.am.au.a e.am.au.n e.am.au.c, .slice e.am.ex.a e.am.ex.n e.am.ex.c, .int .i64 e.put, .int .i64 e.life] := Rd.ent (hr.below hb9) k e hek
        have hz9 := hb9.size
        clear ho hb hB c0 g8 g9 hW9 p0 p1 l0 l1 hpt hlf
        go_wp2_with (first | (refine wpList_getAt rfl 91 (.tmp 41) rfl (ad.add (k * 10)) rfl [.string e.key.nm, .int .u16 e.key.ty, .int .u16 e.key.cl, .int .u16 e.am.rc, .bool e.am.aa, .slice e.am.an.a e.am.an.n e.am.an.c, .slice e.am.au.a e.am.au.n e.am.au.c, .slice e.am.ex.a e.am.ex.n e.am.ex.c, .int .i64 e.put, .int .i64 e.life] _ hc9 Try.underlying91 rfl sizeEnt ?_) | (at_builtin; refine wpList_app (w0 := W) _ W.heap.size rfl (.tmp 35) (.tmp 43) 60 60 91 reZero 10 120 rfl Try.underlying60 infoEnt rfl (by omega) (by omega) u4 sl.length _ rfl (.own (own_below ho9 (below_new _ _))) _ 1 e.cells rfl (.slice (Rd.litN _ _ _ 10 _ rfl rfl) (re_one _)) (below_alloc hb9 _) (by rw [World.size_alloc]; omega) (by omega) ?_; intro v1 w2 _ ho2 hb2 hg2; replace ho2 := ho2 (.inl (by omega))))
        go_roundw
        case rel =>
          refine ⟨k + 1, by omega, by go_num, ?_, hb2⟩
          rw [HT.out, if_pos hal, List.length_append, res_snoc]
          exact ho2
        case measure => simp [intOf]; omega
      · go_quiet (fail)
        have hb9 := below_drewN hb nq
        have ho9 := own_below ho (below_drewN (Below.refl _ wr) nq)
        go_wp2
        go_roundw
        case rel =>
          refine ⟨k + 1, by omega, by go_num, ?_, hb9⟩
          rw [HT.out, if_neg hal, List.append_nil]
          exact ho9
        case measure => simp [intOf]; omega
    · obtain rfl : k = n := by omega
      rw [List.take_of_length_le (by omega)] at ho
      have f0 := hB.free 0
      obtain ⟨B, d, rfl, -⟩ := own_rd ho
      go_wp2
      refine bodyPost_end (results_none rfl _ _ _) rfl ⟨rfl, _, hB.set 0 _, ?_, (Fr.of_below hb).setCell M 0 _ (.inl rfl)⟩
      exact own_fr ho ((Fr.refl (fun k => k = M) wr).setCell M 0 _ (.inl rfl)) (fun i hi e => own_ne_blk ho hB (by decide) (by rw [← e]; exact hi))
end Go.Proofs.Ytioehogncgloiaa
