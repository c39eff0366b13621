/- edns: DeleteFunc over records. -/
import Derived.Test.YtdgdgioenfglnaaLS
import Derived.Test.YtdgdgioenfglnaaLG
namespace Go.HL
open Go.RowKit
set_option linter.unusedVariables false
set_option linter.unusedSimpArgs false
theorem own_oth {W W' : World} {base m s : Nat} {e : TypeId} {v : Value} {x : List Value} {row : Option Nat} (h : W.ownsRow base e s v m x) (hg : W.grownBy W' row) (hne : ∀ k, v.ownBlock = some k → row ≠ some k) : W'.ownsRow base e s v m x :=
  h.kept hg (by
    cases hv : v.ownBlock with
    | none => exact .inl rfl
    | some k => exact .inr (fun e => hne k hv e.symm))
theorem own_pre {w : World} {base : Nat} {e : TypeId} {size g n c : Nat} {cs : List Value} (h : w.ownsRow base e size (.slice (some ⟨g, 0, none⟩) n c) n cs) (k : Nat) (hk : k ≤ n) : w.ownsRow base e size (.slice (some ⟨g, 0, none⟩) k c) k (cs.take (k * size)) := by
  obtain ⟨hl, h⟩ := h
  have hkn : k * size ≤ n * size := Nat.mul_le_mul_right _ hk
  rcases h with ⟨h, _⟩ | ⟨g', cap, cur, he, hb, hh, hn, hc, hs, ht⟩
  · cases h
  · cases he
    exact ⟨by rw [List.length_take, hl]; omega, .inr ⟨g, c, cur, rfl, hb, hh, by omega, hc, hs, by rw [← ht, List.take_take, Nat.min_eq_left hkn]⟩⟩
section
variable {P : Program} {ops : Array Oper} {rest : List Oper} {o : Oper} {a : Act} {w : World} {Q : Exit → Act → World → Prop}
theorem wpList_putAt (hgd : o.guard = none) (ty : TypeId) (x y : Operand) (ho : o.op = .store ty x y) (ad : Addr) (vs : List Value) (hx : a.eval x = .pointer (some ad)) (hy : a.eval y = .agg vs.toArray)
    (hi : (P.info? ty).map (·.size) = some vs.length) (w' : World) (hst : (storeCells ad vs 0).run P w = .ok () w') (h : wpList P ops Q rest (a.put o.dst undef) w') : wpList P ops Q (o :: rest) a w := by
  have hrun : (storeVar ty ad (.agg vs.toArray)).run P w = .ok () w' := by
    cases hq : P.info? ty with
    | none => simp [hq] at hi
    | some i =>
      have hs : vs.length = i.size := by simp [hq] at hi; omega
      simp [storeVar, sizeOf, typeInfo, hq, Value.cells, hs, hst]
  refine wpList_plain hgd fun K hK => ?_
  unfold Oper.wp execOp
  simp only [ho, hx, hy, Instr.storeAt, Instr.sureAddr, Sem.run_bind, Sem.run_pure, Result.andThen_ok, hrun]
  exact hK _ _ h
theorem wpList_clear (hgd : o.guard = none) (x : Operand) (t e : TypeId) (ho : o.op = .call { callee := .builtin .clear, args := #[x], argTypes := #[t] }) (ht : P.underlying t = some (.slice e)) (z : Value) (hz : (zeroValue e).run P w = .ok z w) (ad : Addr) (m c : Nat) (hx : a.eval x = .slice (some ad) m c) (hm : 0 < m)
    (w' : World) (hst : (storeCells ad (Builtin.zeroCells z.cells m).toList 0).run P w = .ok () w') (h : wpList P ops Q rest (a.put o.dst (.tuple #[])) w') : wpList P ops Q (o :: rest) a w := by
  refine wpList_plain hgd fun K hK => ?_
  obtain ⟨k, rfl⟩ : ∃ k, m = k + 1 := ⟨m - 1, by omega⟩
  have hrun : (Builtin.clear_ #[t] o.type #[.slice (some ad) (k + 1) c]).run P w = .ok (.tuple #[]) w' := by
    simp [Builtin.clear_, run_underlying ht, hz, hst]
  unfold Oper.wp execOp
  simp only [ho, resolve, invoke, builtin, Sem.run_bind, Sem.run_pure, Result.andThen_ok, List.map_toArray, List.map_cons, List.map_nil, hx, hrun]
  exact hK _ _ h
end
end Go.HL
namespace Go.Proofs.Ytdgdgioenfglnaa
open Go.RowKit Go.HL
set_option linter.unusedVariables false
set_option linter.unusedSimpArgs false
def kept (l : List Rc) : List Rc := l.filter fun r => !isOpt r
theorem kept_none {l : List Rc} (h : ∀ (j : Nat) r, l[j]? = some r → isOpt r = false) : kept l = l := by
  unfold kept
  rw [List.filter_eq_self]
  intro r hr
  obtain ⟨j, hj⟩ := List.getElem?_of_mem hr
  simp [h j r hj]
theorem kept_take (l : List Rc) (j : Nat) (r : Rc) (h : l[j]? = some r) : kept (l.take (j + 1)) = kept (l.take j) ++ (if isOpt r then [] else [r]) := by
  unfold kept
  rw [List.take_add_one, h, List.filter_append]
  cases hr : isOpt r <;> simp [hr]
def zrec : List Value := [.string ⟨#[]⟩, .int .u16 0, .int .u16 0, .int .u32 0, .string ⟨#[]⟩, .string ⟨#[]⟩, .string ⟨#[]⟩, .int .u32 0, .int .u32 0, .int .u32 0, .int .u32 0, .int .u32 0]
theorem zrec_one : ∀ k : Fin 12, (zrec.toArray[k.val]!).oneCell' = true := by decide
theorem zeros_one (m : Nat) : ∀ v ∈ (Builtin.zeroCells (Value.agg zrec.toArray).cells m).toList, v.oneCell' = true := by
  intro v hv
  simp only [Builtin.zeroCells, Value.cells, Array.toList_map, List.mem_map] at hv
  obtain ⟨i, _, rfl⟩ := hv
  exact zrec_one ⟨i % 12, Nat.mod_lt _ (by omega)⟩
theorem zeros_len (m : Nat) : (Builtin.zeroCells (Value.agg zrec.toArray).cells m).toList.length = m * 12 := by
  have := size_zeroCells (Value.agg zrec.toArray).cells m
  rw [Array.length_toList, this]
  rfl
theorem zeroRec_run (w : World) : (zeroValue 31).run Try.prog w = .ok (.agg zrec.toArray) w := by
  obtain ⟨i0, hi, hzz⟩ := Option.map_eq_some_iff.1 info_rec
  simp only [Prod.mk.injEq] at hzz
  obtain ⟨hz0, _, _⟩ := hzz
  simp [zeroValue, typeInfo, hi, hz0, zrec]
def DelP (w : World) (base : Nat) (l : List Rc) (e : Ending) (w' : World) : Prop := ∃ v', e = .returned v' ∧ w'.ownsRow base 31 12 v' (kept l).length (rcs (kept l)) ∧ Below base w w'
set_option maxHeartbeats 4000000 in
theorem delFunc_ (w : World) (base : Nat) (v : Value) (n : Nat) (l : List Rc) (hv : w.ownsRow base 31 12 v n (rcs l)) (hn : n ≤ 1048576) (hbase : base ≤ w.heap.size) :
    Calls Try.prog 25 #[v, .func (.func 23) #[] #[]] w (DelP w base l) := by
  obtain ⟨A, c, rfl, hr⟩ := own_rd hv
  have hl := Rd.recs hr
  have hi := indexFunc_ w A n c l hr hn
  rcases idx_cases l with ⟨h1, h2⟩ | ⟨i0, r0, h1, h2, h3, h4⟩
  · rw [h1] at hi
    go_enter Try.func25, Try.ntmps25
    go_wp2_with (go_at_call 22; refine hi.mono ?_; rintro e w1 ⟨rfl, hb1⟩)
    go_ret
    refine ⟨_, rfl, ?_, hb1.mono hbase⟩
    rw [kept_none h2, hl]
    exact own_below hv hb1
  · rw [h1] at hi
    have hin : i0 < n := by have := (List.getElem?_eq_some_iff.1 h2).1; omega
    obtain ⟨g, rfl⟩ : ∃ g, A = some ⟨g, 0, none⟩ := by
      rcases hv.2 with ⟨h, _⟩ | ⟨g, cap, cur, h, _⟩
      · cases h; have := (hr.nil_ rfl).1; omega
      · cases h; exact ⟨g, rfl⟩
    have hgw := (hv.lt g rfl)
    have HL := Lib.hid hl
    have hk0 : kept (l.take i0) = l.take i0 := kept_none (fun j r h => by
      rcases Nat.lt_or_ge j i0 with hj | hj
      · rw [List.getElem?_take, if_pos hj] at h
        exact h4 j r hj h
      · rw [List.getElem?_take, if_neg (by omega)] at h
        cases h)
    have HK := Lib.hid (And.intro hk0 (And.intro h2 h3))
    clear hl hk0 h2 h3 h4 h1
    go_enter Try.func25, Try.ntmps25
    go_wp2_with (go_at_call 22; refine hi.mono ?_; rintro e w1 ⟨rfl, hb1⟩)
    have hv1 := own_below hv hb1
    clear hi hr
    go_loopw [5, 6] (fun u5 u6 W => ∃ (i j : Nat) (q : List Rc), i < j ∧ j ≤ n ∧ u5 = .int .i64 i ∧ u6 = .int .i64 j ∧ q.length = n ∧ W.ownsRow base 31 12 (.slice (some ⟨g, 0, none⟩) n c) n (rcs q) ∧ q.take i = kept (l.take j) ∧ q.drop j = l.drop j ∧ Below base w W) (fun _ u6 _ => n - (intOf u6).toNat)
    case atStart => exact ⟨i0, i0 + 1, l, by omega, by omega, rfl, by go_num, HL.out, hv1, by rw [kept_take l i0 r0 HK.out.2.1, HK.out.1, HK.out.2.2]; simp, rfl, hb1.mono hbase⟩
    case round =>
      clear hv1 hb1
      obtain ⟨i, j, q, hij, hjn, rfl, rfl, hq, hown, hqi, hqj, hbw⟩ := hrel
      have HQ := Lib.hid (And.intro hq (And.intro hqi hqj))
      have hzw := hbw.size
      clear hq hqi hqj
      by_cases hlt : j < n
      · have hlt' : (j : Int) < (n : Int) := by omega
        obtain ⟨r, hrj⟩ : ∃ r, q[j]? = some r := ⟨_, List.getElem?_eq_getElem (by have := HQ.out.1; omega)⟩
        obtain ⟨A', c', e', hrd⟩ := own_rd hown
        cases e'
        have hcs : Cells wr ⟨g, j * 12, none⟩ r.cells := by have h := Rd.rec hrd j r hrj; rwa [add_plain] at h
        have HB7 := Blk.new wr 31 zrec.toArray
        have hlj : l[j]? = some r := by
          have h1 := congrArg (fun x => x[0]?) HQ.out.2.2
          simp only [List.getElem?_drop, Nat.add_zero] at h1
          rw [← h1]
          exact hrj
        have hkt := kept_take l j r hlj
        have HJ := Lib.hid (And.intro hrj (And.intro hlj hkt))
        have hop := fun W => opt_ W r
        have hlw := hown.lt g rfl
        have hiw : (i : Int) < (n : Int) := by omega
        clear hrj hlj hkt hrd
        cases hio : isOpt r with
        | true =>
          rw [hio] at hop
          go_wp2_with (first | (refine wpList_getAt rfl 31 (.tmp 24) rfl ⟨g, j * 12, none⟩ rfl r.cells _ hcs Try.underlying31 rfl sizeRec ?_) | (refine wpList_put rfl 31 (.tmp 7) _ rfl wr.heap.size r.cells.toArray rfl rfl 31 zrec HB7 sizeRec rfl rfl ?_; have HB8 := HB7.row r.cells.toArray; have hown8 := (own_oth (own_oth hown (World.grownBy_alloc wr (.cells zrec.toArray 31) none) (fun k _ e => by cases e)) (grown_row _ wr.heap.size r.cells.toArray) (fun k hk e => by have h1 := hown.lt k hk; have h2 : wr.heap.size = k := by { injection e }; omega)); have hbw8 := (hbw.alloc (by omega) (.cells zrec.toArray 31)).grown (grown_row _ wr.heap.size r.cells.toArray) (by rw [World.size_alloc]; omega) (fun k hk => by have h2 : wr.heap.size = k := by { injection hk }; omega)) | (refine wpList_get rfl 31 (.tmp 7) rfl wr.heap.size rfl 31 r.cells _ HB8 Try.underlying31 rfl sizeRec ?_) | (go_at_call 23; refine (hop _).mono ?_; rintro e w2 ⟨rfl, hb2⟩; have hz2 := hb2.size; have hown9 := own_below hown8 hb2; have HB9 := HB8.below hb2))
          have hb9 := hbw8.trans (hb2.mono (by simp only [World.setRow, Array.size_modify, World.size_alloc]; omega))
          go_roundw
          case rel => exact ⟨_, _, _, _, _, _, _, _, _, _, _, _, _, _, _, _, _, _, _, _, _, _, _, ⟨i, j + 1, q, by omega, by omega, rfl, by go_num, HQ.out.1, hown9, by rw [HJ.out.2.2, hio, HQ.out.2.1]; simp, by rw [← List.drop_drop, HQ.out.2.2, List.drop_drop], hb9⟩, rfl⟩
          case measure => simp [intOf]; omega
        | false =>
          rw [hio] at hop
          go_wp2_with (first | (refine wpList_getAt rfl 31 (.tmp 24) rfl ⟨g, j * 12, none⟩ rfl r.cells _ hcs Try.underlying31 rfl sizeRec ?_) | (refine wpList_put rfl 31 (.tmp 7) _ rfl wr.heap.size r.cells.toArray rfl rfl 31 zrec HB7 sizeRec rfl rfl ?_; have HB8 := HB7.row r.cells.toArray; have hown8 := (own_oth (own_oth hown (World.grownBy_alloc wr (.cells zrec.toArray 31) none) (fun k _ e => by cases e)) (grown_row _ wr.heap.size r.cells.toArray) (fun k hk e => by have h1 := hown.lt k hk; have h2 : wr.heap.size = k := by { injection e }; omega)); have hbw8 := (hbw.alloc (by omega) (.cells zrec.toArray 31)).grown (grown_row _ wr.heap.size r.cells.toArray) (by rw [World.size_alloc]; omega) (fun k hk => by have h2 : wr.heap.size = k := by { injection hk }; omega)) | (refine wpList_get rfl 31 (.tmp 7) rfl wr.heap.size rfl 31 r.cells _ HB8 Try.underlying31 rfl sizeRec ?_) | (go_at_call 23; refine (hop _).mono ?_; rintro e w2 ⟨rfl, hb2⟩; have hz2 := hb2.size; have hown9 := own_below hown8 hb2; have HB9 := HB8.below hb2) | (refine wpList_get rfl 31 (.tmp 7) rfl wr.heap.size rfl 31 r.cells _ HB9 Try.underlying31 rfl sizeRec ?_; obtain ⟨w3, hst, hown3, hg3⟩ := own_mid (P := Try.prog) hown9 (i * 12) r.cells (by rw [show r.cells.length = 12 from rfl]; omega) (fun v hv => rcs_one [r] v (by simpa [rcs] using hv))) | (refine wpList_putAt rfl 31 (.tmp 33) (.tmp 32) rfl ⟨g, i * 12, none⟩ r.cells rfl rfl sizeRec w3 hst ?_))
          have hzb2 : base ≤ w2.heap.size := by
            have h1 : ((wr.alloc (.cells zrec.toArray 31)).setRow wr.heap.size r.cells.toArray).heap.size = wr.heap.size + 1 := by simp only [World.setRow, Array.size_modify, World.size_alloc]
            have h2 : ((wr.alloc (.cells zrec.toArray 31)).setRow wr.heap.size r.cells.toArray).heap.size ≤ w2.heap.size := hz2
            omega
          have hb9 := (hbw8.trans (hb2.mono (by simp only [World.setRow, Array.size_modify, World.size_alloc]; omega))).grown hg3 hzb2 (fun k hk => by have h2 : g = k := by { injection hk }; omega)
          rw [← rcs_set q i r (by have := HQ.out.1; omega)] at hown3
          go_roundw
          case rel => exact ⟨_, _, _, _, _, _, _, _, _, _, _, _, _, _, _, _, _, _, _, _, _, _, _, ⟨i + 1, j + 1, q.set i r, by omega, by omega, by go_num, by go_num, by rw [List.length_set]; exact HQ.out.1, hown3, by
            rw [HJ.out.2.2, hio, ← HQ.out.2.1, List.take_set, List.take_add_one, List.set_append]
            have h1 := HQ.out.1
            have h2 : i < q.length := by omega
            simp [show min i q.length = i by omega, List.getElem?_eq_getElem h2], by
            rw [List.drop_set_of_lt (by omega), ← List.drop_drop, HQ.out.2.2, List.drop_drop], hb9⟩, rfl⟩
          case measure => simp [intOf]; omega
      · have hlt' : ¬ (j : Int) < (n : Int) := by omega
        have hcn := hown.2
        have hnc : n ≤ c := by
          obtain ⟨A', c', e', h'⟩ := own_rd hown
          cases e'
          exact h'.le
        clear hcn
        have hic : ¬ c = i := by omega
        have hcut : cutS (some (⟨g, 0, none⟩ : Addr)) i c 12 = some ⟨g, i * 12, none⟩ := by
          unfold cutS
          rw [if_neg hic]
          simp only [Option.map_some, add_plain]
        obtain ⟨w3, hst, hown3, hg3⟩ := own_mid (P := Try.prog) hown (i * 12) (Builtin.zeroCells (Value.agg zrec.toArray).cells (n - i)).toList (by rw [zeros_len]; omega) (zeros_one _)
        have hz0 := zeroRec_run wr
        go_wp2_with (first | (refine wpList_cutL rfl 44 31 (.tmp 36) (.tmp 37) rfl Try.underlying44 (size := 12) (by kernel_rfl) (some ⟨g, 0, none⟩) n c rfl rfl i rfl (by omega) ?_) | (refine wpList_clear rfl (.tmp 38) 44 31 rfl Try.underlying44 (.agg zrec.toArray) hz0 ⟨g, i * 12, none⟩ (n - i) (c - i) (by show Value.slice (cutS (some (⟨g, 0, none⟩ : Addr)) i c 12) (n - i) (c - i) = _; rw [hcut]) (by omega) w3 hst ?_))
        go_ret
        obtain rfl : j = n := by omega
        have hql := HQ.out.1
        have e1 : kept l = q.take i := by
          have h1 := HQ.out.2.1
          rw [show l.take _ = l from List.take_of_length_le (by have := HL.out; omega)] at h1
          exact h1.symm
        have e2 : (kept l).length = i := by rw [e1, List.length_take]; omega
        have h3 := own_pre hown3 i (by omega)
        rw [List.append_assoc, List.take_append_of_le_length (by rw [List.length_take, rcs_len]; omega), List.take_take, Nat.min_self, ← rcs_take, ← e1] at h3
        refine ⟨_, rfl, ?_, hbw.grown hg3 (by omega) (fun k hk => by have h2 : g = k := by { injection hk }; omega)⟩
        rw [e2]
        exact h3
end Go.Proofs.Ytdgdgioenfglnaa
