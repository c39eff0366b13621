/- stream: the document's Cut. -/
import Derived.Test.YtmifnmnpihikgaaSP
namespace Go.Proofs.Ytmifnmnpihikgaa
open Go.RowKit Go.HL
set_option linter.unusedVariables false
set_option linter.unusedSimpArgs false
theorem len_tolds (q : List (List UInt8)) : q.length ≤ tolds q := by
  induction q with
  | nil => simp
  | cons a q ih => simp [tolds] at ih ⊢; omega
theorem ms_one (l : List Ms) : ∀ u ∈ l.map Ms.val, u.oneCell' = true := by
  intro u hu
  obtain ⟨m, _, rfl⟩ := List.mem_map.1 hu
  rfl
theorem cut_num (l : List UInt8) : (cut l).1.length ≤ l.length := by
  have h1 := len_tolds (cut l).1
  have h2 := cut_tolds l
  omega
theorem nW2 (l : List UInt8) (h : 2 ≤ l.length) : (nW l : Int) = 256 * ((l.getD 0 0).toNat : Int) + ((l.getD 1 0).toNat : Int) := by
  match l, h with
  | a :: b :: r, _ =>
    simp [nW, val]
    omega
/-- append to a row of one's own: the row keeps its place, or takes a new one. -/
theorem own_fresh {P : Program} (w : World) (base : Nat) (t ty e : TypeId) (i : TypeInfo) (z : Value) (bytes : Nat) (ht : P.underlying t = some (.slice e)) (hi : P.info? e = some i) (hz : i.zero = some z)
    (hsize : i.size = 1) (hby : i.bytes = bytes) (hzs : z.cells.size = 1)
    (v : Value) (n : Nat) (xs : List Value) (hown : w.ownsRow base e 1 v n xs) (A : Option Addr) (m c : Nat) (news : List Value) (hr : Rd w 1 A m c news) (h1 : ∀ u ∈ news, u.oneCell' = true)
    (h63 : n + m ≤ maxLen) (hbytes : (n + m) * bytes ≤ 140737488355328) (hb0 : 0 < bytes) (hbase : base ≤ w.heap.size) :
    ∃ v' w', (Builtin.append_ #[t, t] ty #[v, .slice A m c]).run P w = .ok v' w' ∧ w'.ownsRow base e 1 v' (n + m) (xs ++ news) ∧ w.grownBy w' v.ownBlock ∧
      (v'.ownBlock = v.ownBlock ∨ ∀ k, v'.ownBlock = some k → w.heap.size ≤ k) := by
  cases A with
  | none =>
    obtain ⟨rfl, rfl⟩ := hr.nil_ rfl
    obtain rfl : news = [] := List.eq_nil_of_length_eq_zero (by have := hr.len; omega)
    have h := run_append_owned_none (P := P) (w := w) base t ty e i 1 ht hi v n xs hown
    exact ⟨v, w, h, by simpa using hown, ⟨rfl, rfl, rfl, Nat.le_refl _, fun _ _ _ => rfl⟩, .inl rfl⟩
  | some ad =>
    obtain ⟨v1, w1, hrun, h2, h3, _⟩ := run_append_own (P := P) w base t ty e i z 1 bytes ht hi hz hsize hby hzs (by omega) v n xs hown ad m c news hr.len (hr.cells ad rfl) h1 h63 hbytes hbase
    refine ⟨v1, w1, hrun, h2, h3, ?_⟩
    rcases hown.2 with ⟨rfl, rfl⟩ | ⟨g, cap, cur, rfl, hbg, hg, hnc, hcm, hcs, htake⟩
    · have hown' : w.ownsRow w.heap.size e 1 (.slice none 0 0) 0 xs := ⟨hown.1, .inl ⟨rfl, rfl⟩⟩
      obtain ⟨v2, w2, hrun2, h4, _, _⟩ := run_append_own (P := P) w w.heap.size t ty e i z 1 bytes ht hi hz hsize hby hzs (by omega) _ 0 xs hown' ad m c news hr.len (hr.cells ad rfl) h1 h63 hbytes (Nat.le_refl _)
      rw [hrun] at hrun2
      cases hrun2
      exact .inr fun k hk => own_base h4 k hk
    · by_cases hroom : n + m ≤ cap
      · have hl := hr.len
        have hrr := run_append_room (P := P) w t ty e i ht hi g n cap cur hg ad m c news (by rw [hsize]; exact hl) (hr.cells ad rfl) h1 hroom (by rw [hl, hcs, hsize]; omega)
        rw [hrun] at hrr
        cases hrr
        exact .inl rfl
      · obtain ⟨A', c', he, hro⟩ := own_rd hown
        cases he
        have hsrc := Add.src (Add.slice (P := P) (t := t) hr h1) ht
        have hold : (Builtin.firstCells i.size n (.slice (some ⟨g, 0, none⟩) n cap)).run P w.drew = .ok xs.toArray w.drew := by
          rw [hsize]
          exact run_firstCells_some w.drew 1 n ⟨g, 0, none⟩ n cap xs hro.len (fun j u hu => by simpa using hro.cells _ rfl j u hu)
        have hgr := run_append_grow_src (P := P) w t t ty e i z ht hi hz (some ⟨g, 0, none⟩) n cap xs hold (.slice (some ad) m c) m news (by rw [hsize]; exact hsrc) (by omega) (by simp only [maxLen] at h63; omega) (by rw [hby]; exact growslice_fits (by omega) hbytes)
        rw [hrun] at hgr
        cases hgr
        exact .inr fun k hk => by cases hk; exact Nat.le_refl _
section
variable {P : Program} {ops : Array Oper} {rest : List Oper} {o : Oper} {a : Act} {Q : Exit → Act → World → Prop}
/-- The same, at the operation. -/
theorem wpList_appF (w : World) (base : Nat) (hgd : o.guard = none) (s x : Operand) (t e : TypeId) (z : Value) (bytes : Nat)
    (ho : o.op = .call { callee := .builtin .append, args := #[s, x], argTypes := #[t, t] })
    (ht : P.underlying t = some (.slice e)) (hinfo : (P.info? e).map (fun i => (i.zero, i.size, i.bytes)) = some (some z, 1, bytes)) (hz : z.cells.size = 1) (hb0 : 0 < bytes)
    (v : Value) (n : Nat) (cs : List Value) (hs : a.eval s = v) (hown : w.ownsRow base e 1 v n cs) (A : Option Addr) (m c : Nat) (news : List Value) (hx : a.eval x = .slice A m c) (hr : Rd w 1 A m c news) (h1 : ∀ u ∈ news, u.oneCell' = true)
    (hbase : base ≤ w.heap.size) (hbytes : (n + m) * bytes ≤ 140737488355328)
    (h : ∀ v1 w1, w1.ownsRow base e 1 v1 (n + m) (cs ++ news) → w.grownBy w1 v.ownBlock → (v1.ownBlock = v.ownBlock ∨ ∀ k, v1.ownBlock = some k → w.heap.size ≤ k) → wpList P ops Q rest (a.put o.dst v1) w1) :
    wpList P ops Q (o :: rest) a w := by
  refine wpList_plain hgd fun K hK => ?_
  obtain ⟨i0, hi, hzz⟩ := Option.map_eq_some_iff.1 hinfo
  simp only [Prod.mk.injEq] at hzz
  obtain ⟨hz0, hz1, hz2⟩ := hzz
  have h63 : n + m ≤ maxLen := by
    have h5 : (n + m) * 1 ≤ (n + m) * bytes := Nat.mul_le_mul_left _ hb0
    simp only [maxLen]
    omega
  obtain ⟨v1, w1, hrun, h2, h3, h4⟩ := own_fresh (P := P) w base t o.type e i0 z bytes ht hi hz0 hz1 hz2 hz v n cs hown A m c news hr h1 h63 hbytes hb0 hbase
  unfold Oper.wp execOp
  simp only [ho, resolve, invoke, builtin, Sem.run_bind, Sem.run_pure, Result.andThen_ok, List.map_toArray, List.map_cons, List.map_nil, hs, hx, hrun]
  exact hK _ _ (h v1 w1 h2 h3 h4)
end
/-- What Cut leaves. -/
def CutP (w : World) (l : List UInt8) (e : Ending) (w' : World) : Prop :=
  ∃ (Y : List Ms) (v r : Value), e = .returned (.tuple #[v, r]) ∧ w'.ownsRow w.heap.size 26 1 v Y.length (Y.map Ms.val) ∧ (∀ m ∈ Y, MsT w' m ∧ ∀ a, m.a = some a → w.heap.size ≤ a.block) ∧ Y.map Ms.l = (cut l).1
    ∧ w'.ownsRow w.heap.size 5 1 r (cut l).2.length (bs (cut l).2) ∧ Below w.heap.size w w'
set_option maxRecDepth 100000 in
set_option maxHeartbeats 4000000 in
theorem refCut (w : World) (A : Option Addr) (n c : Nat) (l : List UInt8) (hr : Rd w 1 A n c (bs l)) (hn : n ≤ 1099511627776) :
    Calls Try.prog 11 #[.slice A n c] w (CutP w l) := by
  have hl := hr.blen
  have hlN := cut_num l
  have HL := Lib.hid (And.intro hl hlN)
  clear hl hlN
  go_enter Try.func11, Try.ntmps11
  go_wp2
  go_loopw [0, 4] (fun u0 u4 wr => ∃ (p : Nat) (Aa : Option Addr) (na ca : Nat) (T : List Ms), u0 = .slice Aa na ca ∧ l.length = p + na ∧ Rd w 1 Aa na ca (bs (l.drop p)) ∧ wr.ownsRow w.heap.size 26 1 u4 T.length (T.map Ms.val) ∧ (∀ m ∈ T, MsT wr m ∧ ∀ a, m.a = some a → w.heap.size ≤ a.block) ∧ T.map Ms.l ++ (cut (l.drop p)).1 = (cut l).1 ∧ (cut (l.drop p)).2 = (cut l).2 ∧ Below w.heap.size w wr) (fun u0 _ _ => match u0 with | .slice _ k _ => k | _ => 0)
  case atStart => exact ⟨0, A, n, c, [], rfl, by have := HL.out.1; omega, hr, World.ownsRow_nil _ _ _ _, by simp, rfl, rfl, Below.refl _ _⟩
  case round =>
    obtain ⟨p, Aa, na, ca, T, rfl, hpn, hra, hown, hT, hT1, hT2, hbr⟩ := hrel
    have hrw := hra.below hbr
    have hac := hra.le
    have hna : na ≤ 1099511627776 := by have := HL.out.1; omega
    have hld : (l.drop p).length = na := by rw [List.length_drop]; omega
    obtain ⟨D, hD⟩ : ∃ D, l.drop p = D := ⟨_, rfl⟩
    rw [hD] at hra hrw hT1 hT2 hld
    have hTn := congrArg List.length hT1
    simp only [List.length_append, List.length_map] at hTn
    have HT := Lib.hid hT
    have HTl := Lib.hid (And.intro hT1 (And.intro hT2 (And.intro hTn (And.intro hpn (And.intro hld hD)))))
    clear hT hT1 hT2 hTn hpn hld hD
    by_cases h2 : 2 ≤ na
    · have h2' : (2 : Int) ≤ (na : Int) := by omega
      obtain ⟨ad, rfl⟩ : ∃ a, Aa = some a := by
        cases Aa with
        | none => have := (hra.nil_ rfl).1; omega
        | some a => exact ⟨a, rfl⟩
      have c0 := hrw.at 0 (by omega)
      have c1 := hrw.at 1 (by omega)
      have i0 : 0 < na := by omega
      have i1 : 1 < na := by omega
      have i1' : (1 : Int) < (na : Int) := by omega
      have c0 : wr.cell? ad = _ := c0
      have c1 : wr.cell? { block := ad.block, off := ad.off + 1, spot := none } = _ := c1
      have hnw := nW2 D (by have := HTl.out.2.2.2.2.1; omega)
      have b0 := (D.getD 0 0).toNat_lt
      have b1 := (D.getD 1 0).toNat_lt
      obtain ⟨x0, hx0⟩ : ∃ x, (D.getD 0 0).toNat = x := ⟨_, rfl⟩
      obtain ⟨x1, hx1⟩ : ∃ x, (D.getD 1 0).toNat = x := ⟨_, rfl⟩
      rw [hx0] at c0 hnw b0
      rw [hx1] at c1 hnw b1
      have w0 : IntKind.i64.wrap (x0 : Int) = (x0 : Int) := IntWalk.i64_in _ (by omega)
      have w1 : IntKind.i64.wrap (x1 : Int) = (x1 : Int) := IntWalk.i64_in _ (by omega)
      have w2 : IntKind.i64.wrap (256 * (x0 : Int)) = 256 * (x0 : Int) := IntWalk.i64_in _ (by omega)
      have w3 : IntKind.i64.wrap (256 * (x0 : Int) + (x1 : Int)) = 256 * (x0 : Int) + (x1 : Int) := IntWalk.i64_in _ (by omega)
      clear hx0 hx1
      obtain ⟨N, hN⟩ : ∃ N, nW D = N := ⟨_, rfl⟩
      rw [hN] at hnw
      have HN := Lib.hid hN
      clear hN
      go_wp2
      go_quiet (fail)
      have hbq := below_drewN hbr nq
      have hownq := own_below hown (below_drewN (Below.refl wr.heap.size wr) nq)
      have hTq : ∀ m ∈ T, MsT (wr.drewN nq) m ∧ ∀ a, m.a = some a → w.heap.size ≤ a.block := fun m hm => ⟨(HT.out m hm).1.below (below_drewN (Below.refl wr.heap.size wr) nq), (HT.out m hm).2⟩
      have hrq := hra.below hbq
      rw [← hnw]
      have HTq := Lib.hid hTq
      obtain ⟨W, hW⟩ : ∃ W, wr.drewN nq = W := ⟨_, rfl⟩
      rw [hW] at hbq hownq HTq hrq ⊢
      clear hW hTq HT hown hbr hrw c0 c1 hnw b0 b1 w0 w1 w2 w3
      by_cases hsh : na < 2 + N
      · have hsh' : (na : Int) - 2 < (N : Int) := by omega
        go_wp2_with (at_builtin; refine wpList_app_nil W W W.heap.size rfl (.const (.slice none 0 0)) (.tmp 37) 26 26 5 (.int .u8 0) 1 1 rfl Try.underlying26 info_u8 rfl (by omega) (by omega) rfl _ na (bs D) rfl (.slice hrq (bs_one _)) (Below.refl _ _) (Nat.le_refl _) (by omega) ?_; intro v1 w1 ho1 hb1 hg1)
        go_ret2
        have hcs := cut_small (l := D) (by have := HTl.out.2.2.2.2.1; have := HN.out; omega)
        have hT1 := HTl.out.1
        have hT2 := HTl.out.2.1
        rw [hcs] at hT1 hT2
        rw [List.append_nil] at hT1
        refine ⟨T, u4, v1, rfl, own_below hownq hb1, fun m hm => ⟨(HTq.out m hm).1.below hb1, (HTq.out m hm).2⟩, hT1, ?_, below_trans hbq hb1⟩
        rw [← hT2, show D.length = na from HTl.out.2.2.2.2.1]
        exact own_lower ho1 (hbq).size
      · have hsh' : ¬ (na : Int) - 2 < (N : Int) := by omega
        have hco := hrq.bcutO 2 N ca (by omega) (by omega) (Nat.le_refl _)
        have hrest := hra.bcutO (2 + N) (na - (2 + N)) ca (by omega) (by omega) (Nat.le_refl _)
        have hst := cut_step (l := D) (by have := HTl.out.2.2.2.2.1; have := HN.out; omega)
        rw [HN.out] at hst
        have hNn : 2 * (T.length + 1) ≤ 2199023255552 := by
          have h1 := HTl.out.2.2.1
          rw [hst] at h1
          have h2 := HL.out.2
          have h3 := HL.out.1
          simp only [List.length_cons] at h1
          omega
        have HST := Lib.hid hst
        clear hst
        have hN0 : N ≤ 140737488355328 := by omega
        have hq0 : (2 : Int) + (N : Int) ≤ (na : Int) := by omega
        go_wp2_with (first | (refine wpList_cut rfl 26 5 (.tmp 25) (.const (.int .i64 2)) (.tmp 27) rfl Try.underlying26 (size := 1) (by kernel_rfl) (some ad) na ca rfl rfl rfl 2 N (by omega) (by omega) (by omega) ?_) | (refine wpList_app_nil W W W.heap.size rfl (.const (.slice none 0 0)) (.tmp 28) 26 26 5 (.int .u8 0) 1 1 rfl Try.underlying26 info_u8 rfl (by omega) (by omega) rfl _ N (bs ((D.drop 2).take N)) rfl (.slice hco (bs_one _)) (Below.refl _ _) (Nat.le_refl _) (by omega) ?_; intro v1 w1 ho1 hb1 hg1; obtain ⟨A1, c1, rfl, hr1⟩ := own_rd ho1; have hown1 := own_below hownq hb1; have hz1 := hb1.size; have hzq := hbq.size) | (refine wpList_app1 (w0 := w1) w.heap.size rfl (.tmp 24) (.tmp 30) 22 26 (.slice none 0 0) 24 rfl Try.underlying22 info_bytes rfl (by omega) u4 T.length (T.map Ms.val) (.slice A1 N c1) rfl (.own hown1) rfl rfl (Below.refl _ _) (by omega) (by omega) ?_; intro v2 w2 ho2 hb2 hg2) | (refine wpList_cutL rfl 26 5 (.tmp 32) (.tmp 34) rfl Try.underlying26 (size := 1) (by kernel_rfl) (some ad) na ca rfl rfl (2 + N) (by omega) (by omega) ?_))
        have hb12 := (below_trans hbq hb1).grown hg2 (by omega) (fun k hk => own_base hown1 k hk)
        have hmT : MsT w1 ⟨A1, N, c1, (D.drop 2).take N⟩ := ⟨hr1, fun a ha => by
          have ha' : A1 = some a := ha
          exact Byt.of_own ho1 a.block (by rw [ha']; rfl)⟩
        have hT2 : ∀ m ∈ T ++ [⟨A1, N, c1, (D.drop 2).take N⟩], MsT w2 m ∧ ∀ a, m.a = some a → w.heap.size ≤ a.block := fun m hm => by
          rcases List.mem_append.1 hm with h | h
          · exact ⟨((HTq.out m h).1.below hb1).kept hg2 (not_byt_own hown1), (HTq.out m h).2⟩
          · obtain rfl := List.mem_singleton.1 h
            refine ⟨hmT.kept hg2 (not_byt_own hown1), fun a ha => ?_⟩
            have ha' : A1 = some a := ha
            have := own_base ho1 a.block (by rw [ha']; rfl)
            omega
        rw [show T.map Ms.val ++ [.slice A1 N c1] = (T ++ [(⟨A1, N, c1, (D.drop 2).take N⟩ : Ms)]).map Ms.val by simp [Ms.val], show T.length + 1 = (T ++ [(⟨A1, N, c1, (D.drop 2).take N⟩ : Ms)]).length by simp] at ho2
        have hdd : D.drop (2 + N) = l.drop (p + (2 + N)) := by rw [← HTl.out.2.2.2.2.2, List.drop_drop]
        rw [List.take_of_length_le (by rw [List.length_drop]; have := HTl.out.2.2.2.2.1; omega), hdd] at hrest
        have hs1 := HTl.out.1
        have hs2 := HTl.out.2.1
        rw [HST.out, hdd] at hs1 hs2
        go_roundw
        case rel => exact ⟨p + (2 + N), cutS (some ad) (2 + N) ca 1, na - (2 + N), ca - (2 + N), T ++ [⟨A1, N, c1, (D.drop 2).take N⟩], rfl, by have := HTl.out.2.2.2.1; omega, hrest, ho2, hT2, by rw [← hs1]; simp, hs2, hb12⟩
        case measure => show na - (2 + N) < na; omega
    · have h2' : ¬ (2 : Int) ≤ (na : Int) := by omega
      go_wp2_with (at_builtin; refine wpList_app_nil wr wr wr.heap.size rfl (.const (.slice none 0 0)) (.tmp 37) 26 26 5 (.int .u8 0) 1 1 rfl Try.underlying26 info_u8 rfl (by omega) (by omega) rfl _ na (bs D) rfl (.slice hrw (bs_one _)) (Below.refl _ _) (Nat.le_refl _) (by omega) ?_; intro v1 w1 ho1 hb1 hg1)
      go_ret2
      have hcs := cut_small (l := D) (by have := HTl.out.2.2.2.2.1; omega)
      have hT1 := HTl.out.1
      have hT2 := HTl.out.2.1
      rw [hcs] at hT1 hT2
      rw [List.append_nil] at hT1
      refine ⟨T, u4, v1, rfl, own_below hown hb1, fun m hm => ⟨(HT.out m hm).1.below hb1, (HT.out m hm).2⟩, hT1, ?_, below_trans hbr hb1⟩
      rw [← hT2, show D.length = na from HTl.out.2.2.2.2.1]
      exact own_lower ho1 (hbr).size
end Go.Proofs.Ytmifnmnpihikgaa
