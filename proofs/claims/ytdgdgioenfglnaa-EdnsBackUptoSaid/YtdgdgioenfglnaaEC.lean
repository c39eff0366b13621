/- edns: Record, Limit. -/
import Derived.Test.YtdgdgioenfglnaaER
import Derived.Test.YtdgdgioenfglnaaRG
namespace Go.Proofs.Ytdgdgioenfglnaa
open Go.RowKit Go.HL
set_option linter.unusedVariables false
set_option linter.unusedSimpArgs false

/-- What an OPT says, as a value. -/
def ednsV (sz hi ve fl : Int) (s : ByteArray) : Value := .agg #[.int .u16 sz, .int .u8 hi, .int .u8 ve, .int .u16 fl, .string s]
/-- A record, as a value. -/
def recCells (name : ByteArray) (ty cl ttl : Int) (raw host mail : ByteArray) (n0 n1 n2 n3 n4 : Int) : List Value :=
  [.string name, .int .u16 ty, .int .u16 cl, .int .u32 ttl, .string raw, .string host, .string mail, .int .u32 n0, .int .u32 n1, .int .u32 n2, .int .u32 n3, .int .u32 n4]
def optRec (sz hi ve fl : Int) (s : ByteArray) : Value := .agg (recCells ⟨#[0]⟩ 41 sz (hi * 16777216 + ve * 65536 + fl) s ByteArray.empty ByteArray.empty 0 0 0 0 0).toArray
def zeroRec : Value := .agg (recCells ByteArray.empty 0 0 0 ByteArray.empty ByteArray.empty ByteArray.empty 0 0 0 0 0).toArray
def recOk (s : ByteArray) : Bool := okOf s && decide (s.size ≤ 65535)
def RecP (w : World) (sz hi ve fl : Int) (s : ByteArray) (e : Ending) (w' : World) : Prop :=
  e = .returned (.tuple #[if recOk s then optRec sz hi ve fl s else zeroRec, .int .i64 (if recOk s then 0 else 70)]) ∧ Below w.heap.size w w'
theorem or_rec1 (hi ve : Int) (h0 : 0 ≤ hi) (h1 : hi < 256) (v0 : 0 ≤ ve) (v1 : ve < 256) : bits .or .u32 (hi * 16777216) (ve * 65536) = hi * 16777216 + ve * 65536 :=
  bits_join .u32 32 (by decide) (fun n h0 h1 => wraps_u32 n h0 h1) 24 _ _ (by omega) (by omega) (by omega) (by omega) (by omega) (by omega)
theorem or_rec2 (hi ve fl : Int) (h0 : 0 ≤ hi) (h1 : hi < 256) (v0 : 0 ≤ ve) (v1 : ve < 256) (f0 : 0 ≤ fl) (f1 : fl < 65536) : bits .or .u32 (hi * 16777216 + ve * 65536) fl = hi * 16777216 + ve * 65536 + fl :=
  bits_join .u32 32 (by decide) (fun n h0 h1 => wraps_u32 n h0 h1) 16 _ _ (by omega) (by omega) (by omega) (by omega) (by omega) (by omega)
theorem sizeRec : (Try.prog.info? 31).map (·.size) = some 12 := by kernel_rfl
def ednsCells (sz hi ve fl : Int) (s : ByteArray) : List Value := [.int .u16 sz, .int .u8 hi, .int .u8 ve, .int .u16 fl, .string s]
def zeroCells : List Value := recCells ⟨#[]⟩ 0 0 0 ⟨#[]⟩ ⟨#[]⟩ ⟨#[]⟩ 0 0 0 0 0
set_option maxHeartbeats 2000000 in
theorem record_ (w : World) (sz hi ve fl : Int) (s : ByteArray) (hlen : s.size ≤ 1048576) (h0 : 0 ≤ hi) (h1 : hi < 256) (v0 : 0 ≤ ve) (v1 : ve < 256) (f0 : 0 ≤ fl) (f1 : fl < 65536) :
    Calls Try.prog 7 #[ednsV sz hi ve fl s] w (RecP w sz hi ve fl s) := by
  unfold ednsV
  have hopt := fun W => options_ W s hlen
  have key : ∀ w', Below ((w.alloc (.cells (ednsCells sz hi ve fl s).toArray 24)).alloc (.cells zeroCells.toArray 31)).heap.size ((w.alloc (.cells (ednsCells sz hi ve fl s).toArray 24)).alloc (.cells zeroCells.toArray 31)) w' →
      Blk w' w.heap.size 24 (ednsCells sz hi ve fl s) ∧ Blk w' (w.heap.size + 1) 31 zeroCells ∧ Below w.heap.size w w' := fun w' hb => by
    have h2 := (Blk.new (w.alloc (.cells (ednsCells sz hi ve fl s).toArray 24)) 31 zeroCells.toArray).below hb
    rw [World.size_alloc] at h2
    exact ⟨((Blk.new w 24 (ednsCells sz hi ve fl s).toArray).alloc _).below hb, h2, below_trans (below_alloc (below_new w _) _) hb⟩
  have hr1 := or_rec1 hi ve h0 h1 v0 v1
  have hr2 := or_rec2 hi ve fl h0 h1 v0 v1 f0 f1
  go_enter Try.func7, Try.ntmps7
  by_cases hok : okOf s = true
  · by_cases hz : s.size ≤ 65535
    · have hz2 : ¬ ((65535 : Int) < s.size) := by omega
      have hrk : recOk s = true := by unfold recOk; rw [hok]; simpa using hz
      go_wp2_with (first | (go_at_call 12; refine (hopt _).mono ?_; rintro e w' ⟨vn, vl, rfl, _, _, hb⟩; obtain ⟨k1, k2, k3⟩ := key w' hb; clear hb key hopt; have c0 := k1.cell 0 _ rfl; have c1 := k1.cell 1 _ rfl; have c2 := k1.cell 2 _ rfl; have c3 := k1.cell 3 _ rfl; have c4 := k1.cell 4 _ rfl; rw [hok]) | (refine wpList_put rfl 31 (.tmp 2) _ rfl (w.heap.size + 1) (recCells ⟨#[0]⟩ 41 sz (hi * 16777216 + ve * 65536 + fl) s ⟨#[]⟩ ⟨#[]⟩ 0 0 0 0 0).toArray rfl rfl 31 zeroCells k2 sizeRec rfl rfl ?_; have k4 := k2.row (recCells ⟨#[0]⟩ 41 sz (hi * 16777216 + ve * 65536 + fl) s ⟨#[]⟩ ⟨#[]⟩ 0 0 0 0 0).toArray; have k5 := k3.grown (grown_row w' (w.heap.size + 1) (recCells ⟨#[0]⟩ 41 sz (hi * 16777216 + ve * 65536 + fl) s ⟨#[]⟩ ⟨#[]⟩ 0 0 0 0 0).toArray) k3.size (fun j hj => by cases hj; omega)))
      refine bodyPost_ret (results_rec rfl _ _ _ _ _ rfl k4 Try.underlying31 rfl sizeRec) rfl ?_
      exact ⟨by rw [hrk]; rfl, k5⟩
    · have hz2 : (65535 : Int) < s.size := by omega
      have hrk : recOk s = false := by unfold recOk; rw [hok]; simpa using hz
      go_wp2_with (first | (go_at_call 12; refine (hopt _).mono ?_; rintro e w' ⟨vn, vl, rfl, _, _, hb⟩; obtain ⟨k1, k2, k3⟩ := key w' hb; clear hb key hopt; have c0 := k1.cell 0 _ rfl; have c1 := k1.cell 1 _ rfl; have c2 := k1.cell 2 _ rfl; have c3 := k1.cell 3 _ rfl; have c4 := k1.cell 4 _ rfl; rw [hok]) | (refine wpList_put rfl 31 (.tmp 2) _ rfl (w.heap.size + 1) zeroCells.toArray rfl rfl 31 zeroCells k2 sizeRec rfl rfl ?_; have k4 := k2.row zeroCells.toArray; have k5 := k3.grown (grown_row w' (w.heap.size + 1) zeroCells.toArray) k3.size (fun j hj => by cases hj; omega)))
      refine bodyPost_ret (results_rec rfl _ _ _ _ _ rfl k4 Try.underlying31 rfl sizeRec) rfl ?_
      exact ⟨by rw [hrk]; rfl, k5⟩
  · have hok : okOf s = false := by simpa using hok
    have hrk : recOk s = false := by unfold recOk; rw [hok]; rfl
    go_wp2_with (first | (go_at_call 12; refine (hopt _).mono ?_; rintro e w' ⟨vn, vl, rfl, _, _, hb⟩; obtain ⟨k1, k2, k3⟩ := key w' hb; clear hb key hopt; have c0 := k1.cell 0 _ rfl; have c1 := k1.cell 1 _ rfl; have c2 := k1.cell 2 _ rfl; have c3 := k1.cell 3 _ rfl; have c4 := k1.cell 4 _ rfl; rw [hok]) | (refine wpList_put rfl 31 (.tmp 2) _ rfl (w.heap.size + 1) zeroCells.toArray rfl rfl 31 zeroCells k2 sizeRec rfl rfl ?_; have k4 := k2.row zeroCells.toArray; have k5 := k3.grown (grown_row w' (w.heap.size + 1) zeroCells.toArray) k3.size (fun j hj => by cases hj; omega)))
    refine bodyPost_ret (results_rec rfl _ _ _ _ _ rfl k4 Try.underlying31 rfl sizeRec) rfl ?_
    exact ⟨by rw [hrk]; rfl, k5⟩
set_option maxHeartbeats 2000000 in
theorem refRecord_ (w : World) (sz hi ve fl : Int) (s : ByteArray) (hlen : s.size ≤ 1048576) (h0 : 0 ≤ hi) (h1 : hi < 256) (v0 : 0 ≤ ve) (v1 : ve < 256) (f0 : 0 ≤ fl) (f1 : fl < 65536) :
    Calls Try.prog 8 #[ednsV sz hi ve fl s] w (RecP w sz hi ve fl s) := by
  unfold ednsV
  have hopt := fun W => may_ W s hlen
  have key : ∀ w', Below ((w.alloc (.cells (ednsCells sz hi ve fl s).toArray 24)).alloc (.cells zeroCells.toArray 31)).heap.size ((w.alloc (.cells (ednsCells sz hi ve fl s).toArray 24)).alloc (.cells zeroCells.toArray 31)) w' →
      Blk w' w.heap.size 24 (ednsCells sz hi ve fl s) ∧ Blk w' (w.heap.size + 1) 31 zeroCells ∧ Below w.heap.size w w' := fun w' hb => by
    have h2 := (Blk.new (w.alloc (.cells (ednsCells sz hi ve fl s).toArray 24)) 31 zeroCells.toArray).below hb
    rw [World.size_alloc] at h2
    exact ⟨((Blk.new w 24 (ednsCells sz hi ve fl s).toArray).alloc _).below hb, h2, below_trans (below_alloc (below_new w _) _) hb⟩
  go_enter Try.func8, Try.ntmps8
  by_cases hz : s.size ≤ 65535
  · have hz2 : ¬ ((65535 : Int) < s.size) := by omega
    by_cases hok : okOf s = true
    · have hrk : recOk s = true := by unfold recOk; rw [hok]; simpa using hz
      go_wp2_with (first | (go_at_call 19; refine (hopt _).mono ?_; rintro e w' ⟨rfl, hb⟩; obtain ⟨k1, k2, k3⟩ := key w' hb; clear hb key hopt; have c0 := k1.cell 0 _ rfl; have c1 := k1.cell 1 _ rfl; have c2 := k1.cell 2 _ rfl; have c3 := k1.cell 3 _ rfl; have c4 := k1.cell 4 _ rfl; rw [hok]) | (refine wpList_put rfl 31 (.tmp 2) _ rfl (w.heap.size + 1) (recCells ⟨#[0]⟩ 41 sz (hi * 16777216 + ve * 65536 + fl) s ⟨#[]⟩ ⟨#[]⟩ 0 0 0 0 0).toArray rfl rfl 31 zeroCells k2 sizeRec rfl rfl ?_; have k4 := k2.row (recCells ⟨#[0]⟩ 41 sz (hi * 16777216 + ve * 65536 + fl) s ⟨#[]⟩ ⟨#[]⟩ 0 0 0 0 0).toArray; have k5 := k3.grown (grown_row w' (w.heap.size + 1) (recCells ⟨#[0]⟩ 41 sz (hi * 16777216 + ve * 65536 + fl) s ⟨#[]⟩ ⟨#[]⟩ 0 0 0 0 0).toArray) k3.size (fun j hj => by cases hj; omega)))
      refine bodyPost_ret (results_rec rfl _ _ _ _ _ rfl k4 Try.underlying31 rfl sizeRec) rfl ?_
      exact ⟨by rw [hrk]; rfl, k5⟩
    · have hok : okOf s = false := by simpa using hok
      have hrk : recOk s = false := by unfold recOk; rw [hok]; rfl
      go_wp2_with (first | (go_at_call 19; refine (hopt _).mono ?_; rintro e w' ⟨rfl, hb⟩; obtain ⟨k1, k2, k3⟩ := key w' hb; clear hb key hopt; have c0 := k1.cell 0 _ rfl; have c1 := k1.cell 1 _ rfl; have c2 := k1.cell 2 _ rfl; have c3 := k1.cell 3 _ rfl; have c4 := k1.cell 4 _ rfl; rw [hok]) | (refine wpList_put rfl 31 (.tmp 2) _ rfl (w.heap.size + 1) zeroCells.toArray rfl rfl 31 zeroCells k2 sizeRec rfl rfl ?_; have k4 := k2.row zeroCells.toArray; have k5 := k3.grown (grown_row w' (w.heap.size + 1) zeroCells.toArray) k3.size (fun j hj => by cases hj; omega)))
      refine bodyPost_ret (results_rec rfl _ _ _ _ _ rfl k4 Try.underlying31 rfl sizeRec) rfl ?_
      exact ⟨by rw [hrk]; rfl, k5⟩
  · have hz2 : (65535 : Int) < s.size := by omega
    have hrk : recOk s = false := by unfold recOk; simp; omega
    have k4 := Blk.new (w.alloc (.cells (ednsCells sz hi ve fl s).toArray 24)) 31 zeroCells.toArray
    rw [World.size_alloc] at k4
    have k5 := below_alloc (below_new w (.cells (ednsCells sz hi ve fl s).toArray 24)) (.cells zeroCells.toArray 31)
    go_wp2
    refine bodyPost_ret (results_rec rfl _ _ _ _ _ rfl k4 Try.underlying31 rfl sizeRec) rfl ?_
    exact ⟨by rw [hrk]; rfl, k5⟩

def limV (has : Bool) (sz most : Int) : Int := if has then (if (if sz ≤ most then sz else most) ≤ 512 then 512 else (if sz ≤ most then sz else most)) else 512
theorem limit_ (w : World) (has : Bool) (sz hi ve fl most : Int) (s : ByteArray) (h0 : 0 ≤ sz) (h1 : sz < 65536) : Calls Try.prog 9 #[.bool has, ednsV sz hi ve fl s, .int .i64 most] w fun e w' => e = .returned (.int .i64 (limV has sz most)) ∧ Below w.heap.size w w' := by
  unfold ednsV
  have hb := below_new w (.cells (ednsCells sz hi ve fl s).toArray 24)
  go_enter Try.func9, Try.ntmps9
  cases has with
  | false =>
    go_wp2
    go_ret
    exact ⟨rfl, hb⟩
  | true =>
    by_cases a3 : most < sz
    · by_cases a4 : most ≤ 512
      · have e : limV true sz most = 512 := by unfold limV; simp only [if_true]; split <;> (try split) <;> omega
        rw [e]
        go_wp2
        go_ret
        exact ⟨rfl, hb⟩
      · have e : limV true sz most = most := by unfold limV; simp only [if_true]; split <;> (try split) <;> omega
        rw [e]
        go_wp2
        go_ret
        exact ⟨rfl, hb⟩
    · by_cases a4 : sz ≤ 512
      · have e : limV true sz most = 512 := by unfold limV; simp only [if_true]; split <;> (try split) <;> omega
        rw [e]
        go_wp2
        go_ret
        exact ⟨rfl, hb⟩
      · have e : limV true sz most = sz := by unfold limV; simp only [if_true]; split <;> (try split) <;> omega
        rw [e]
        go_wp2
        go_ret
        exact ⟨rfl, hb⟩
theorem refLimit_ (w : World) (has : Bool) (sz hi ve fl most : Int) (s : ByteArray) (h0 : 0 ≤ sz) (h1 : sz < 65536) : Calls Try.prog 10 #[.bool has, ednsV sz hi ve fl s, .int .i64 most] w fun e w' => e = .returned (.int .i64 (limV has sz most)) ∧ Below w.heap.size w w' := by
  unfold ednsV
  have hb := below_new w (.cells (ednsCells sz hi ve fl s).toArray 24)
  go_enter Try.func10, Try.ntmps10
  cases has with
  | false =>
    go_wp2
    go_ret
    exact ⟨rfl, hb⟩
  | true =>
    by_cases a1 : sz < 512
    · have e : limV true sz most = 512 := by unfold limV; simp only [if_true]; split <;> (try split) <;> omega
      rw [e]
      go_wp2
      go_ret
      exact ⟨rfl, hb⟩
    · by_cases a2 : most < 512
      · have e : limV true sz most = 512 := by unfold limV; simp only [if_true]; split <;> (try split) <;> omega
        rw [e]
        go_wp2
        go_ret
        exact ⟨rfl, hb⟩
      · by_cases a3 : sz < most
        · have e : limV true sz most = sz := by unfold limV; simp only [if_true]; split <;> (try split) <;> omega
          rw [e]
          go_wp2
          go_ret
          exact ⟨rfl, hb⟩
        · have e : limV true sz most = most := by unfold limV; simp only [if_true]; split <;> (try split) <;> omega
          rw [e]
          go_wp2
          go_ret
          exact ⟨rfl, hb⟩
theorem eqArr (d : Nat) (a0 a1 a2 a3 a4 b0 b1 b2 b3 b4 : Int) (w : World) :
    (Op.equalIn (d + 2) 27 (.agg #[.int .u32 a0, .int .u32 a1, .int .u32 a2, .int .u32 a3, .int .u32 a4]) (.agg #[.int .u32 b0, .int .u32 b1, .int .u32 b2, .int .u32 b3, .int .u32 b4])).run Try.prog w = .ok (a0 == b0 && a1 == b1 && a2 == b2 && a3 == b3 && a4 == b4) w := by
  have hi : ∃ i, Try.prog.info? 26 = some i := by
    cases h : Try.prog.info? 26 with
    | some i => exact ⟨i, rfl⟩
    | none => have : (Try.prog.info? 26).isSome = true := by kernel_rfl
              rw [h] at this; cases this
  obtain ⟨i, hi⟩ := hi
  have hc : Try.prog.cellsOf 26 = 1 := by kernel_rfl
  rw [run_equalIn_array w (d + 1) _ _ Try.underlying27 hi, hc]
  simp only [show List.range 5 = [0, 1, 2, 3, 4] from rfl, Op.eqItems]
  go_simp
  by_cases e0 : a0 = b0 <;> by_cases e1 : a1 = b1 <;> by_cases e2 : a2 = b2 <;> by_cases e3 : a3 = b3 <;> by_cases e4 : a4 = b4 <;> simp [e0, e1, e2, e3, e4]
def dataCells (raw host mail : ByteArray) (n0 n1 n2 n3 n4 : Int) : List Value := [.string raw, .string host, .string mail, .int .u32 n0, .int .u32 n1, .int .u32 n2, .int .u32 n3, .int .u32 n4]
theorem eqData (d : Nat) (raw host mail raw' host' mail' : ByteArray) (a0 a1 a2 a3 a4 b0 b1 b2 b3 b4 : Int) (w : World) :
    (Op.equalIn (d + 3) 29 (.agg (dataCells raw host mail a0 a1 a2 a3 a4).toArray) (.agg (dataCells raw' host' mail' b0 b1 b2 b3 b4).toArray)).run Try.prog w
      = .ok (raw.toList == raw'.toList && host.toList == host'.toList && mail.toList == mail'.toList && (a0 == b0 && a1 == b1 && a2 == b2 && a3 == b3 && a4 == b4)) w := by
  have hS : Try.prog.underlying 29 = some (.struct (Try.prog.fieldsOf 29)) := by kernel_rfl
  have hp : Try.prog.stoodInHeld 29 = false := by kernel_rfl
  have hN := eqArr d a0 a1 a2 a3 a4 b0 b1 b2 b3 b4 w
  unfold dataCells
  rw [run_equalIn_agg w (d + 2) 29 _ _ hS hp]
  clear hS hp
  simp only [Program.fieldsOf, Try.underlying29]
  go_simp
  by_cases h1 : raw.toList = raw'.toList <;> by_cases h2 : host.toList = host'.toList <;> by_cases h3 : mail.toList = mail'.toList <;> by_cases e0 : a0 = b0 <;> by_cases e1 : a1 = b1 <;> by_cases e2 : a2 = b2 <;> by_cases e3 : a3 = b3 <;> by_cases e4 : a4 = b4 <;> simp [h1, h2, h3, e0, e1, e2, e3, e4]
theorem eqRec_self (nm : ByteArray) (ty cl ttl : Int) (raw host mail : ByteArray) (n0 n1 n2 n3 n4 : Int) (w : World) :
    (binOp .eql 31 (.agg (recCells nm ty cl ttl raw host mail n0 n1 n2 n3 n4).toArray) (.agg (recCells nm ty cl ttl raw host mail n0 n1 n2 n3 n4).toArray)).run Try.prog w = .ok (.bool true) w := by
  have hS : Try.prog.underlying 31 = some (.struct (Try.prog.fieldsOf 31)) := by kernel_rfl
  have hp : Try.prog.stoodInHeld 31 = false := by kernel_rfl
  have hN : (Op.equalIn 9998 27 (.agg #[.int .u32 n0, .int .u32 n1, .int .u32 n2, .int .u32 n3, .int .u32 n4]) (.agg #[.int .u32 n0, .int .u32 n1, .int .u32 n2, .int .u32 n3, .int .u32 n4])).run Try.prog w = _ := eqArr 9996 n0 n1 n2 n3 n4 n0 n1 n2 n3 n4 w
  unfold recCells
  rw [run_eql_struct, show (10000 : Nat) = 9999 + 1 from rfl, run_equalIn_agg w 9999 31 _ _ hS hp]
  clear hS hp
  simp only [Program.fieldsOf, Try.underlying31]
  go_simp
end Go.Proofs.Ytdgdgioenfglnaa
