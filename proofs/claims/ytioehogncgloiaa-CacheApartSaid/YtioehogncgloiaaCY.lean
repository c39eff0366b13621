/- Two caches in memory, apart from each other. -/
import Derived.Test.YtioehogncgloiaaCX
namespace Go.Proofs.Ytioehogncgloiaa
open Go.RowKit Go.HL Go.Maps
set_option linter.unusedVariables false
set_option linter.unusedSimpArgs false
structure Two (lo C bm E be : Nat) (w0 : World) (rowc rowd : List Ce) (W : World) : Prop where
  c : CacheW W C bm 100 rowc
  d : CacheW W E be 100 rowd
  ap : ∀ x, CH C bm rowc x → lo ≤ x ∧ ¬ CH E be rowd x
  ld : ∀ x, CH E be rowd x → lo ≤ x
  b : Below lo w0 W
  z : lo ≤ W.heap.size
theorem Two.below {lo C bm E be : Nat} {w0 W W' : World} {rowc rowd : List Ce} (h : Two lo C bm E be w0 rowc rowd W) (hb : Below W.heap.size W W') : Two lo C bm E be w0 rowc rowd W' :=
  ⟨h.c.below hb, h.d.below hb, h.ap, h.ld, h.b.trans (hb.mono h.z), Nat.le_trans h.z hb.size⟩
theorem Two.stepC {lo C bm E be : Nat} {w0 W W' : World} {rowc rowd rowc' : List Ce} (h : Two lo C bm E be w0 rowc rowd W) (k : Left W C bm 100 rowc rowc' W') : Two lo C bm E be w0 rowc' rowd W' :=
  ⟨k.c, h.d.fr k.f (fun i hi hs => (h.ap i (.inl hs)).2 hi), fun x hx => by
    rcases k.h x hx with hx | hx
    · exact h.ap x hx
    · exact ⟨Nat.le_trans h.z hx, fun hd => by have := CH.lt h.d x hd; omega⟩, h.ld, Fr.toBelow h.b k.f (fun i _ hi => (h.ap i (.inl hi)).1) h.z, Nat.le_trans h.z k.f.size⟩
theorem Two.stepD {lo C bm E be : Nat} {w0 W W' : World} {rowc rowd rowd' : List Ce} (h : Two lo C bm E be w0 rowc rowd W) (k : Left W E be 100 rowd rowd' W') : Two lo C bm E be w0 rowc rowd' W' :=
  ⟨h.c.fr k.f (fun i hi hs => (h.ap i hi).2 (.inl hs)), k.c, fun x hx => ⟨(h.ap x hx).1, fun hd => by
    rcases k.h x hd with hd | hd
    · exact (h.ap x hx).2 hd
    · have := CH.lt h.c x hx; omega⟩, fun x hx => by
    rcases k.h x hx with hx | hx
    · exact h.ld x hx
    · exact Nat.le_trans h.z hx, Fr.toBelow h.b k.f (fun i _ hi => h.ld i (.inl hi)) h.z, Nat.le_trans h.z k.f.size⟩
/-- One is put into the first cache, while it is empty; or into the second one. -/
theorem Two.putC {lo C bm E be : Nat} {w0 W : World} {rowc rowd : List Ce} (T : Two lo C bm E be w0 rowc rowd W) (q : Qn) (hq : q.ok) (hqs : q.nm.size ≤ 2000) (a : Am) (ha : a.ok W) (hs : a.small) (hap : a.apart (fun i => lo ≤ i)) (now : Int) (hl : (rowc.length : Int) ≤ 100) :
    Calls Try.prog 10 #[ptr (some C), q.val, a.val, .int .i64 now] W fun en W' => ∃ rowc', en = .returned (.bool (putV 100 (rowc.map Ce.e) q a.rc a.an.l a.au.l a.ex.l now).2) ∧ rowc'.map Ce.e = (putV 100 (rowc.map Ce.e) q a.rc a.an.l a.au.l a.ex.l now).1 ∧ Two lo C bm E be w0 rowc' rowd W' :=
  (put_ W C bm 100 rowc T.c (by omega) (by omega) hl q hq hqs a ha hs (hap.mono (fun i hi => (T.ap i (.inl hi)).1)) now).mono (by rintro e W' ⟨r, h1, h2, h3⟩; exact ⟨r, h1, h2, T.stepC h3⟩)
theorem Two.putD {lo C bm E be : Nat} {w0 W : World} {rowc rowd : List Ce} (T : Two lo C bm E be w0 rowc rowd W) (q : Qn) (hq : q.ok) (hqs : q.nm.size ≤ 2000) (a : Am) (ha : a.ok W) (hs : a.small) (hap : a.apart (fun i => lo ≤ i)) (now : Int) (hl : (rowd.length : Int) ≤ 100) :
    Calls Try.prog 10 #[ptr (some E), q.val, a.val, .int .i64 now] W fun en W' => ∃ rowd', en = .returned (.bool (putV 100 (rowd.map Ce.e) q a.rc a.an.l a.au.l a.ex.l now).2) ∧ rowd'.map Ce.e = (putV 100 (rowd.map Ce.e) q a.rc a.an.l a.au.l a.ex.l now).1 ∧ Two lo C bm E be w0 rowc rowd' W' :=
  (put_ W E be 100 rowd T.d (by omega) (by omega) hl q hq hqs a ha hs (hap.mono (fun i hi => T.ld i (.inl hi))) now).mono (by rintro e W' ⟨r, h1, h2, h3⟩; exact ⟨r, h1, h2, T.stepD h3⟩)
end Go.Proofs.Ytioehogncgloiaa
