/-
  No cell of these rows narrows 'for every input' (looked for: loops, veiled, ifaces, maps, wideKeys, modest, calm, conditions, laid).
  DERIVED. THE GIVEN ROWS OF THIS SEAT. 4 by the template 'for every input the law returns true; each argument reads behind the call as it read before'; 0 by the template 'total and deterministic' (their statements: YtdgdgioenfglnaaTotals.lean).
  GIVEN WITH THE SEED: the statements are not yours to turn. If you find one false, say at which input.
  Laid BY PROGRAM, IN A SANDBOX (cutbox-rows.mjs): the forced cells as the released guide's own fill.sh prints them over the translation 859c3e4fa26f7120… (all of the seat's roots in one cut). By AI agents, Wed Nov 11 2026. No macro, syntax, notation, axiom, sorry.
-/
import Derived.Test.YtdgdgioenfglnaaChecked
import GoSem.Claim
import GoSem.ClaimJoined
import GoSem.ClaimMapViews
import Derived.JoinedTies
import Derived.KernelRfl
namespace Go.Proofs.Ytdgdgioenfglnaa
/- THE CELL 'sum', in the pinned program and in every row, IS THE sha256 OF THE DUMP (.gsa) THAT YtdgdgioenfglnaaProg.lean LOADS. Nothing in Lean hashes anything: it is a label: what it is worth is what the hold of that sum in a sandbox is worth. -/
noncomputable def Try.pinned : Pinned := { name := "ytdgdgioenfglnaa", sum := "859c3e4fa26f712029c5c830f1ee3892083ca47d46d4bd5d0447d0da098b61cf", checked := Try.checked }
namespace Rows
def none {H : Type} : Left H := { results := [], args := [] }

/-- 'hearsaylaw07.EdnsRecords': WHATEVER THE INPUT: true; the input reads as it did. -/
def ednsRecordsSpec : ChangeSpec := { name := "ednsRecords", fn := fun _ => fun
  | [d1, d2, d3] => { results := [.lit (.bool true)], args := [d1, d2, d3] }
  | _ => none }
def ednsRecordsRow : OpenClaim := { program := "ytdgdgioenfglnaa", sum := "859c3e4fa26f712029c5c830f1ee3892083ca47d46d4bd5d0447d0da098b61cf", func := "hearsay/hearsaylaw07.EdnsRecords", spec := "ednsRecords", unfollowed := true, recurses := true, apart := false }
def EdnsRecordsSaid : Prop := ednsRecordsRow.holds Try.pinned (OpenSpec.ofChange ednsRecordsSpec)

/-- ITS FALSE NEIGHBOUR: 'it returns false'. Refute it at one input. -/
def ednsRecordsWrong : ChangeSpec := { name := "ednsRecords", fn := fun _ => fun
  | [d1, d2, d3] => { results := [.lit (.bool false)], args := [d1, d2, d3] }
  | _ => none }
def EdnsRecordsWrongFalsely : Prop := ednsRecordsRow.holds Try.pinned (OpenSpec.ofChange ednsRecordsWrong)

/-- 'hearsaylaw07.EdnsOptions': WHATEVER THE INPUT: true; the input reads as it did. -/
def ednsOptionsSpec : ChangeSpec := { name := "ednsOptions", fn := fun _ => fun
  | [d] => { results := [.lit (.bool true)], args := [d] }
  | _ => none }
def ednsOptionsRow : OpenClaim := { program := "ytdgdgioenfglnaa", sum := "859c3e4fa26f712029c5c830f1ee3892083ca47d46d4bd5d0447d0da098b61cf", func := "hearsay/hearsaylaw07.EdnsOptions", spec := "ednsOptions", unfollowed := true, recurses := true, apart := false }
def EdnsOptionsSaid : Prop := ednsOptionsRow.holds Try.pinned (OpenSpec.ofChange ednsOptionsSpec)

/-- ITS FALSE NEIGHBOUR: 'it returns false'. Refute it at one input. -/
def ednsOptionsWrong : ChangeSpec := { name := "ednsOptions", fn := fun _ => fun
  | [d] => { results := [.lit (.bool false)], args := [d] }
  | _ => none }
def EdnsOptionsWrongFalsely : Prop := ednsOptionsRow.holds Try.pinned (OpenSpec.ofChange ednsOptionsWrong)

/-- 'hearsaylaw07.EdnsFinds': WHATEVER THE INPUT: true; the input reads as it did. -/
def ednsFindsSpec : ChangeSpec := { name := "ednsFinds", fn := fun _ => fun
  | [d] => { results := [.lit (.bool true)], args := [d] }
  | _ => none }
def ednsFindsRow : OpenClaim := { program := "ytdgdgioenfglnaa", sum := "859c3e4fa26f712029c5c830f1ee3892083ca47d46d4bd5d0447d0da098b61cf", func := "hearsay/hearsaylaw07.EdnsFinds", spec := "ednsFinds", unfollowed := true, recurses := true, apart := false }
def EdnsFindsSaid : Prop := ednsFindsRow.holds Try.pinned (OpenSpec.ofChange ednsFindsSpec)

/-- ITS FALSE NEIGHBOUR: 'it returns false'. Refute it at one input. -/
def ednsFindsWrong : ChangeSpec := { name := "ednsFinds", fn := fun _ => fun
  | [d] => { results := [.lit (.bool false)], args := [d] }
  | _ => none }
def EdnsFindsWrongFalsely : Prop := ednsFindsRow.holds Try.pinned (OpenSpec.ofChange ednsFindsWrong)

/-- 'hearsaylaw07.EdnsBack': WHATEVER THE INPUT: true; the input reads as it did. -/
def ednsBackSpec : ChangeSpec := { name := "ednsBack", fn := fun _ => fun
  | [d1, d2, d3, d4] => { results := [.lit (.bool true)], args := [d1, d2, d3, d4] }
  | _ => none }
def ednsBackRow : OpenClaim := { program := "ytdgdgioenfglnaa", sum := "859c3e4fa26f712029c5c830f1ee3892083ca47d46d4bd5d0447d0da098b61cf", func := "hearsay/hearsaylaw07.EdnsBack", spec := "ednsBack", unfollowed := true, recurses := true, apart := false }
def EdnsBackSaid : Prop := ednsBackRow.holds Try.pinned (OpenSpec.ofChange ednsBackSpec)

/-- ITS FALSE NEIGHBOUR: 'it returns false'. Refute it at one input. -/
def ednsBackWrong : ChangeSpec := { name := "ednsBack", fn := fun _ => fun
  | [d1, d2, d3, d4] => { results := [.lit (.bool false)], args := [d1, d2, d3, d4] }
  | _ => none }
def EdnsBackWrongFalsely : Prop := ednsBackRow.holds Try.pinned (OpenSpec.ofChange ednsBackWrong)

/- THE SECOND FORM. 'bulk': how many values and letters a reading holds, each counted each time it is reached (what is shared counts as often as it is met; a slice's spare places count too). A statement '..UptoSaid' is the law's where the arguments, and the package variables that the reading takes, are together of bulk at most 1048576: NARROWER than '..Said'. Prove '..Said' where nothing that the law and all that it calls make is longer than what came in: it says more and counts as full. Else prove '..UptoSaid'. A law counts once. -/
mutual
def uptoBulk {H : Type} : DataW H → Nat
  | .lit (.string bytes) => bytes.length + 1
  | .lit _ => 1
  | .nil => 1
  | .ptr d => uptoBulk d + 1
  | .slice elems spare => uptoBulkAll elems + uptoBulkAll spare + 1
  | .agg parts => uptoBulkAll parts + 1
  | .iface _ d => uptoBulk d + 1
  | .map entries => uptoBulkEntries entries + 1
  | .held _ => 1
def uptoBulkAll {H : Type} : List (DataW H) → Nat
  | [] => 0
  | d :: r => uptoBulk d + uptoBulkAll r
def uptoBulkEntries {H : Type} : List (Lit × DataW H) → Nat
  | [] => 0
  | x :: r => uptoBulkEntry x + uptoBulkEntries r
def uptoBulkEntry {H : Type} : Lit × DataW H → Nat
  | (.string bytes, d) => bytes.length + uptoBulk d + 1
  | (_, d) => uptoBulk d + 1
 end
def uptoSmall : (H : Type) → List (DataW H) → Bool := fun _ ds => decide (uptoBulkAll ds ≤ 1048576)
def OpenSpec.upto (s : _root_.Go.ChangeSpec) : _root_.Go.OpenSpec := { _root_.Go.OpenSpec.ofChange s with cond := some uptoSmall }

/-- 'hearsaylaw07.EdnsRecords', WHERE WHAT IT READS IS OF BULK AT MOST 1048576: true; the input reads as it did. -/
def ednsRecordsUptoRow : OpenClaim := { program := "ytdgdgioenfglnaa", sum := "859c3e4fa26f712029c5c830f1ee3892083ca47d46d4bd5d0447d0da098b61cf", func := "hearsay/hearsaylaw07.EdnsRecords", spec := "ednsRecords", unfollowed := true, recurses := true, apart := false, narrowed := true }
def EdnsRecordsUptoSaid : Prop := ednsRecordsUptoRow.holds Try.pinned (OpenSpec.upto ednsRecordsSpec)

/-- 'hearsaylaw07.EdnsOptions', WHERE WHAT IT READS IS OF BULK AT MOST 1048576: true; the input reads as it did. -/
def ednsOptionsUptoRow : OpenClaim := { program := "ytdgdgioenfglnaa", sum := "859c3e4fa26f712029c5c830f1ee3892083ca47d46d4bd5d0447d0da098b61cf", func := "hearsay/hearsaylaw07.EdnsOptions", spec := "ednsOptions", unfollowed := true, recurses := true, apart := false, narrowed := true }
def EdnsOptionsUptoSaid : Prop := ednsOptionsUptoRow.holds Try.pinned (OpenSpec.upto ednsOptionsSpec)

/-- 'hearsaylaw07.EdnsFinds', WHERE WHAT IT READS IS OF BULK AT MOST 1048576: true; the input reads as it did. -/
def ednsFindsUptoRow : OpenClaim := { program := "ytdgdgioenfglnaa", sum := "859c3e4fa26f712029c5c830f1ee3892083ca47d46d4bd5d0447d0da098b61cf", func := "hearsay/hearsaylaw07.EdnsFinds", spec := "ednsFinds", unfollowed := true, recurses := true, apart := false, narrowed := true }
def EdnsFindsUptoSaid : Prop := ednsFindsUptoRow.holds Try.pinned (OpenSpec.upto ednsFindsSpec)

/-- 'hearsaylaw07.EdnsBack', WHERE WHAT IT READS IS OF BULK AT MOST 1048576: true; the input reads as it did. -/
def ednsBackUptoRow : OpenClaim := { program := "ytdgdgioenfglnaa", sum := "859c3e4fa26f712029c5c830f1ee3892083ca47d46d4bd5d0447d0da098b61cf", func := "hearsay/hearsaylaw07.EdnsBack", spec := "ednsBack", unfollowed := true, recurses := true, apart := false, narrowed := true }
def EdnsBackUptoSaid : Prop := ednsBackUptoRow.holds Try.pinned (OpenSpec.upto ednsBackSpec)

end Rows
end Go.Proofs.Ytdgdgioenfglnaa
