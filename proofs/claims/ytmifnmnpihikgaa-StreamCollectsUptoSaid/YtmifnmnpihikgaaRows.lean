/-
  No cell of these rows narrows 'for every input' (looked for: loops, veiled, ifaces, maps, wideKeys, modest, calm, conditions, laid).
  DERIVED. THE GIVEN ROWS OF THIS SEAT. 5 by the template 'for every input the law returns true; each argument reads behind the call as it read before'; 0 by the template 'total and deterministic' (their statements: YtmifnmnpihikgaaTotals.lean).
  GIVEN WITH THE SEED: the statements are not yours to turn. If you find one false, say at which input.
  Laid BY PROGRAM, IN A SANDBOX (cutbox-rows.mjs): the forced cells as the released guide's own fill.sh prints them over the translation 28bbf147029aa95b… (all of the seat's roots in one cut). By AI agents, Wed Nov 11 2026. No macro, syntax, notation, axiom, sorry.
-/
import Derived.Test.YtmifnmnpihikgaaChecked
import GoSem.Claim
import GoSem.ClaimJoined
import GoSem.ClaimMapViews
import Derived.JoinedTies
import Derived.KernelRfl
namespace Go.Proofs.Ytmifnmnpihikgaa
/- THE CELL 'sum', in the pinned program and in every row, IS THE sha256 OF THE DUMP (.gsa) THAT YtmifnmnpihikgaaProg.lean LOADS. Nothing in Lean hashes anything: it is a label: what it is worth is what the hold of that sum in a sandbox is worth. -/
noncomputable def Try.pinned : Pinned := { name := "ytmifnmnpihikgaa", sum := "28bbf147029aa95b300208a007ab04a12b6c13a0e057a2a5fe72be6ff4186d03", checked := Try.checked }
namespace Rows
def none {H : Type} : Left H := { results := [], args := [] }

/-- 'hearsaylaw28.StreamReads': WHATEVER THE INPUT: true; the input reads as it did. -/
def streamReadsSpec : ChangeSpec := { name := "streamReads", fn := fun _ => fun
  | [d] => { results := [.lit (.bool true)], args := [d] }
  | _ => none }
def streamReadsRow : OpenClaim := { program := "ytmifnmnpihikgaa", sum := "28bbf147029aa95b300208a007ab04a12b6c13a0e057a2a5fe72be6ff4186d03", func := "hearsay/hearsaylaw28.StreamReads", spec := "streamReads", unfollowed := true, recurses := true, apart := false }
def StreamReadsSaid : Prop := streamReadsRow.holds Try.pinned (OpenSpec.ofChange streamReadsSpec)

/-- ITS FALSE NEIGHBOUR: 'it returns false'. Refute it at one input. -/
def streamReadsWrong : ChangeSpec := { name := "streamReads", fn := fun _ => fun
  | [d] => { results := [.lit (.bool false)], args := [d] }
  | _ => none }
def StreamReadsWrongFalsely : Prop := streamReadsRow.holds Try.pinned (OpenSpec.ofChange streamReadsWrong)

/-- 'hearsaylaw28.StreamFrames': WHATEVER THE INPUT: true; the input reads as it did. -/
def streamFramesSpec : ChangeSpec := { name := "streamFrames", fn := fun _ => fun
  | [d] => { results := [.lit (.bool true)], args := [d] }
  | _ => none }
def streamFramesRow : OpenClaim := { program := "ytmifnmnpihikgaa", sum := "28bbf147029aa95b300208a007ab04a12b6c13a0e057a2a5fe72be6ff4186d03", func := "hearsay/hearsaylaw28.StreamFrames", spec := "streamFrames", unfollowed := true, recurses := true, apart := false }
def StreamFramesSaid : Prop := streamFramesRow.holds Try.pinned (OpenSpec.ofChange streamFramesSpec)

/-- ITS FALSE NEIGHBOUR: 'it returns false'. Refute it at one input. -/
def streamFramesWrong : ChangeSpec := { name := "streamFrames", fn := fun _ => fun
  | [d] => { results := [.lit (.bool false)], args := [d] }
  | _ => none }
def StreamFramesWrongFalsely : Prop := streamFramesRow.holds Try.pinned (OpenSpec.ofChange streamFramesWrong)

/-- 'hearsaylaw28.StreamAnyhow': WHATEVER THE INPUT: true; the input reads as it did. -/
def streamAnyhowSpec : ChangeSpec := { name := "streamAnyhow", fn := fun _ => fun
  | [d1, d2] => { results := [.lit (.bool true)], args := [d1, d2] }
  | _ => none }
def streamAnyhowRow : OpenClaim := { program := "ytmifnmnpihikgaa", sum := "28bbf147029aa95b300208a007ab04a12b6c13a0e057a2a5fe72be6ff4186d03", func := "hearsay/hearsaylaw28.StreamAnyhow", spec := "streamAnyhow", unfollowed := true, recurses := true, apart := false }
def StreamAnyhowSaid : Prop := streamAnyhowRow.holds Try.pinned (OpenSpec.ofChange streamAnyhowSpec)

/-- ITS FALSE NEIGHBOUR: 'it returns false'. Refute it at one input. -/
def streamAnyhowWrong : ChangeSpec := { name := "streamAnyhow", fn := fun _ => fun
  | [d1, d2] => { results := [.lit (.bool false)], args := [d1, d2] }
  | _ => none }
def StreamAnyhowWrongFalsely : Prop := streamAnyhowRow.holds Try.pinned (OpenSpec.ofChange streamAnyhowWrong)

/-- 'hearsaylaw28.StreamAll': WHATEVER THE INPUT: true; the input reads as it did. -/
def streamAllSpec : ChangeSpec := { name := "streamAll", fn := fun _ => fun
  | [d] => { results := [.lit (.bool true)], args := [d] }
  | _ => none }
def streamAllRow : OpenClaim := { program := "ytmifnmnpihikgaa", sum := "28bbf147029aa95b300208a007ab04a12b6c13a0e057a2a5fe72be6ff4186d03", func := "hearsay/hearsaylaw28.StreamAll", spec := "streamAll", unfollowed := true, recurses := true, apart := false }
def StreamAllSaid : Prop := streamAllRow.holds Try.pinned (OpenSpec.ofChange streamAllSpec)

/-- ITS FALSE NEIGHBOUR: 'it returns false'. Refute it at one input. -/
def streamAllWrong : ChangeSpec := { name := "streamAll", fn := fun _ => fun
  | [d] => { results := [.lit (.bool false)], args := [d] }
  | _ => none }
def StreamAllWrongFalsely : Prop := streamAllRow.holds Try.pinned (OpenSpec.ofChange streamAllWrong)

/-- 'hearsaylaw28.StreamCollects': WHATEVER THE INPUT: true; the input reads as it did. -/
def streamCollectsSpec : ChangeSpec := { name := "streamCollects", fn := fun _ => fun
  | [d] => { results := [.lit (.bool true)], args := [d] }
  | _ => none }
def streamCollectsRow : OpenClaim := { program := "ytmifnmnpihikgaa", sum := "28bbf147029aa95b300208a007ab04a12b6c13a0e057a2a5fe72be6ff4186d03", func := "hearsay/hearsaylaw28.StreamCollects", spec := "streamCollects", unfollowed := true, recurses := true, apart := false }
def StreamCollectsSaid : Prop := streamCollectsRow.holds Try.pinned (OpenSpec.ofChange streamCollectsSpec)

/-- ITS FALSE NEIGHBOUR: 'it returns false'. Refute it at one input. -/
def streamCollectsWrong : ChangeSpec := { name := "streamCollects", fn := fun _ => fun
  | [d] => { results := [.lit (.bool false)], args := [d] }
  | _ => none }
def StreamCollectsWrongFalsely : Prop := streamCollectsRow.holds Try.pinned (OpenSpec.ofChange streamCollectsWrong)

/- THE SECOND FORM. 'bulk': how many values and letters a reading holds, each counted each time it is reached (what is shared counts as often as it is met; a slice's spare places count too). A statement '..UptoSaid' is the law's where the arguments, and the package variables that the reading takes, are together of bulk at most 1048576: NARROWER than '..Said'. Prove '..Said' where nothing that the law and all that it calls make is longer than what came in: it says more and counts as full. Else prove '..UptoSaid'. A law counts once. -/
mutual
def uptoBulk {H : Type} : DataW H → Nat
  | .lit (.string bytes) => bytes.length + 1
  | .lit _ => 1
  | .nil => 1
  | .ptr d => uptoBulk d + 1
  | .slice elems spare => uptoBulkAll elems + uptoBulkAll spare + 1
  | .agg parts => uptoBulkAll parts + 1
  | .iface _ d => uptoBulk d + 1
  | .map entries => uptoBulkEntries entries + 1
  | .held _ => 1
def uptoBulkAll {H : Type} : List (DataW H) → Nat
  | [] => 0
  | d :: r => uptoBulk d + uptoBulkAll r
def uptoBulkEntries {H : Type} : List (Lit × DataW H) → Nat
  | [] => 0
  | x :: r => uptoBulkEntry x + uptoBulkEntries r
def uptoBulkEntry {H : Type} : Lit × DataW H → Nat
  | (.string bytes, d) => bytes.length + uptoBulk d + 1
  | (_, d) => uptoBulk d + 1
 end
def uptoSmall : (H : Type) → List (DataW H) → Bool := fun _ ds => decide (uptoBulkAll ds ≤ 1048576)
def OpenSpec.upto (s : _root_.Go.ChangeSpec) : _root_.Go.OpenSpec := { _root_.Go.OpenSpec.ofChange s with cond := some uptoSmall }

/-- 'hearsaylaw28.StreamReads', WHERE WHAT IT READS IS OF BULK AT MOST 1048576: true; the input reads as it did. -/
def streamReadsUptoRow : OpenClaim := { program := "ytmifnmnpihikgaa", sum := "28bbf147029aa95b300208a007ab04a12b6c13a0e057a2a5fe72be6ff4186d03", func := "hearsay/hearsaylaw28.StreamReads", spec := "streamReads", unfollowed := true, recurses := true, apart := false, narrowed := true }
def StreamReadsUptoSaid : Prop := streamReadsUptoRow.holds Try.pinned (OpenSpec.upto streamReadsSpec)

/-- 'hearsaylaw28.StreamFrames', WHERE WHAT IT READS IS OF BULK AT MOST 1048576: true; the input reads as it did. -/
def streamFramesUptoRow : OpenClaim := { program := "ytmifnmnpihikgaa", sum := "28bbf147029aa95b300208a007ab04a12b6c13a0e057a2a5fe72be6ff4186d03", func := "hearsay/hearsaylaw28.StreamFrames", spec := "streamFrames", unfollowed := true, recurses := true, apart := false, narrowed := true }
def StreamFramesUptoSaid : Prop := streamFramesUptoRow.holds Try.pinned (OpenSpec.upto streamFramesSpec)

/-- 'hearsaylaw28.StreamAnyhow', WHERE WHAT IT READS IS OF BULK AT MOST 1048576: true; the input reads as it did. -/
def streamAnyhowUptoRow : OpenClaim := { program := "ytmifnmnpihikgaa", sum := "28bbf147029aa95b300208a007ab04a12b6c13a0e057a2a5fe72be6ff4186d03", func := "hearsay/hearsaylaw28.StreamAnyhow", spec := "streamAnyhow", unfollowed := true, recurses := true, apart := false, narrowed := true }
def StreamAnyhowUptoSaid : Prop := streamAnyhowUptoRow.holds Try.pinned (OpenSpec.upto streamAnyhowSpec)

/-- 'hearsaylaw28.StreamAll', WHERE WHAT IT READS IS OF BULK AT MOST 1048576: true; the input reads as it did. -/
def streamAllUptoRow : OpenClaim := { program := "ytmifnmnpihikgaa", sum := "28bbf147029aa95b300208a007ab04a12b6c13a0e057a2a5fe72be6ff4186d03", func := "hearsay/hearsaylaw28.StreamAll", spec := "streamAll", unfollowed := true, recurses := true, apart := false, narrowed := true }
def StreamAllUptoSaid : Prop := streamAllUptoRow.holds Try.pinned (OpenSpec.upto streamAllSpec)

/-- 'hearsaylaw28.StreamCollects', WHERE WHAT IT READS IS OF BULK AT MOST 1048576: true; the input reads as it did. -/
def streamCollectsUptoRow : OpenClaim := { program := "ytmifnmnpihikgaa", sum := "28bbf147029aa95b300208a007ab04a12b6c13a0e057a2a5fe72be6ff4186d03", func := "hearsay/hearsaylaw28.StreamCollects", spec := "streamCollects", unfollowed := true, recurses := true, apart := false, narrowed := true }
def StreamCollectsUptoSaid : Prop := streamCollectsUptoRow.holds Try.pinned (OpenSpec.upto streamCollectsSpec)

end Rows
end Go.Proofs.Ytmifnmnpihikgaa
