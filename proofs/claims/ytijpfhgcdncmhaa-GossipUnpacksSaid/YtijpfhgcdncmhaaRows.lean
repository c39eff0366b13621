/-
  No cell of these rows narrows 'for every input' (looked for: loops, veiled, ifaces, maps, wideKeys, modest, calm, conditions, laid).
  DERIVED. THE GIVEN ROWS OF THIS SEAT. 4 by the template 'for every input the law returns true; each argument reads behind the call as it read before'; 0 by the template 'total and deterministic' (their statements: YtijpfhgcdncmhaaTotals.lean).
  GIVEN WITH THE SEED: the statements are not yours to turn. If you find one false, say at which input.
  Laid BY PROGRAM, IN A SANDBOX (cutbox-rows.mjs): the forced cells as the released guide's own fill.sh prints them over the translation c59412dc3a73b51e… (all of the seat's roots in one cut). By AI agents, Wed Nov 11 2026. No macro, syntax, notation, axiom, sorry.
-/
import Derived.Test.YtijpfhgcdncmhaaChecked
import GoSem.Claim
import GoSem.ClaimJoined
import GoSem.ClaimMapViews
import Derived.JoinedTies
import Derived.KernelRfl
namespace Go.Proofs.Ytijpfhgcdncmhaa
/- THE CELL 'sum', in the pinned program and in every row, IS THE sha256 OF THE DUMP (.gsa) THAT YtijpfhgcdncmhaaProg.lean LOADS. Nothing in Lean hashes anything: it is a label: what it is worth is what the hold of that sum in a sandbox is worth. -/
noncomputable def Try.pinned : Pinned := { name := "ytijpfhgcdncmhaa", sum := "c59412dc3a73b51ec7b44347aea06e70bd163bcf65a468f30e56a552454daf7f", checked := Try.checked }
namespace Rows
def none {H : Type} : Left H := { results := [], args := [] }

/-- 'hearsaylaw19.GossipPacks': WHATEVER THE INPUT: true; the input reads as it did. -/
def gossipPacksSpec : ChangeSpec := { name := "gossipPacks", fn := fun _ => fun
  | [d] => { results := [.lit (.bool true)], args := [d] }
  | _ => none }
def gossipPacksRow : OpenClaim := { program := "ytijpfhgcdncmhaa", sum := "c59412dc3a73b51ec7b44347aea06e70bd163bcf65a468f30e56a552454daf7f", func := "hearsay/hearsaylaw19.GossipPacks", spec := "gossipPacks", unfollowed := true, recurses := true, apart := false }
def GossipPacksSaid : Prop := gossipPacksRow.holds Try.pinned (OpenSpec.ofChange gossipPacksSpec)

/-- ITS FALSE NEIGHBOUR: 'it returns false'. Refute it at one input. -/
def gossipPacksWrong : ChangeSpec := { name := "gossipPacks", fn := fun _ => fun
  | [d] => { results := [.lit (.bool false)], args := [d] }
  | _ => none }
def GossipPacksWrongFalsely : Prop := gossipPacksRow.holds Try.pinned (OpenSpec.ofChange gossipPacksWrong)

/-- 'hearsaylaw19.GossipUnpacks': WHATEVER THE INPUT: true; the input reads as it did. -/
def gossipUnpacksSpec : ChangeSpec := { name := "gossipUnpacks", fn := fun _ => fun
  | [d] => { results := [.lit (.bool true)], args := [d] }
  | _ => none }
def gossipUnpacksRow : OpenClaim := { program := "ytijpfhgcdncmhaa", sum := "c59412dc3a73b51ec7b44347aea06e70bd163bcf65a468f30e56a552454daf7f", func := "hearsay/hearsaylaw19.GossipUnpacks", spec := "gossipUnpacks", unfollowed := true, recurses := true, apart := false }
def GossipUnpacksSaid : Prop := gossipUnpacksRow.holds Try.pinned (OpenSpec.ofChange gossipUnpacksSpec)

/-- ITS FALSE NEIGHBOUR: 'it returns false'. Refute it at one input. -/
def gossipUnpacksWrong : ChangeSpec := { name := "gossipUnpacks", fn := fun _ => fun
  | [d] => { results := [.lit (.bool false)], args := [d] }
  | _ => none }
def GossipUnpacksWrongFalsely : Prop := gossipUnpacksRow.holds Try.pinned (OpenSpec.ofChange gossipUnpacksWrong)

/-- 'hearsaylaw19.GossipBack': WHATEVER THE INPUT: true; the input reads as it did. -/
def gossipBackSpec : ChangeSpec := { name := "gossipBack", fn := fun _ => fun
  | [d] => { results := [.lit (.bool true)], args := [d] }
  | _ => none }
def gossipBackRow : OpenClaim := { program := "ytijpfhgcdncmhaa", sum := "c59412dc3a73b51ec7b44347aea06e70bd163bcf65a468f30e56a552454daf7f", func := "hearsay/hearsaylaw19.GossipBack", spec := "gossipBack", unfollowed := true, recurses := true, apart := false }
def GossipBackSaid : Prop := gossipBackRow.holds Try.pinned (OpenSpec.ofChange gossipBackSpec)

/-- ITS FALSE NEIGHBOUR: 'it returns false'. Refute it at one input. -/
def gossipBackWrong : ChangeSpec := { name := "gossipBack", fn := fun _ => fun
  | [d] => { results := [.lit (.bool false)], args := [d] }
  | _ => none }
def GossipBackWrongFalsely : Prop := gossipBackRow.holds Try.pinned (OpenSpec.ofChange gossipBackWrong)

/-- 'hearsaylaw19.GossipOne': WHATEVER THE INPUT: true; the input reads as it did. -/
def gossipOneSpec : ChangeSpec := { name := "gossipOne", fn := fun _ => fun
  | [d] => { results := [.lit (.bool true)], args := [d] }
  | _ => none }
def gossipOneRow : OpenClaim := { program := "ytijpfhgcdncmhaa", sum := "c59412dc3a73b51ec7b44347aea06e70bd163bcf65a468f30e56a552454daf7f", func := "hearsay/hearsaylaw19.GossipOne", spec := "gossipOne", unfollowed := true, recurses := true, apart := false }
def GossipOneSaid : Prop := gossipOneRow.holds Try.pinned (OpenSpec.ofChange gossipOneSpec)

/-- ITS FALSE NEIGHBOUR: 'it returns false'. Refute it at one input. -/
def gossipOneWrong : ChangeSpec := { name := "gossipOne", fn := fun _ => fun
  | [d] => { results := [.lit (.bool false)], args := [d] }
  | _ => none }
def GossipOneWrongFalsely : Prop := gossipOneRow.holds Try.pinned (OpenSpec.ofChange gossipOneWrong)

/- THE SECOND FORM. 'bulk': how many values and letters a reading holds, each counted each time it is reached (what is shared counts as often as it is met; a slice's spare places count too). A statement '..UptoSaid' is the law's where the arguments, and the package variables that the reading takes, are together of bulk at most 1048576: NARROWER than '..Said'. Prove '..Said' where nothing that the law and all that it calls make is longer than what came in: it says more and counts as full. Else prove '..UptoSaid'. A law counts once. -/
mutual
def uptoBulk {H : Type} : DataW H → Nat
  | .lit (.string bytes) => bytes.length + 1
  | .lit _ => 1
  | .nil => 1
  | .ptr d => uptoBulk d + 1
  | .slice elems spare => uptoBulkAll elems + uptoBulkAll spare + 1
  | .agg parts => uptoBulkAll parts + 1
  | .iface _ d => uptoBulk d + 1
  | .map entries => uptoBulkEntries entries + 1
  | .held _ => 1
def uptoBulkAll {H : Type} : List (DataW H) → Nat
  | [] => 0
  | d :: r => uptoBulk d + uptoBulkAll r
def uptoBulkEntries {H : Type} : List (Lit × DataW H) → Nat
  | [] => 0
  | x :: r => uptoBulkEntry x + uptoBulkEntries r
def uptoBulkEntry {H : Type} : Lit × DataW H → Nat
  | (.string bytes, d) => bytes.length + uptoBulk d + 1
  | (_, d) => uptoBulk d + 1
 end
def uptoSmall : (H : Type) → List (DataW H) → Bool := fun _ ds => decide (uptoBulkAll ds ≤ 1048576)
def OpenSpec.upto (s : _root_.Go.ChangeSpec) : _root_.Go.OpenSpec := { _root_.Go.OpenSpec.ofChange s with cond := some uptoSmall }

/-- 'hearsaylaw19.GossipPacks', WHERE WHAT IT READS IS OF BULK AT MOST 1048576: true; the input reads as it did. -/
def gossipPacksUptoRow : OpenClaim := { program := "ytijpfhgcdncmhaa", sum := "c59412dc3a73b51ec7b44347aea06e70bd163bcf65a468f30e56a552454daf7f", func := "hearsay/hearsaylaw19.GossipPacks", spec := "gossipPacks", unfollowed := true, recurses := true, apart := false, narrowed := true }
def GossipPacksUptoSaid : Prop := gossipPacksUptoRow.holds Try.pinned (OpenSpec.upto gossipPacksSpec)

/-- 'hearsaylaw19.GossipUnpacks', WHERE WHAT IT READS IS OF BULK AT MOST 1048576: true; the input reads as it did. -/
def gossipUnpacksUptoRow : OpenClaim := { program := "ytijpfhgcdncmhaa", sum := "c59412dc3a73b51ec7b44347aea06e70bd163bcf65a468f30e56a552454daf7f", func := "hearsay/hearsaylaw19.GossipUnpacks", spec := "gossipUnpacks", unfollowed := true, recurses := true, apart := false, narrowed := true }
def GossipUnpacksUptoSaid : Prop := gossipUnpacksUptoRow.holds Try.pinned (OpenSpec.upto gossipUnpacksSpec)

/-- 'hearsaylaw19.GossipBack', WHERE WHAT IT READS IS OF BULK AT MOST 1048576: true; the input reads as it did. -/
def gossipBackUptoRow : OpenClaim := { program := "ytijpfhgcdncmhaa", sum := "c59412dc3a73b51ec7b44347aea06e70bd163bcf65a468f30e56a552454daf7f", func := "hearsay/hearsaylaw19.GossipBack", spec := "gossipBack", unfollowed := true, recurses := true, apart := false, narrowed := true }
def GossipBackUptoSaid : Prop := gossipBackUptoRow.holds Try.pinned (OpenSpec.upto gossipBackSpec)

/-- 'hearsaylaw19.GossipOne', WHERE WHAT IT READS IS OF BULK AT MOST 1048576: true; the input reads as it did. -/
def gossipOneUptoRow : OpenClaim := { program := "ytijpfhgcdncmhaa", sum := "c59412dc3a73b51ec7b44347aea06e70bd163bcf65a468f30e56a552454daf7f", func := "hearsay/hearsaylaw19.GossipOne", spec := "gossipOne", unfollowed := true, recurses := true, apart := false, narrowed := true }
def GossipOneUptoSaid : Prop := gossipOneUptoRow.holds Try.pinned (OpenSpec.upto gossipOneSpec)

end Rows
end Go.Proofs.Ytijpfhgcdncmhaa
