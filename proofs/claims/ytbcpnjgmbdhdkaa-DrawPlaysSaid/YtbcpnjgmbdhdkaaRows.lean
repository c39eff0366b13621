/-
  No cell of these rows narrows 'for every input' (looked for: loops, veiled, ifaces, maps, wideKeys, modest, calm, conditions, laid).
  DERIVED. THE GIVEN ROWS OF THIS SEAT. 5 by the template 'for every input the law returns true; each argument reads behind the call as it read before'; 0 by the template 'total and deterministic' (their statements: YtbcpnjgmbdhdkaaTotals.lean).
  GIVEN WITH THE SEED: the statements are not yours to turn. If you find one false, say at which input.
  Laid BY PROGRAM, IN A SANDBOX (cutbox-rows.mjs): the forced cells as the released guide's own fill.sh prints them over the translation beff6c417e30e22e… (all of the seat's roots in one cut). By AI agents, Wed Nov 11 2026. No macro, syntax, notation, axiom, sorry.
-/
import Derived.Test.YtbcpnjgmbdhdkaaChecked
import GoSem.Claim
import GoSem.ClaimJoined
import GoSem.ClaimMapViews
import Derived.JoinedTies
import Derived.KernelRfl
namespace Go.Proofs.Ytbcpnjgmbdhdkaa
/- THE CELL 'sum', in the pinned program and in every row, IS THE sha256 OF THE DUMP (.gsa) THAT YtbcpnjgmbdhdkaaProg.lean LOADS. Nothing in Lean hashes anything: it is a label: what it is worth is what the hold of that sum in a sandbox is worth. -/
noncomputable def Try.pinned : Pinned := { name := "ytbcpnjgmbdhdkaa", sum := "beff6c417e30e22e7ca3975cc94990b8b29cd0e493fde99e3841642cd973c88c", checked := Try.checked }
namespace Rows
def none {H : Type} : Left H := { results := [], args := [] }

/-- 'hearsaylaw15.DrawAny': WHATEVER THE INPUT: true; the input reads as it did. -/
def drawAnySpec : ChangeSpec := { name := "drawAny", fn := fun _ => fun
  | [d] => { results := [.lit (.bool true)], args := [d] }
  | _ => none }
def drawAnyRow : OpenClaim := { program := "ytbcpnjgmbdhdkaa", sum := "beff6c417e30e22e7ca3975cc94990b8b29cd0e493fde99e3841642cd973c88c", func := "hearsay/hearsaylaw15.DrawAny", spec := "drawAny", apart := false }
def DrawAnySaid : Prop := drawAnyRow.holds Try.pinned (OpenSpec.ofChange drawAnySpec)

/-- ITS FALSE NEIGHBOUR: 'it returns false'. Refute it at one input. -/
def drawAnyWrong : ChangeSpec := { name := "drawAny", fn := fun _ => fun
  | [d] => { results := [.lit (.bool false)], args := [d] }
  | _ => none }
def DrawAnyWrongFalsely : Prop := drawAnyRow.holds Try.pinned (OpenSpec.ofChange drawAnyWrong)

/-- 'hearsaylaw15.DrawFair': WHATEVER THE INPUT: true; the input reads as it did. -/
def drawFairSpec : ChangeSpec := { name := "drawFair", fn := fun _ => fun
  | [d] => { results := [.lit (.bool true)], args := [d] }
  | _ => none }
def drawFairRow : OpenClaim := { program := "ytbcpnjgmbdhdkaa", sum := "beff6c417e30e22e7ca3975cc94990b8b29cd0e493fde99e3841642cd973c88c", func := "hearsay/hearsaylaw15.DrawFair", spec := "drawFair", apart := false }
def DrawFairSaid : Prop := drawFairRow.holds Try.pinned (OpenSpec.ofChange drawFairSpec)

/-- ITS FALSE NEIGHBOUR: 'it returns false'. Refute it at one input. -/
def drawFairWrong : ChangeSpec := { name := "drawFair", fn := fun _ => fun
  | [d] => { results := [.lit (.bool false)], args := [d] }
  | _ => none }
def DrawFairWrongFalsely : Prop := drawFairRow.holds Try.pinned (OpenSpec.ofChange drawFairWrong)

/-- 'hearsaylaw15.DrawRows': WHATEVER THE INPUT: true; the input reads as it did. -/
def drawRowsSpec : ChangeSpec := { name := "drawRows", fn := fun _ => fun
  | [d1, d2] => { results := [.lit (.bool true)], args := [d1, d2] }
  | _ => none }
def drawRowsRow : OpenClaim := { program := "ytbcpnjgmbdhdkaa", sum := "beff6c417e30e22e7ca3975cc94990b8b29cd0e493fde99e3841642cd973c88c", func := "hearsay/hearsaylaw15.DrawRows", spec := "drawRows", apart := false }
def DrawRowsSaid : Prop := drawRowsRow.holds Try.pinned (OpenSpec.ofChange drawRowsSpec)

/-- ITS FALSE NEIGHBOUR: 'it returns false'. Refute it at one input. -/
def drawRowsWrong : ChangeSpec := { name := "drawRows", fn := fun _ => fun
  | [d1, d2] => { results := [.lit (.bool false)], args := [d1, d2] }
  | _ => none }
def DrawRowsWrongFalsely : Prop := drawRowsRow.holds Try.pinned (OpenSpec.ofChange drawRowsWrong)

/-- 'hearsaylaw15.DrawPlays': WHATEVER THE INPUT: true; the input reads as it did. -/
def drawPlaysSpec : ChangeSpec := { name := "drawPlays", fn := fun _ => fun
  | [d1, d2] => { results := [.lit (.bool true)], args := [d1, d2] }
  | _ => none }
def drawPlaysRow : OpenClaim := { program := "ytbcpnjgmbdhdkaa", sum := "beff6c417e30e22e7ca3975cc94990b8b29cd0e493fde99e3841642cd973c88c", func := "hearsay/hearsaylaw15.DrawPlays", spec := "drawPlays", apart := false }
def DrawPlaysSaid : Prop := drawPlaysRow.holds Try.pinned (OpenSpec.ofChange drawPlaysSpec)

/-- ITS FALSE NEIGHBOUR: 'it returns false'. Refute it at one input. -/
def drawPlaysWrong : ChangeSpec := { name := "drawPlays", fn := fun _ => fun
  | [d1, d2] => { results := [.lit (.bool false)], args := [d1, d2] }
  | _ => none }
def DrawPlaysWrongFalsely : Prop := drawPlaysRow.holds Try.pinned (OpenSpec.ofChange drawPlaysWrong)

/-- 'hearsaylaw15.DrawNil': WHATEVER THE INPUT: true; the input reads as it did. -/
def drawNilSpec : ChangeSpec := { name := "drawNil", fn := fun _ => fun
  | [d1, d2] => { results := [.lit (.bool true)], args := [d1, d2] }
  | _ => none }
def drawNilRow : OpenClaim := { program := "ytbcpnjgmbdhdkaa", sum := "beff6c417e30e22e7ca3975cc94990b8b29cd0e493fde99e3841642cd973c88c", func := "hearsay/hearsaylaw15.DrawNil", spec := "drawNil", apart := false }
def DrawNilSaid : Prop := drawNilRow.holds Try.pinned (OpenSpec.ofChange drawNilSpec)

/-- ITS FALSE NEIGHBOUR: 'it returns false'. Refute it at one input. -/
def drawNilWrong : ChangeSpec := { name := "drawNil", fn := fun _ => fun
  | [d1, d2] => { results := [.lit (.bool false)], args := [d1, d2] }
  | _ => none }
def DrawNilWrongFalsely : Prop := drawNilRow.holds Try.pinned (OpenSpec.ofChange drawNilWrong)

/- THE SECOND FORM. 'bulk': how many values and letters a reading holds, each counted each time it is reached (what is shared counts as often as it is met; a slice's spare places count too). A statement '..UptoSaid' is the law's where the arguments, and the package variables that the reading takes, are together of bulk at most 1048576: NARROWER than '..Said'. Prove '..Said' where nothing that the law and all that it calls make is longer than what came in: it says more and counts as full. Else prove '..UptoSaid'. A law counts once. -/
mutual
def uptoBulk {H : Type} : DataW H → Nat
  | .lit (.string bytes) => bytes.length + 1
  | .lit _ => 1
  | .nil => 1
  | .ptr d => uptoBulk d + 1
  | .slice elems spare => uptoBulkAll elems + uptoBulkAll spare + 1
  | .agg parts => uptoBulkAll parts + 1
  | .iface _ d => uptoBulk d + 1
  | .map entries => uptoBulkEntries entries + 1
  | .held _ => 1
def uptoBulkAll {H : Type} : List (DataW H) → Nat
  | [] => 0
  | d :: r => uptoBulk d + uptoBulkAll r
def uptoBulkEntries {H : Type} : List (Lit × DataW H) → Nat
  | [] => 0
  | x :: r => uptoBulkEntry x + uptoBulkEntries r
def uptoBulkEntry {H : Type} : Lit × DataW H → Nat
  | (.string bytes, d) => bytes.length + uptoBulk d + 1
  | (_, d) => uptoBulk d + 1
 end
def uptoSmall : (H : Type) → List (DataW H) → Bool := fun _ ds => decide (uptoBulkAll ds ≤ 1048576)
def OpenSpec.upto (s : _root_.Go.ChangeSpec) : _root_.Go.OpenSpec := { _root_.Go.OpenSpec.ofChange s with cond := some uptoSmall }

/-- 'hearsaylaw15.DrawAny', WHERE WHAT IT READS IS OF BULK AT MOST 1048576: true; the input reads as it did. -/
def drawAnyUptoRow : OpenClaim := { program := "ytbcpnjgmbdhdkaa", sum := "beff6c417e30e22e7ca3975cc94990b8b29cd0e493fde99e3841642cd973c88c", func := "hearsay/hearsaylaw15.DrawAny", spec := "drawAny", apart := false, narrowed := true }
def DrawAnyUptoSaid : Prop := drawAnyUptoRow.holds Try.pinned (OpenSpec.upto drawAnySpec)

/-- 'hearsaylaw15.DrawFair', WHERE WHAT IT READS IS OF BULK AT MOST 1048576: true; the input reads as it did. -/
def drawFairUptoRow : OpenClaim := { program := "ytbcpnjgmbdhdkaa", sum := "beff6c417e30e22e7ca3975cc94990b8b29cd0e493fde99e3841642cd973c88c", func := "hearsay/hearsaylaw15.DrawFair", spec := "drawFair", apart := false, narrowed := true }
def DrawFairUptoSaid : Prop := drawFairUptoRow.holds Try.pinned (OpenSpec.upto drawFairSpec)

/-- 'hearsaylaw15.DrawRows', WHERE WHAT IT READS IS OF BULK AT MOST 1048576: true; the input reads as it did. -/
def drawRowsUptoRow : OpenClaim := { program := "ytbcpnjgmbdhdkaa", sum := "beff6c417e30e22e7ca3975cc94990b8b29cd0e493fde99e3841642cd973c88c", func := "hearsay/hearsaylaw15.DrawRows", spec := "drawRows", apart := false, narrowed := true }
def DrawRowsUptoSaid : Prop := drawRowsUptoRow.holds Try.pinned (OpenSpec.upto drawRowsSpec)

/-- 'hearsaylaw15.DrawPlays', WHERE WHAT IT READS IS OF BULK AT MOST 1048576: true; the input reads as it did. -/
def drawPlaysUptoRow : OpenClaim := { program := "ytbcpnjgmbdhdkaa", sum := "beff6c417e30e22e7ca3975cc94990b8b29cd0e493fde99e3841642cd973c88c", func := "hearsay/hearsaylaw15.DrawPlays", spec := "drawPlays", apart := false, narrowed := true }
def DrawPlaysUptoSaid : Prop := drawPlaysUptoRow.holds Try.pinned (OpenSpec.upto drawPlaysSpec)

/-- 'hearsaylaw15.DrawNil', WHERE WHAT IT READS IS OF BULK AT MOST 1048576: true; the input reads as it did. -/
def drawNilUptoRow : OpenClaim := { program := "ytbcpnjgmbdhdkaa", sum := "beff6c417e30e22e7ca3975cc94990b8b29cd0e493fde99e3841642cd973c88c", func := "hearsay/hearsaylaw15.DrawNil", spec := "drawNil", apart := false, narrowed := true }
def DrawNilUptoSaid : Prop := drawNilUptoRow.holds Try.pinned (OpenSpec.upto drawNilSpec)

end Rows
end Go.Proofs.Ytbcpnjgmbdhdkaa
