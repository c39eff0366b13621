/-
  No cell of these rows narrows 'for every input' (looked for: loops, veiled, ifaces, maps, wideKeys, modest, calm, conditions, laid).
  DERIVED. THE GIVEN ROWS OF THIS SEAT. 6 by the template 'for every input the law returns true; each argument reads behind the call as it read before'; 0 by the template 'total and deterministic' (their statements: YtobfahafpmipfaaTotals.lean).
  GIVEN WITH THE SEED: the statements are not yours to turn. If you find one false, say at which input.
  Laid BY PROGRAM, IN A SANDBOX (cutbox-rows.mjs): the forced cells as the released guide's own fill.sh prints them over the translation 803593c439826e61… (all of the seat's roots in one cut). By AI agents, Wed Nov 11 2026. No macro, syntax, notation, axiom, sorry.
-/
import Derived.Test.YtobfahafpmipfaaChecked
import GoSem.Claim
import GoSem.ClaimJoined
import GoSem.ClaimMapViews
import Derived.JoinedTies
import Derived.KernelRfl
namespace Go.Proofs.Ytobfahafpmipfaa
/- THE CELL 'sum', in the pinned program and in every row, IS THE sha256 OF THE DUMP (.gsa) THAT YtobfahafpmipfaaProg.lean LOADS. Nothing in Lean hashes anything: it is a label: what it is worth is what the hold of that sum in a sandbox is worth. -/
noncomputable def Try.pinned : Pinned := { name := "ytobfahafpmipfaa", sum := "803593c439826e6122800b49ec5ca164dcad0cedb6e4f2af454b7bce9db6512e", checked := Try.checked }
namespace Rows
def none {H : Type} : Left H := { results := [], args := [] }

/-- 'hearsaylaw03.PressTakes': WHATEVER THE INPUT: true; the input reads as it did. -/
def pressTakesSpec : ChangeSpec := { name := "pressTakes", fn := fun _ => fun
  | [d1, d2] => { results := [.lit (.bool true)], args := [d1, d2] }
  | _ => none }
def pressTakesRow : OpenClaim := { program := "ytobfahafpmipfaa", sum := "803593c439826e6122800b49ec5ca164dcad0cedb6e4f2af454b7bce9db6512e", func := "hearsay/hearsaylaw03.PressTakes", spec := "pressTakes", unfollowed := true, recurses := true, apart := false }
def PressTakesSaid : Prop := pressTakesRow.holds Try.pinned (OpenSpec.ofChange pressTakesSpec)

/-- ITS FALSE NEIGHBOUR: 'it returns false'. Refute it at one input. -/
def pressTakesWrong : ChangeSpec := { name := "pressTakes", fn := fun _ => fun
  | [d1, d2] => { results := [.lit (.bool false)], args := [d1, d2] }
  | _ => none }
def PressTakesWrongFalsely : Prop := pressTakesRow.holds Try.pinned (OpenSpec.ofChange pressTakesWrong)

/-- 'hearsaylaw03.PressSound': WHATEVER THE INPUT: true; the input reads as it did. -/
def pressSoundSpec : ChangeSpec := { name := "pressSound", fn := fun _ => fun
  | [d1, d2] => { results := [.lit (.bool true)], args := [d1, d2] }
  | _ => none }
def pressSoundRow : OpenClaim := { program := "ytobfahafpmipfaa", sum := "803593c439826e6122800b49ec5ca164dcad0cedb6e4f2af454b7bce9db6512e", func := "hearsay/hearsaylaw03.PressSound", spec := "pressSound", unfollowed := true, recurses := true, apart := false }
def PressSoundSaid : Prop := pressSoundRow.holds Try.pinned (OpenSpec.ofChange pressSoundSpec)

/-- ITS FALSE NEIGHBOUR: 'it returns false'. Refute it at one input. -/
def pressSoundWrong : ChangeSpec := { name := "pressSound", fn := fun _ => fun
  | [d1, d2] => { results := [.lit (.bool false)], args := [d1, d2] }
  | _ => none }
def PressSoundWrongFalsely : Prop := pressSoundRow.holds Try.pinned (OpenSpec.ofChange pressSoundWrong)

/-- 'hearsaylaw03.PressPuts': WHATEVER THE INPUT: true; the input reads as it did. -/
def pressPutsSpec : ChangeSpec := { name := "pressPuts", fn := fun _ => fun
  | [d] => { results := [.lit (.bool true)], args := [d] }
  | _ => none }
def pressPutsRow : OpenClaim := { program := "ytobfahafpmipfaa", sum := "803593c439826e6122800b49ec5ca164dcad0cedb6e4f2af454b7bce9db6512e", func := "hearsay/hearsaylaw03.PressPuts", spec := "pressPuts", unfollowed := true, recurses := true, apart := false }
def PressPutsSaid : Prop := pressPutsRow.holds Try.pinned (OpenSpec.ofChange pressPutsSpec)

/-- ITS FALSE NEIGHBOUR: 'it returns false'. Refute it at one input. -/
def pressPutsWrong : ChangeSpec := { name := "pressPuts", fn := fun _ => fun
  | [d] => { results := [.lit (.bool false)], args := [d] }
  | _ => none }
def PressPutsWrongFalsely : Prop := pressPutsRow.holds Try.pinned (OpenSpec.ofChange pressPutsWrong)

/-- 'hearsaylaw03.PressTwice': WHATEVER THE INPUT: true; the input reads as it did. -/
def pressTwiceSpec : ChangeSpec := { name := "pressTwice", fn := fun _ => fun
  | [d1, d2] => { results := [.lit (.bool true)], args := [d1, d2] }
  | _ => none }
def pressTwiceRow : OpenClaim := { program := "ytobfahafpmipfaa", sum := "803593c439826e6122800b49ec5ca164dcad0cedb6e4f2af454b7bce9db6512e", func := "hearsay/hearsaylaw03.PressTwice", spec := "pressTwice", unfollowed := true, recurses := true, apart := false }
def PressTwiceSaid : Prop := pressTwiceRow.holds Try.pinned (OpenSpec.ofChange pressTwiceSpec)

/-- ITS FALSE NEIGHBOUR: 'it returns false'. Refute it at one input. -/
def pressTwiceWrong : ChangeSpec := { name := "pressTwice", fn := fun _ => fun
  | [d1, d2] => { results := [.lit (.bool false)], args := [d1, d2] }
  | _ => none }
def PressTwiceWrongFalsely : Prop := pressTwiceRow.holds Try.pinned (OpenSpec.ofChange pressTwiceWrong)

/-- 'hearsaylaw03.PressNil': WHATEVER THE INPUT: true; the input reads as it did. -/
def pressNilSpec : ChangeSpec := { name := "pressNil", fn := fun _ => fun
  | [d1, d2] => { results := [.lit (.bool true)], args := [d1, d2] }
  | _ => none }
def pressNilRow : OpenClaim := { program := "ytobfahafpmipfaa", sum := "803593c439826e6122800b49ec5ca164dcad0cedb6e4f2af454b7bce9db6512e", func := "hearsay/hearsaylaw03.PressNil", spec := "pressNil", unfollowed := true, recurses := true, apart := false }
def PressNilSaid : Prop := pressNilRow.holds Try.pinned (OpenSpec.ofChange pressNilSpec)

/-- ITS FALSE NEIGHBOUR: 'it returns false'. Refute it at one input. -/
def pressNilWrong : ChangeSpec := { name := "pressNil", fn := fun _ => fun
  | [d1, d2] => { results := [.lit (.bool false)], args := [d1, d2] }
  | _ => none }
def PressNilWrongFalsely : Prop := pressNilRow.holds Try.pinned (OpenSpec.ofChange pressNilWrong)

/-- 'hearsaylaw03.PressBack': WHATEVER THE INPUT: true; the input reads as it did. -/
def pressBackSpec : ChangeSpec := { name := "pressBack", fn := fun _ => fun
  | [d1, d2] => { results := [.lit (.bool true)], args := [d1, d2] }
  | _ => none }
def pressBackRow : OpenClaim := { program := "ytobfahafpmipfaa", sum := "803593c439826e6122800b49ec5ca164dcad0cedb6e4f2af454b7bce9db6512e", func := "hearsay/hearsaylaw03.PressBack", spec := "pressBack", unfollowed := true, recurses := true, apart := false }
def PressBackSaid : Prop := pressBackRow.holds Try.pinned (OpenSpec.ofChange pressBackSpec)

/-- ITS FALSE NEIGHBOUR: 'it returns false'. Refute it at one input. -/
def pressBackWrong : ChangeSpec := { name := "pressBack", fn := fun _ => fun
  | [d1, d2] => { results := [.lit (.bool false)], args := [d1, d2] }
  | _ => none }
def PressBackWrongFalsely : Prop := pressBackRow.holds Try.pinned (OpenSpec.ofChange pressBackWrong)

/- THE SECOND FORM. 'bulk': how many values and letters a reading holds, each counted each time it is reached (what is shared counts as often as it is met; a slice's spare places count too). A statement '..UptoSaid' is the law's where the arguments, and the package variables that the reading takes, are together of bulk at most 1048576: NARROWER than '..Said'. Prove '..Said' where nothing that the law and all that it calls make is longer than what came in: it says more and counts as full. Else prove '..UptoSaid'. A law counts once. -/
mutual
def uptoBulk {H : Type} : DataW H → Nat
  | .lit (.string bytes) => bytes.length + 1
  | .lit _ => 1
  | .nil => 1
  | .ptr d => uptoBulk d + 1
  | .slice elems spare => uptoBulkAll elems + uptoBulkAll spare + 1
  | .agg parts => uptoBulkAll parts + 1
  | .iface _ d => uptoBulk d + 1
  | .map entries => uptoBulkEntries entries + 1
  | .held _ => 1
def uptoBulkAll {H : Type} : List (DataW H) → Nat
  | [] => 0
  | d :: r => uptoBulk d + uptoBulkAll r
def uptoBulkEntries {H : Type} : List (Lit × DataW H) → Nat
  | [] => 0
  | x :: r => uptoBulkEntry x + uptoBulkEntries r
def uptoBulkEntry {H : Type} : Lit × DataW H → Nat
  | (.string bytes, d) => bytes.length + uptoBulk d + 1
  | (_, d) => uptoBulk d + 1
 end
def uptoSmall : (H : Type) → List (DataW H) → Bool := fun _ ds => decide (uptoBulkAll ds ≤ 1048576)
def OpenSpec.upto (s : _root_.Go.ChangeSpec) : _root_.Go.OpenSpec := { _root_.Go.OpenSpec.ofChange s with cond := some uptoSmall }

/-- 'hearsaylaw03.PressTakes', WHERE WHAT IT READS IS OF BULK AT MOST 1048576: true; the input reads as it did. -/
def pressTakesUptoRow : OpenClaim := { program := "ytobfahafpmipfaa", sum := "803593c439826e6122800b49ec5ca164dcad0cedb6e4f2af454b7bce9db6512e", func := "hearsay/hearsaylaw03.PressTakes", spec := "pressTakes", unfollowed := true, recurses := true, apart := false, narrowed := true }
def PressTakesUptoSaid : Prop := pressTakesUptoRow.holds Try.pinned (OpenSpec.upto pressTakesSpec)

/-- 'hearsaylaw03.PressSound', WHERE WHAT IT READS IS OF BULK AT MOST 1048576: true; the input reads as it did. -/
def pressSoundUptoRow : OpenClaim := { program := "ytobfahafpmipfaa", sum := "803593c439826e6122800b49ec5ca164dcad0cedb6e4f2af454b7bce9db6512e", func := "hearsay/hearsaylaw03.PressSound", spec := "pressSound", unfollowed := true, recurses := true, apart := false, narrowed := true }
def PressSoundUptoSaid : Prop := pressSoundUptoRow.holds Try.pinned (OpenSpec.upto pressSoundSpec)

/-- 'hearsaylaw03.PressPuts', WHERE WHAT IT READS IS OF BULK AT MOST 1048576: true; the input reads as it did. -/
def pressPutsUptoRow : OpenClaim := { program := "ytobfahafpmipfaa", sum := "803593c439826e6122800b49ec5ca164dcad0cedb6e4f2af454b7bce9db6512e", func := "hearsay/hearsaylaw03.PressPuts", spec := "pressPuts", unfollowed := true, recurses := true, apart := false, narrowed := true }
def PressPutsUptoSaid : Prop := pressPutsUptoRow.holds Try.pinned (OpenSpec.upto pressPutsSpec)

/-- 'hearsaylaw03.PressTwice', WHERE WHAT IT READS IS OF BULK AT MOST 1048576: true; the input reads as it did. -/
def pressTwiceUptoRow : OpenClaim := { program := "ytobfahafpmipfaa", sum := "803593c439826e6122800b49ec5ca164dcad0cedb6e4f2af454b7bce9db6512e", func := "hearsay/hearsaylaw03.PressTwice", spec := "pressTwice", unfollowed := true, recurses := true, apart := false, narrowed := true }
def PressTwiceUptoSaid : Prop := pressTwiceUptoRow.holds Try.pinned (OpenSpec.upto pressTwiceSpec)

/-- 'hearsaylaw03.PressNil', WHERE WHAT IT READS IS OF BULK AT MOST 1048576: true; the input reads as it did. -/
def pressNilUptoRow : OpenClaim := { program := "ytobfahafpmipfaa", sum := "803593c439826e6122800b49ec5ca164dcad0cedb6e4f2af454b7bce9db6512e", func := "hearsay/hearsaylaw03.PressNil", spec := "pressNil", unfollowed := true, recurses := true, apart := false, narrowed := true }
def PressNilUptoSaid : Prop := pressNilUptoRow.holds Try.pinned (OpenSpec.upto pressNilSpec)

/-- 'hearsaylaw03.PressBack', WHERE WHAT IT READS IS OF BULK AT MOST 1048576: true; the input reads as it did. -/
def pressBackUptoRow : OpenClaim := { program := "ytobfahafpmipfaa", sum := "803593c439826e6122800b49ec5ca164dcad0cedb6e4f2af454b7bce9db6512e", func := "hearsay/hearsaylaw03.PressBack", spec := "pressBack", unfollowed := true, recurses := true, apart := false, narrowed := true }
def PressBackUptoSaid : Prop := pressBackUptoRow.holds Try.pinned (OpenSpec.upto pressBackSpec)

end Rows
end Go.Proofs.Ytobfahafpmipfaa
