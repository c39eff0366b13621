/-
  NARROWER THAN 'FOR EVERY INPUT', by the rows' own cells (each row's printed sentence says how): MessagePacks: laid · MessageBack: laid · MessageAgain: laid · MessageSize: laid.
  DERIVED. THE GIVEN ROWS OF THIS SEAT. 4 by the template 'for every input the law returns true; each argument reads behind the call as it read before'; 0 by the template 'total and deterministic' (their statements: YtdjknikkiojfhaaDoorTotals.lean).
  GIVEN WITH THE SEED: the statements are not yours to turn. If you find one false, say at which input.
  Laid BY PROGRAM, IN A SANDBOX (cutbox-rows.mjs): the forced cells as the released guide's own fill.sh prints them over the translation a6b0fa6804edecb9… (all of the seat's roots in one cut). By AI agents, Wed Nov 11 2026. No macro, syntax, notation, axiom, sorry.
-/
import Derived.Test.YtdjknikkiojfhaaDoorChecked
import GoSem.Claim
import GoSem.ClaimJoined
import GoSem.ClaimMapViews
import Derived.JoinedTies
import Derived.KernelRfl
namespace Go.Proofs.YtdjknikkiojfhaaDoor
/- THE CELL 'sum', in the pinned program and in every row, IS THE sha256 OF THE DUMP (.gsa) THAT YtdjknikkiojfhaaDoorProg.lean LOADS. Nothing in Lean hashes anything: it is a label: what it is worth is what the hold of that sum in a sandbox is worth. -/
noncomputable def Tryd.pinned : Pinned := { name := "ytdjknikkiojfhaadoor", sum := "a6b0fa6804edecb9948d336ad45890560e7cb60fec77a32375f9cf24876c1d4e", checked := Tryd.checked }
namespace Rows
def none {H : Type} : Left H := { results := [], args := [] }

/- WHAT THE LISTED PACKAGE-LEVEL VARIABLES READ AS WHEN THE CALL BEGINS. Each datum BY PROGRAM (the guide's laid-datum.mjs) off the statement by which the dump's own 'gosem.cut.vars' lays the variable. In a bare row this is a premise. The card (YtdjknikkiojfhaaDoorCards.lean) ties it to the program's text. -/
def laid_hearsay_rdata_kinds {H : Type} : DataW H := .agg [.agg [.lit (.int .u16 1), .lit (.string [65]), .lit (.string [97])], .agg [.lit (.int .u16 2), .lit (.string [78, 83]), .lit (.string [104])], .agg [.lit (.int .u16 5), .lit (.string [67, 78, 65, 77, 69]), .lit (.string [104])], .agg [.lit (.int .u16 6), .lit (.string [83, 79, 65]), .lit (.string [104, 109, 108, 108, 108, 108, 108])], .agg [.lit (.int .u16 12), .lit (.string [80, 84, 82]), .lit (.string [104])], .agg [.lit (.int .u16 15), .lit (.string [77, 88]), .lit (.string [115, 104])], .agg [.lit (.int .u16 16), .lit (.string [84, 88, 84]), .lit (.string [120])], .agg [.lit (.int .u16 28), .lit (.string [65, 65, 65, 65]), .lit (.string [113])], .agg [.lit (.int .u16 33), .lit (.string [83, 82, 86]), .lit (.string [115, 115, 115, 112])]]

/-- 'hearsaylaw06.MessagePacks': WHATEVER THE INPUT: true; the input reads as it did. -/
def messagePacksSpec : ChangeSpec := { name := "messagePacks", fn := fun _ => fun
  | [d] => { results := [.lit (.bool true)], args := [d] }
  | _ => none }
def messagePacksRow : OpenClaim := { program := "ytdjknikkiojfhaadoor", sum := "a6b0fa6804edecb9948d336ad45890560e7cb60fec77a32375f9cf24876c1d4e", func := "hearsay/hearsaylaw06.MessagePacks", spec := "messagePacks", unfollowed := true, recurses := true, named := ["hearsay/rdata.kinds"], plainKeys := false, apart := false, laid := [("hearsay/rdata.kinds", laid_hearsay_rdata_kinds)] }
def MessagePacksSaid : Prop := messagePacksRow.holds Tryd.pinned (OpenSpec.ofChange messagePacksSpec)

/-- ITS FALSE NEIGHBOUR: 'it returns false'. Refute it at one input. -/
def messagePacksWrong : ChangeSpec := { name := "messagePacks", fn := fun _ => fun
  | [d] => { results := [.lit (.bool false)], args := [d] }
  | _ => none }
def MessagePacksWrongFalsely : Prop := messagePacksRow.holds Tryd.pinned (OpenSpec.ofChange messagePacksWrong)

/-- 'hearsaylaw06.MessageBack': WHATEVER THE INPUT: true; the input reads as it did. -/
def messageBackSpec : ChangeSpec := { name := "messageBack", fn := fun _ => fun
  | [d] => { results := [.lit (.bool true)], args := [d] }
  | _ => none }
def messageBackRow : OpenClaim := { program := "ytdjknikkiojfhaadoor", sum := "a6b0fa6804edecb9948d336ad45890560e7cb60fec77a32375f9cf24876c1d4e", func := "hearsay/hearsaylaw06.MessageBack", spec := "messageBack", unfollowed := true, recurses := true, named := ["hearsay/rdata.kinds"], plainKeys := false, apart := false, laid := [("hearsay/rdata.kinds", laid_hearsay_rdata_kinds)] }
def MessageBackSaid : Prop := messageBackRow.holds Tryd.pinned (OpenSpec.ofChange messageBackSpec)

/-- ITS FALSE NEIGHBOUR: 'it returns false'. Refute it at one input. -/
def messageBackWrong : ChangeSpec := { name := "messageBack", fn := fun _ => fun
  | [d] => { results := [.lit (.bool false)], args := [d] }
  | _ => none }
def MessageBackWrongFalsely : Prop := messageBackRow.holds Tryd.pinned (OpenSpec.ofChange messageBackWrong)

/-- 'hearsaylaw06.MessageAgain': WHATEVER THE INPUT: true; the input reads as it did. -/
def messageAgainSpec : ChangeSpec := { name := "messageAgain", fn := fun _ => fun
  | [d] => { results := [.lit (.bool true)], args := [d] }
  | _ => none }
def messageAgainRow : OpenClaim := { program := "ytdjknikkiojfhaadoor", sum := "a6b0fa6804edecb9948d336ad45890560e7cb60fec77a32375f9cf24876c1d4e", func := "hearsay/hearsaylaw06.MessageAgain", spec := "messageAgain", unfollowed := true, recurses := true, named := ["hearsay/rdata.kinds"], plainKeys := false, apart := false, laid := [("hearsay/rdata.kinds", laid_hearsay_rdata_kinds)] }
def MessageAgainSaid : Prop := messageAgainRow.holds Tryd.pinned (OpenSpec.ofChange messageAgainSpec)

/-- ITS FALSE NEIGHBOUR: 'it returns false'. Refute it at one input. -/
def messageAgainWrong : ChangeSpec := { name := "messageAgain", fn := fun _ => fun
  | [d] => { results := [.lit (.bool false)], args := [d] }
  | _ => none }
def MessageAgainWrongFalsely : Prop := messageAgainRow.holds Tryd.pinned (OpenSpec.ofChange messageAgainWrong)

/-- 'hearsaylaw06.MessageSize': WHATEVER THE INPUT: true; the input reads as it did. -/
def messageSizeSpec : ChangeSpec := { name := "messageSize", fn := fun _ => fun
  | [d1, d2] => { results := [.lit (.bool true)], args := [d1, d2] }
  | _ => none }
def messageSizeRow : OpenClaim := { program := "ytdjknikkiojfhaadoor", sum := "a6b0fa6804edecb9948d336ad45890560e7cb60fec77a32375f9cf24876c1d4e", func := "hearsay/hearsaylaw06.MessageSize", spec := "messageSize", unfollowed := true, recurses := true, named := ["hearsay/rdata.kinds"], plainKeys := false, apart := false, laid := [("hearsay/rdata.kinds", laid_hearsay_rdata_kinds)] }
def MessageSizeSaid : Prop := messageSizeRow.holds Tryd.pinned (OpenSpec.ofChange messageSizeSpec)

/-- ITS FALSE NEIGHBOUR: 'it returns false'. Refute it at one input. -/
def messageSizeWrong : ChangeSpec := { name := "messageSize", fn := fun _ => fun
  | [d1, d2] => { results := [.lit (.bool false)], args := [d1, d2] }
  | _ => none }
def MessageSizeWrongFalsely : Prop := messageSizeRow.holds Tryd.pinned (OpenSpec.ofChange messageSizeWrong)

/- THE SECOND FORM. 'bulk': how many values and letters a reading holds, each counted each time it is reached (what is shared counts as often as it is met; a slice's spare places count too). A statement '..UptoSaid' is the law's where the arguments, and the package variables that the reading takes, are together of bulk at most 1048576: NARROWER than '..Said'. Prove '..Said' where nothing that the law and all that it calls make is longer than what came in: it says more and counts as full. Else prove '..UptoSaid'. A law counts once. -/
mutual
def uptoBulk {H : Type} : DataW H → Nat
  | .lit (.string bytes) => bytes.length + 1
  | .lit _ => 1
  | .nil => 1
  | .ptr d => uptoBulk d + 1
  | .slice elems spare => uptoBulkAll elems + uptoBulkAll spare + 1
  | .agg parts => uptoBulkAll parts + 1
  | .iface _ d => uptoBulk d + 1
  | .map entries => uptoBulkEntries entries + 1
  | .held _ => 1
def uptoBulkAll {H : Type} : List (DataW H) → Nat
  | [] => 0
  | d :: r => uptoBulk d + uptoBulkAll r
def uptoBulkEntries {H : Type} : List (Lit × DataW H) → Nat
  | [] => 0
  | x :: r => uptoBulkEntry x + uptoBulkEntries r
def uptoBulkEntry {H : Type} : Lit × DataW H → Nat
  | (.string bytes, d) => bytes.length + uptoBulk d + 1
  | (_, d) => uptoBulk d + 1
 end
def uptoSmall : (H : Type) → List (DataW H) → Bool := fun _ ds => decide (uptoBulkAll ds ≤ 1048576)
def OpenSpec.upto (s : _root_.Go.ChangeSpec) : _root_.Go.OpenSpec := { _root_.Go.OpenSpec.ofChange s with cond := some uptoSmall }

/-- 'hearsaylaw06.MessagePacks', WHERE WHAT IT READS IS OF BULK AT MOST 1048576: true; the input reads as it did. -/
def messagePacksUptoRow : OpenClaim := { program := "ytdjknikkiojfhaadoor", sum := "a6b0fa6804edecb9948d336ad45890560e7cb60fec77a32375f9cf24876c1d4e", func := "hearsay/hearsaylaw06.MessagePacks", spec := "messagePacks", unfollowed := true, recurses := true, named := ["hearsay/rdata.kinds"], plainKeys := false, apart := false, laid := [("hearsay/rdata.kinds", laid_hearsay_rdata_kinds)], narrowed := true }
def MessagePacksUptoSaid : Prop := messagePacksUptoRow.holds Tryd.pinned (OpenSpec.upto messagePacksSpec)

/-- 'hearsaylaw06.MessageBack', WHERE WHAT IT READS IS OF BULK AT MOST 1048576: true; the input reads as it did. -/
def messageBackUptoRow : OpenClaim := { program := "ytdjknikkiojfhaadoor", sum := "a6b0fa6804edecb9948d336ad45890560e7cb60fec77a32375f9cf24876c1d4e", func := "hearsay/hearsaylaw06.MessageBack", spec := "messageBack", unfollowed := true, recurses := true, named := ["hearsay/rdata.kinds"], plainKeys := false, apart := false, laid := [("hearsay/rdata.kinds", laid_hearsay_rdata_kinds)], narrowed := true }
def MessageBackUptoSaid : Prop := messageBackUptoRow.holds Tryd.pinned (OpenSpec.upto messageBackSpec)

/-- 'hearsaylaw06.MessageAgain', WHERE WHAT IT READS IS OF BULK AT MOST 1048576: true; the input reads as it did. -/
def messageAgainUptoRow : OpenClaim := { program := "ytdjknikkiojfhaadoor", sum := "a6b0fa6804edecb9948d336ad45890560e7cb60fec77a32375f9cf24876c1d4e", func := "hearsay/hearsaylaw06.MessageAgain", spec := "messageAgain", unfollowed := true, recurses := true, named := ["hearsay/rdata.kinds"], plainKeys := false, apart := false, laid := [("hearsay/rdata.kinds", laid_hearsay_rdata_kinds)], narrowed := true }
def MessageAgainUptoSaid : Prop := messageAgainUptoRow.holds Tryd.pinned (OpenSpec.upto messageAgainSpec)

/-- 'hearsaylaw06.MessageSize', WHERE WHAT IT READS IS OF BULK AT MOST 1048576: true; the input reads as it did. -/
def messageSizeUptoRow : OpenClaim := { program := "ytdjknikkiojfhaadoor", sum := "a6b0fa6804edecb9948d336ad45890560e7cb60fec77a32375f9cf24876c1d4e", func := "hearsay/hearsaylaw06.MessageSize", spec := "messageSize", unfollowed := true, recurses := true, named := ["hearsay/rdata.kinds"], plainKeys := false, apart := false, laid := [("hearsay/rdata.kinds", laid_hearsay_rdata_kinds)], narrowed := true }
def MessageSizeUptoSaid : Prop := messageSizeUptoRow.holds Tryd.pinned (OpenSpec.upto messageSizeSpec)

end Rows
end Go.Proofs.YtdjknikkiojfhaaDoor
