/-
  NARROWER THAN 'FOR EVERY INPUT', by the rows' own cells (each row's printed sentence says how): PaddingSpec: laid · PaddingBytesSpec: laid · PaddingBack: laid · PaddingLeast: laid · PaddingLengths: laid · PaddingShape: laid · PaddingChanged: laid.
  DERIVED. THE GIVEN ROWS OF THIS SEAT. 7 by the template 'for every input the law returns true; each argument reads behind the call as it read before'; 0 by the template 'total and deterministic' (their statements: YtofgnncodnfapaaDoorTotals.lean).
  GIVEN WITH THE SEED: the statements are not yours to turn. If you find one false, say at which input.
  Laid BY PROGRAM, IN A SANDBOX (cutbox-rows.mjs): the forced cells as the released guide's own fill.sh prints them over the translation 4de7519b506083a1… (all of the seat's roots in one cut). By AI agents, Wed Nov 11 2026. No macro, syntax, notation, axiom, sorry.
-/
import Derived.Test.YtofgnncodnfapaaDoorChecked
import GoSem.Claim
import GoSem.ClaimJoined
import GoSem.ClaimMapViews
import Derived.JoinedTies
import Derived.KernelRfl
namespace Go.Proofs.YtofgnncodnfapaaDoor
/- THE CELL 'sum', in the pinned program and in every row, IS THE sha256 OF THE DUMP (.gsa) THAT YtofgnncodnfapaaDoorProg.lean LOADS. Nothing in Lean hashes anything: it is a label: what it is worth is what the hold of that sum in a sandbox is worth. -/
noncomputable def Tryd.pinned : Pinned := { name := "ytofgnncodnfapaadoor", sum := "4de7519b506083a1c0bb9f312671228e1fc18e064f022bccb5e83a8b678a8a6a", checked := Tryd.checked }
namespace Rows
def none {H : Type} : Left H := { results := [], args := [] }

/- WHAT THE LISTED PACKAGE-LEVEL VARIABLES READ AS WHEN THE CALL BEGINS. Each datum BY PROGRAM (the guide's laid-datum.mjs) off the statement by which the dump's own 'gosem.cut.vars' lays the variable. In a bare row this is a premise. The card (YtofgnncodnfapaaDoorCards.lean) ties it to the program's text. -/
def laid_chartroom_padding_lengths {H : Type} : DataW H := .agg [.lit (.int .i64 64), .lit (.int .i64 256), .lit (.int .i64 1024), .lit (.int .i64 4096), .lit (.int .i64 16384), .lit (.int .i64 65536)]

/-- 'chartroomlaw28.PaddingSpec': WHATEVER THE INPUT: true; the input reads as it did. -/
def paddingSpecSpec : ChangeSpec := { name := "paddingSpec", fn := fun _ => fun
  | [d1, d2] => { results := [.lit (.bool true)], args := [d1, d2] }
  | _ => none }
def paddingSpecRow : OpenClaim := { program := "ytofgnncodnfapaadoor", sum := "4de7519b506083a1c0bb9f312671228e1fc18e064f022bccb5e83a8b678a8a6a", func := "chartroom/chartroomlaw28.PaddingSpec", spec := "paddingSpec", unfollowed := true, recurses := true, named := ["chartroom/padding.lengths"], apart := false, laid := [("chartroom/padding.lengths", laid_chartroom_padding_lengths)] }
def PaddingSpecSaid : Prop := paddingSpecRow.holds Tryd.pinned (OpenSpec.ofChange paddingSpecSpec)

/-- ITS FALSE NEIGHBOUR: 'it returns false'. Refute it at one input. -/
def paddingSpecWrong : ChangeSpec := { name := "paddingSpec", fn := fun _ => fun
  | [d1, d2] => { results := [.lit (.bool false)], args := [d1, d2] }
  | _ => none }
def PaddingSpecWrongFalsely : Prop := paddingSpecRow.holds Tryd.pinned (OpenSpec.ofChange paddingSpecWrong)

/-- 'chartroomlaw28.PaddingBytesSpec': WHATEVER THE INPUT: true; the input reads as it did. -/
def paddingBytesSpecSpec : ChangeSpec := { name := "paddingBytesSpec", fn := fun _ => fun
  | [d1, d2] => { results := [.lit (.bool true)], args := [d1, d2] }
  | _ => none }
def paddingBytesSpecRow : OpenClaim := { program := "ytofgnncodnfapaadoor", sum := "4de7519b506083a1c0bb9f312671228e1fc18e064f022bccb5e83a8b678a8a6a", func := "chartroom/chartroomlaw28.PaddingBytesSpec", spec := "paddingBytesSpec", unfollowed := true, recurses := true, named := ["chartroom/padding.lengths"], apart := false, laid := [("chartroom/padding.lengths", laid_chartroom_padding_lengths)] }
def PaddingBytesSpecSaid : Prop := paddingBytesSpecRow.holds Tryd.pinned (OpenSpec.ofChange paddingBytesSpecSpec)

/-- ITS FALSE NEIGHBOUR: 'it returns false'. Refute it at one input. -/
def paddingBytesSpecWrong : ChangeSpec := { name := "paddingBytesSpec", fn := fun _ => fun
  | [d1, d2] => { results := [.lit (.bool false)], args := [d1, d2] }
  | _ => none }
def PaddingBytesSpecWrongFalsely : Prop := paddingBytesSpecRow.holds Tryd.pinned (OpenSpec.ofChange paddingBytesSpecWrong)

/-- 'chartroomlaw28.PaddingBack': WHATEVER THE INPUT: true; the input reads as it did. -/
def paddingBackSpec : ChangeSpec := { name := "paddingBack", fn := fun _ => fun
  | [d1, d2] => { results := [.lit (.bool true)], args := [d1, d2] }
  | _ => none }
def paddingBackRow : OpenClaim := { program := "ytofgnncodnfapaadoor", sum := "4de7519b506083a1c0bb9f312671228e1fc18e064f022bccb5e83a8b678a8a6a", func := "chartroom/chartroomlaw28.PaddingBack", spec := "paddingBack", unfollowed := true, recurses := true, named := ["chartroom/padding.lengths"], apart := false, laid := [("chartroom/padding.lengths", laid_chartroom_padding_lengths)] }
def PaddingBackSaid : Prop := paddingBackRow.holds Tryd.pinned (OpenSpec.ofChange paddingBackSpec)

/-- ITS FALSE NEIGHBOUR: 'it returns false'. Refute it at one input. -/
def paddingBackWrong : ChangeSpec := { name := "paddingBack", fn := fun _ => fun
  | [d1, d2] => { results := [.lit (.bool false)], args := [d1, d2] }
  | _ => none }
def PaddingBackWrongFalsely : Prop := paddingBackRow.holds Tryd.pinned (OpenSpec.ofChange paddingBackWrong)

/-- 'chartroomlaw28.PaddingLeast': WHATEVER THE INPUT: true; the input reads as it did. -/
def paddingLeastSpec : ChangeSpec := { name := "paddingLeast", fn := fun _ => fun
  | [d1, d2] => { results := [.lit (.bool true)], args := [d1, d2] }
  | _ => none }
def paddingLeastRow : OpenClaim := { program := "ytofgnncodnfapaadoor", sum := "4de7519b506083a1c0bb9f312671228e1fc18e064f022bccb5e83a8b678a8a6a", func := "chartroom/chartroomlaw28.PaddingLeast", spec := "paddingLeast", unfollowed := true, recurses := true, named := ["chartroom/padding.lengths"], apart := false, laid := [("chartroom/padding.lengths", laid_chartroom_padding_lengths)] }
def PaddingLeastSaid : Prop := paddingLeastRow.holds Tryd.pinned (OpenSpec.ofChange paddingLeastSpec)

/-- ITS FALSE NEIGHBOUR: 'it returns false'. Refute it at one input. -/
def paddingLeastWrong : ChangeSpec := { name := "paddingLeast", fn := fun _ => fun
  | [d1, d2] => { results := [.lit (.bool false)], args := [d1, d2] }
  | _ => none }
def PaddingLeastWrongFalsely : Prop := paddingLeastRow.holds Tryd.pinned (OpenSpec.ofChange paddingLeastWrong)

/-- 'chartroomlaw28.PaddingLengths': WHATEVER THE INPUT: true; the input reads as it did. -/
def paddingLengthsSpec : ChangeSpec := { name := "paddingLengths", fn := fun _ => fun
  | [d1, d2] => { results := [.lit (.bool true)], args := [d1, d2] }
  | _ => none }
def paddingLengthsRow : OpenClaim := { program := "ytofgnncodnfapaadoor", sum := "4de7519b506083a1c0bb9f312671228e1fc18e064f022bccb5e83a8b678a8a6a", func := "chartroom/chartroomlaw28.PaddingLengths", spec := "paddingLengths", unfollowed := true, recurses := true, named := ["chartroom/padding.lengths"], apart := false, laid := [("chartroom/padding.lengths", laid_chartroom_padding_lengths)] }
def PaddingLengthsSaid : Prop := paddingLengthsRow.holds Tryd.pinned (OpenSpec.ofChange paddingLengthsSpec)

/-- ITS FALSE NEIGHBOUR: 'it returns false'. Refute it at one input. -/
def paddingLengthsWrong : ChangeSpec := { name := "paddingLengths", fn := fun _ => fun
  | [d1, d2] => { results := [.lit (.bool false)], args := [d1, d2] }
  | _ => none }
def PaddingLengthsWrongFalsely : Prop := paddingLengthsRow.holds Tryd.pinned (OpenSpec.ofChange paddingLengthsWrong)

/-- 'chartroomlaw28.PaddingShape': WHATEVER THE INPUT: true; the input reads as it did. -/
def paddingShapeSpec : ChangeSpec := { name := "paddingShape", fn := fun _ => fun
  | [d] => { results := [.lit (.bool true)], args := [d] }
  | _ => none }
def paddingShapeRow : OpenClaim := { program := "ytofgnncodnfapaadoor", sum := "4de7519b506083a1c0bb9f312671228e1fc18e064f022bccb5e83a8b678a8a6a", func := "chartroom/chartroomlaw28.PaddingShape", spec := "paddingShape", unfollowed := true, recurses := true, named := ["chartroom/padding.lengths"], apart := false, laid := [("chartroom/padding.lengths", laid_chartroom_padding_lengths)] }
def PaddingShapeSaid : Prop := paddingShapeRow.holds Tryd.pinned (OpenSpec.ofChange paddingShapeSpec)

/-- ITS FALSE NEIGHBOUR: 'it returns false'. Refute it at one input. -/
def paddingShapeWrong : ChangeSpec := { name := "paddingShape", fn := fun _ => fun
  | [d] => { results := [.lit (.bool false)], args := [d] }
  | _ => none }
def PaddingShapeWrongFalsely : Prop := paddingShapeRow.holds Tryd.pinned (OpenSpec.ofChange paddingShapeWrong)

/-- 'chartroomlaw28.PaddingChanged': WHATEVER THE INPUT: true; the input reads as it did. -/
def paddingChangedSpec : ChangeSpec := { name := "paddingChanged", fn := fun _ => fun
  | [d1, d2, d3] => { results := [.lit (.bool true)], args := [d1, d2, d3] }
  | _ => none }
def paddingChangedRow : OpenClaim := { program := "ytofgnncodnfapaadoor", sum := "4de7519b506083a1c0bb9f312671228e1fc18e064f022bccb5e83a8b678a8a6a", func := "chartroom/chartroomlaw28.PaddingChanged", spec := "paddingChanged", unfollowed := true, recurses := true, named := ["chartroom/padding.lengths"], apart := false, laid := [("chartroom/padding.lengths", laid_chartroom_padding_lengths)] }
def PaddingChangedSaid : Prop := paddingChangedRow.holds Tryd.pinned (OpenSpec.ofChange paddingChangedSpec)

/-- ITS FALSE NEIGHBOUR: 'it returns false'. Refute it at one input. -/
def paddingChangedWrong : ChangeSpec := { name := "paddingChanged", fn := fun _ => fun
  | [d1, d2, d3] => { results := [.lit (.bool false)], args := [d1, d2, d3] }
  | _ => none }
def PaddingChangedWrongFalsely : Prop := paddingChangedRow.holds Tryd.pinned (OpenSpec.ofChange paddingChangedWrong)

/- THE SECOND FORM. 'bulk': how many values and letters a reading holds, each counted each time it is reached (what is shared counts as often as it is met; a slice's spare places count too). A statement '..UptoSaid' is the law's where the arguments, and the package variables that the reading takes, are together of bulk at most 1048576: NARROWER than '..Said'. Prove '..Said' where nothing that the law and all that it calls make is longer than what came in: it says more and counts as full. Else prove '..UptoSaid'. A law counts once. -/
mutual
def uptoBulk {H : Type} : DataW H → Nat
  | .lit (.string bytes) => bytes.length + 1
  | .lit _ => 1
  | .nil => 1
  | .ptr d => uptoBulk d + 1
  | .slice elems spare => uptoBulkAll elems + uptoBulkAll spare + 1
  | .agg parts => uptoBulkAll parts + 1
  | .iface _ d => uptoBulk d + 1
  | .map entries => uptoBulkEntries entries + 1
  | .held _ => 1
def uptoBulkAll {H : Type} : List (DataW H) → Nat
  | [] => 0
  | d :: r => uptoBulk d + uptoBulkAll r
def uptoBulkEntries {H : Type} : List (Lit × DataW H) → Nat
  | [] => 0
  | x :: r => uptoBulkEntry x + uptoBulkEntries r
def uptoBulkEntry {H : Type} : Lit × DataW H → Nat
  | (.string bytes, d) => bytes.length + uptoBulk d + 1
  | (_, d) => uptoBulk d + 1
 end
def uptoSmall : (H : Type) → List (DataW H) → Bool := fun _ ds => decide (uptoBulkAll ds ≤ 1048576)
def OpenSpec.upto (s : _root_.Go.ChangeSpec) : _root_.Go.OpenSpec := { _root_.Go.OpenSpec.ofChange s with cond := some uptoSmall }

/-- 'chartroomlaw28.PaddingSpec', WHERE WHAT IT READS IS OF BULK AT MOST 1048576: true; the input reads as it did. -/
def paddingSpecUptoRow : OpenClaim := { program := "ytofgnncodnfapaadoor", sum := "4de7519b506083a1c0bb9f312671228e1fc18e064f022bccb5e83a8b678a8a6a", func := "chartroom/chartroomlaw28.PaddingSpec", spec := "paddingSpec", unfollowed := true, recurses := true, named := ["chartroom/padding.lengths"], apart := false, laid := [("chartroom/padding.lengths", laid_chartroom_padding_lengths)], narrowed := true }
def PaddingSpecUptoSaid : Prop := paddingSpecUptoRow.holds Tryd.pinned (OpenSpec.upto paddingSpecSpec)

/-- 'chartroomlaw28.PaddingBytesSpec', WHERE WHAT IT READS IS OF BULK AT MOST 1048576: true; the input reads as it did. -/
def paddingBytesSpecUptoRow : OpenClaim := { program := "ytofgnncodnfapaadoor", sum := "4de7519b506083a1c0bb9f312671228e1fc18e064f022bccb5e83a8b678a8a6a", func := "chartroom/chartroomlaw28.PaddingBytesSpec", spec := "paddingBytesSpec", unfollowed := true, recurses := true, named := ["chartroom/padding.lengths"], apart := false, laid := [("chartroom/padding.lengths", laid_chartroom_padding_lengths)], narrowed := true }
def PaddingBytesSpecUptoSaid : Prop := paddingBytesSpecUptoRow.holds Tryd.pinned (OpenSpec.upto paddingBytesSpecSpec)

/-- 'chartroomlaw28.PaddingBack', WHERE WHAT IT READS IS OF BULK AT MOST 1048576: true; the input reads as it did. -/
def paddingBackUptoRow : OpenClaim := { program := "ytofgnncodnfapaadoor", sum := "4de7519b506083a1c0bb9f312671228e1fc18e064f022bccb5e83a8b678a8a6a", func := "chartroom/chartroomlaw28.PaddingBack", spec := "paddingBack", unfollowed := true, recurses := true, named := ["chartroom/padding.lengths"], apart := false, laid := [("chartroom/padding.lengths", laid_chartroom_padding_lengths)], narrowed := true }
def PaddingBackUptoSaid : Prop := paddingBackUptoRow.holds Tryd.pinned (OpenSpec.upto paddingBackSpec)

/-- 'chartroomlaw28.PaddingLeast', WHERE WHAT IT READS IS OF BULK AT MOST 1048576: true; the input reads as it did. -/
def paddingLeastUptoRow : OpenClaim := { program := "ytofgnncodnfapaadoor", sum := "4de7519b506083a1c0bb9f312671228e1fc18e064f022bccb5e83a8b678a8a6a", func := "chartroom/chartroomlaw28.PaddingLeast", spec := "paddingLeast", unfollowed := true, recurses := true, named := ["chartroom/padding.lengths"], apart := false, laid := [("chartroom/padding.lengths", laid_chartroom_padding_lengths)], narrowed := true }
def PaddingLeastUptoSaid : Prop := paddingLeastUptoRow.holds Tryd.pinned (OpenSpec.upto paddingLeastSpec)

/-- 'chartroomlaw28.PaddingLengths', WHERE WHAT IT READS IS OF BULK AT MOST 1048576: true; the input reads as it did. -/
def paddingLengthsUptoRow : OpenClaim := { program := "ytofgnncodnfapaadoor", sum := "4de7519b506083a1c0bb9f312671228e1fc18e064f022bccb5e83a8b678a8a6a", func := "chartroom/chartroomlaw28.PaddingLengths", spec := "paddingLengths", unfollowed := true, recurses := true, named := ["chartroom/padding.lengths"], apart := false, laid := [("chartroom/padding.lengths", laid_chartroom_padding_lengths)], narrowed := true }
def PaddingLengthsUptoSaid : Prop := paddingLengthsUptoRow.holds Tryd.pinned (OpenSpec.upto paddingLengthsSpec)

/-- 'chartroomlaw28.PaddingShape', WHERE WHAT IT READS IS OF BULK AT MOST 1048576: true; the input reads as it did. -/
def paddingShapeUptoRow : OpenClaim := { program := "ytofgnncodnfapaadoor", sum := "4de7519b506083a1c0bb9f312671228e1fc18e064f022bccb5e83a8b678a8a6a", func := "chartroom/chartroomlaw28.PaddingShape", spec := "paddingShape", unfollowed := true, recurses := true, named := ["chartroom/padding.lengths"], apart := false, laid := [("chartroom/padding.lengths", laid_chartroom_padding_lengths)], narrowed := true }
def PaddingShapeUptoSaid : Prop := paddingShapeUptoRow.holds Tryd.pinned (OpenSpec.upto paddingShapeSpec)

/-- 'chartroomlaw28.PaddingChanged', WHERE WHAT IT READS IS OF BULK AT MOST 1048576: true; the input reads as it did. -/
def paddingChangedUptoRow : OpenClaim := { program := "ytofgnncodnfapaadoor", sum := "4de7519b506083a1c0bb9f312671228e1fc18e064f022bccb5e83a8b678a8a6a", func := "chartroom/chartroomlaw28.PaddingChanged", spec := "paddingChanged", unfollowed := true, recurses := true, named := ["chartroom/padding.lengths"], apart := false, laid := [("chartroom/padding.lengths", laid_chartroom_padding_lengths)], narrowed := true }
def PaddingChangedUptoSaid : Prop := paddingChangedUptoRow.holds Tryd.pinned (OpenSpec.upto paddingChangedSpec)

end Rows
end Go.Proofs.YtofgnncodnfapaaDoor
