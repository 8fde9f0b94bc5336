/-
  DERIVED. GIVEN WITH THE SEED: THE CARDS: each row of YtofgnncodnfapaaDoorRows.lean that lists a variable, with what it lists TIED to the program's text (the seventh form; the later family's looks); each row that meets fmt, with fmt's text TOLD by the authors' own Lean function (tested against real Go, not proved from fmt's source: count such statements apart). THE CARD IS WHAT COUNTS. Prove the row's statement (the work); the ties are given (YtofgnncodnfapaaDoorTie.lean); close each card by the builder's one call (the guide's Derived/Test/ToyasCard.lean, 'card_holds'). Laid BY PROGRAM, IN A SANDBOX (cutbox-door.mjs). By AI agents, Wed Nov 11 2026. No macro, syntax, notation, axiom, sorry.
-/
import Derived.Test.YtofgnncodnfapaaDoorRows
import GoSem.ClaimSeven
namespace Go.Proofs.YtofgnncodnfapaaDoor
namespace Rows

/-- THE TIED CARD OF 'chartroomlaw28.PaddingSpec'. -/
def paddingSpecCard : Claim7 := { stood := { row := paddingSpecRow, standIns := [], harness := (true, "b01d54b179428596206cad3c466347ce2a011965c3192878922f13c63b9cdc1e"), looks := false }, kinds := [], alts := [], laidByText := true, laidKinds := [.widerDeep], laidTests := true, laidLooks := .later }
def PaddingSpecCardSaid : Prop := Claim7.holds Tryd.pinned (.plain (OpenSpec.ofChange paddingSpecSpec)) paddingSpecCard

/-- THE TIED CARD OF 'chartroomlaw28.PaddingBytesSpec'. -/
def paddingBytesSpecCard : Claim7 := { stood := { row := paddingBytesSpecRow, standIns := [], harness := (true, "b01d54b179428596206cad3c466347ce2a011965c3192878922f13c63b9cdc1e"), looks := false }, kinds := [], alts := [], laidByText := true, laidKinds := [.widerDeep], laidTests := true, laidLooks := .later }
def PaddingBytesSpecCardSaid : Prop := Claim7.holds Tryd.pinned (.plain (OpenSpec.ofChange paddingBytesSpecSpec)) paddingBytesSpecCard

/-- THE TIED CARD OF 'chartroomlaw28.PaddingBack'. -/
def paddingBackCard : Claim7 := { stood := { row := paddingBackRow, standIns := [], harness := (true, "b01d54b179428596206cad3c466347ce2a011965c3192878922f13c63b9cdc1e"), looks := false }, kinds := [], alts := [], laidByText := true, laidKinds := [.widerDeep], laidTests := true, laidLooks := .later }
def PaddingBackCardSaid : Prop := Claim7.holds Tryd.pinned (.plain (OpenSpec.ofChange paddingBackSpec)) paddingBackCard

/-- THE TIED CARD OF 'chartroomlaw28.PaddingLeast'. -/
def paddingLeastCard : Claim7 := { stood := { row := paddingLeastRow, standIns := [], harness := (true, "b01d54b179428596206cad3c466347ce2a011965c3192878922f13c63b9cdc1e"), looks := false }, kinds := [], alts := [], laidByText := true, laidKinds := [.widerDeep], laidTests := true, laidLooks := .later }
def PaddingLeastCardSaid : Prop := Claim7.holds Tryd.pinned (.plain (OpenSpec.ofChange paddingLeastSpec)) paddingLeastCard

/-- THE TIED CARD OF 'chartroomlaw28.PaddingLengths'. -/
def paddingLengthsCard : Claim7 := { stood := { row := paddingLengthsRow, standIns := [], harness := (true, "b01d54b179428596206cad3c466347ce2a011965c3192878922f13c63b9cdc1e"), looks := false }, kinds := [], alts := [], laidByText := true, laidKinds := [.widerDeep], laidTests := true, laidLooks := .later }
def PaddingLengthsCardSaid : Prop := Claim7.holds Tryd.pinned (.plain (OpenSpec.ofChange paddingLengthsSpec)) paddingLengthsCard

/-- THE TIED CARD OF 'chartroomlaw28.PaddingShape'. -/
def paddingShapeCard : Claim7 := { stood := { row := paddingShapeRow, standIns := [], harness := (true, "b01d54b179428596206cad3c466347ce2a011965c3192878922f13c63b9cdc1e"), looks := false }, kinds := [], alts := [], laidByText := true, laidKinds := [.widerDeep], laidTests := true, laidLooks := .later }
def PaddingShapeCardSaid : Prop := Claim7.holds Tryd.pinned (.plain (OpenSpec.ofChange paddingShapeSpec)) paddingShapeCard

/-- THE TIED CARD OF 'chartroomlaw28.PaddingChanged'. -/
def paddingChangedCard : Claim7 := { stood := { row := paddingChangedRow, standIns := [], harness := (true, "b01d54b179428596206cad3c466347ce2a011965c3192878922f13c63b9cdc1e"), looks := false }, kinds := [], alts := [], laidByText := true, laidKinds := [.widerDeep], laidTests := true, laidLooks := .later }
def PaddingChangedCardSaid : Prop := Claim7.holds Tryd.pinned (.plain (OpenSpec.ofChange paddingChangedSpec)) paddingChangedCard

/-- THE SECOND FORM's CARD OF 'chartroomlaw28.PaddingSpec'. -/
def paddingSpecUptoCard : Claim7 := { stood := { row := paddingSpecUptoRow, standIns := [], harness := (true, "b01d54b179428596206cad3c466347ce2a011965c3192878922f13c63b9cdc1e"), looks := false }, kinds := [], alts := [], laidByText := true, laidKinds := [.widerDeep], laidTests := true, laidLooks := .later }
def PaddingSpecUptoCardSaid : Prop := Claim7.holds Tryd.pinned (.plain (OpenSpec.upto paddingSpecSpec)) paddingSpecUptoCard

/-- THE SECOND FORM's CARD OF 'chartroomlaw28.PaddingBytesSpec'. -/
def paddingBytesSpecUptoCard : Claim7 := { stood := { row := paddingBytesSpecUptoRow, standIns := [], harness := (true, "b01d54b179428596206cad3c466347ce2a011965c3192878922f13c63b9cdc1e"), looks := false }, kinds := [], alts := [], laidByText := true, laidKinds := [.widerDeep], laidTests := true, laidLooks := .later }
def PaddingBytesSpecUptoCardSaid : Prop := Claim7.holds Tryd.pinned (.plain (OpenSpec.upto paddingBytesSpecSpec)) paddingBytesSpecUptoCard

/-- THE SECOND FORM's CARD OF 'chartroomlaw28.PaddingBack'. -/
def paddingBackUptoCard : Claim7 := { stood := { row := paddingBackUptoRow, standIns := [], harness := (true, "b01d54b179428596206cad3c466347ce2a011965c3192878922f13c63b9cdc1e"), looks := false }, kinds := [], alts := [], laidByText := true, laidKinds := [.widerDeep], laidTests := true, laidLooks := .later }
def PaddingBackUptoCardSaid : Prop := Claim7.holds Tryd.pinned (.plain (OpenSpec.upto paddingBackSpec)) paddingBackUptoCard

/-- THE SECOND FORM's CARD OF 'chartroomlaw28.PaddingLeast'. -/
def paddingLeastUptoCard : Claim7 := { stood := { row := paddingLeastUptoRow, standIns := [], harness := (true, "b01d54b179428596206cad3c466347ce2a011965c3192878922f13c63b9cdc1e"), looks := false }, kinds := [], alts := [], laidByText := true, laidKinds := [.widerDeep], laidTests := true, laidLooks := .later }
def PaddingLeastUptoCardSaid : Prop := Claim7.holds Tryd.pinned (.plain (OpenSpec.upto paddingLeastSpec)) paddingLeastUptoCard

/-- THE SECOND FORM's CARD OF 'chartroomlaw28.PaddingLengths'. -/
def paddingLengthsUptoCard : Claim7 := { stood := { row := paddingLengthsUptoRow, standIns := [], harness := (true, "b01d54b179428596206cad3c466347ce2a011965c3192878922f13c63b9cdc1e"), looks := false }, kinds := [], alts := [], laidByText := true, laidKinds := [.widerDeep], laidTests := true, laidLooks := .later }
def PaddingLengthsUptoCardSaid : Prop := Claim7.holds Tryd.pinned (.plain (OpenSpec.upto paddingLengthsSpec)) paddingLengthsUptoCard

/-- THE SECOND FORM's CARD OF 'chartroomlaw28.PaddingShape'. -/
def paddingShapeUptoCard : Claim7 := { stood := { row := paddingShapeUptoRow, standIns := [], harness := (true, "b01d54b179428596206cad3c466347ce2a011965c3192878922f13c63b9cdc1e"), looks := false }, kinds := [], alts := [], laidByText := true, laidKinds := [.widerDeep], laidTests := true, laidLooks := .later }
def PaddingShapeUptoCardSaid : Prop := Claim7.holds Tryd.pinned (.plain (OpenSpec.upto paddingShapeSpec)) paddingShapeUptoCard

/-- THE SECOND FORM's CARD OF 'chartroomlaw28.PaddingChanged'. -/
def paddingChangedUptoCard : Claim7 := { stood := { row := paddingChangedUptoRow, standIns := [], harness := (true, "b01d54b179428596206cad3c466347ce2a011965c3192878922f13c63b9cdc1e"), looks := false }, kinds := [], alts := [], laidByText := true, laidKinds := [.widerDeep], laidTests := true, laidLooks := .later }
def PaddingChangedUptoCardSaid : Prop := Claim7.holds Tryd.pinned (.plain (OpenSpec.upto paddingChangedSpec)) paddingChangedUptoCard
end Rows
end Go.Proofs.YtofgnncodnfapaaDoor
