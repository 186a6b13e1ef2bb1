/-
  DERIVED. GIVEN WITH THE SEED: THE CARDS: each row of YtkjfpjammlihpaaDoorRows.lean that lists a variable, with what it lists TIED to the program's text (the seventh form; the later family's looks); each row that meets fmt, with fmt's text TOLD by the authors' own Lean function (tested against real Go, not proved from fmt's source: count such statements apart). THE CARD IS WHAT COUNTS. Prove the row's statement (the work); the ties are given (YtkjfpjammlihpaaDoorTie.lean); close each card by the builder's one call (the guide's Derived/Test/ToyasCard.lean, 'card_holds'). Laid BY PROGRAM, IN A SANDBOX (cutbox-door.mjs). By AI agents, Wed Nov 11 2026. No macro, syntax, notation, axiom, sorry.
-/
import Derived.Test.YtkjfpjammlihpaaDoorRows
import GoSem.ClaimSeven
namespace Go.Proofs.YtkjfpjammlihpaaDoor
namespace Rows

/-- THE TIED CARD OF 'compositorlaw06.FixedRoundTrip'. -/
def fixedRoundTripCard : Claim7 := { stood := { row := fixedRoundTripRow, standIns := [], harness := (true, "d9d01e5c4a8ccec2b3bceb91c29d98b74046b18b82bbb703c71f2fc6c95313d5"), looks := false }, kinds := [], alts := [], laidByText := true, laidKinds := [.data, .data, .data], laidTests := true, laidLooks := .later }
def FixedRoundTripCardSaid : Prop := Claim7.holds Tryd.pinned (.plain (OpenSpec.ofChange fixedRoundTripSpec)) fixedRoundTripCard

/-- THE TIED CARD OF 'compositorlaw06.FixedParse'. -/
def fixedParseCard : Claim7 := { stood := { row := fixedParseRow, standIns := [], harness := (true, "d9d01e5c4a8ccec2b3bceb91c29d98b74046b18b82bbb703c71f2fc6c95313d5"), looks := false }, kinds := [], alts := [], laidByText := true, laidKinds := [.data, .data, .data], laidTests := true, laidLooks := .later }
def FixedParseCardSaid : Prop := Claim7.holds Tryd.pinned (.plain (OpenSpec.ofChange fixedParseSpec)) fixedParseCard

/-- THE TIED CARD OF 'compositorlaw06.FixedFromInt'. -/
def fixedFromIntCard : Claim7 := { stood := { row := fixedFromIntRow, standIns := [], harness := (true, "d9d01e5c4a8ccec2b3bceb91c29d98b74046b18b82bbb703c71f2fc6c95313d5"), looks := false }, kinds := [], alts := [], laidByText := true, laidKinds := [.data, .data, .data], laidTests := true, laidLooks := .later }
def FixedFromIntCardSaid : Prop := Claim7.holds Tryd.pinned (.plain (OpenSpec.ofChange fixedFromIntSpec)) fixedFromIntCard

/-- THE TIED CARD OF 'compositorlaw06.FixedRatio'. -/
def fixedRatioCard : Claim7 := { stood := { row := fixedRatioRow, standIns := [], harness := (true, "d9d01e5c4a8ccec2b3bceb91c29d98b74046b18b82bbb703c71f2fc6c95313d5"), looks := false }, kinds := [], alts := [], laidByText := true, laidKinds := [.data, .data, .data], laidTests := true, laidLooks := .later }
def FixedRatioCardSaid : Prop := Claim7.holds Tryd.pinned (.plain (OpenSpec.ofChange fixedRatioSpec)) fixedRatioCard

/-- THE TIED CARD OF 'compositorlaw06.FixedNearest'. -/
def fixedNearestCard : Claim7 := { stood := { row := fixedNearestRow, standIns := [], harness := (true, "d9d01e5c4a8ccec2b3bceb91c29d98b74046b18b82bbb703c71f2fc6c95313d5"), looks := false }, kinds := [], alts := [], laidByText := true, laidKinds := [.data, .data, .data], laidTests := true, laidLooks := .later }
def FixedNearestCardSaid : Prop := Claim7.holds Tryd.pinned (.plain (OpenSpec.ofChange fixedNearestSpec)) fixedNearestCard

/-- THE TIED CARD OF 'compositorlaw06.FixedFloor'. -/
def fixedFloorCard : Claim7 := { stood := { row := fixedFloorRow, standIns := [], harness := (true, "d9d01e5c4a8ccec2b3bceb91c29d98b74046b18b82bbb703c71f2fc6c95313d5"), looks := false }, kinds := [], alts := [], laidByText := true, laidKinds := [.data, .data, .data], laidTests := true, laidLooks := .later }
def FixedFloorCardSaid : Prop := Claim7.holds Tryd.pinned (.plain (OpenSpec.ofChange fixedFloorSpec)) fixedFloorCard

/-- THE TIED CARD OF 'compositorlaw06.FixedArith'. -/
def fixedArithCard : Claim7 := { stood := { row := fixedArithRow, standIns := [], harness := (true, "d9d01e5c4a8ccec2b3bceb91c29d98b74046b18b82bbb703c71f2fc6c95313d5"), looks := false }, kinds := [], alts := [], laidByText := true, laidKinds := [.data, .data, .data], laidTests := true, laidLooks := .later }
def FixedArithCardSaid : Prop := Claim7.holds Tryd.pinned (.plain (OpenSpec.ofChange fixedArithSpec)) fixedArithCard

/-- THE TIED CARD OF 'compositorlaw06.FixedAlgebra'. -/
def fixedAlgebraCard : Claim7 := { stood := { row := fixedAlgebraRow, standIns := [], harness := (true, "d9d01e5c4a8ccec2b3bceb91c29d98b74046b18b82bbb703c71f2fc6c95313d5"), looks := false }, kinds := [], alts := [], laidByText := true, laidKinds := [.data, .data, .data], laidTests := true, laidLooks := .later }
def FixedAlgebraCardSaid : Prop := Claim7.holds Tryd.pinned (.plain (OpenSpec.ofChange fixedAlgebraSpec)) fixedAlgebraCard

/-- THE SECOND FORM's CARD OF 'compositorlaw06.FixedRoundTrip'. -/
def fixedRoundTripUptoCard : Claim7 := { stood := { row := fixedRoundTripUptoRow, standIns := [], harness := (true, "d9d01e5c4a8ccec2b3bceb91c29d98b74046b18b82bbb703c71f2fc6c95313d5"), looks := false }, kinds := [], alts := [], laidByText := true, laidKinds := [.data, .data, .data], laidTests := true, laidLooks := .later }
def FixedRoundTripUptoCardSaid : Prop := Claim7.holds Tryd.pinned (.plain (OpenSpec.upto fixedRoundTripSpec)) fixedRoundTripUptoCard

/-- THE SECOND FORM's CARD OF 'compositorlaw06.FixedParse'. -/
def fixedParseUptoCard : Claim7 := { stood := { row := fixedParseUptoRow, standIns := [], harness := (true, "d9d01e5c4a8ccec2b3bceb91c29d98b74046b18b82bbb703c71f2fc6c95313d5"), looks := false }, kinds := [], alts := [], laidByText := true, laidKinds := [.data, .data, .data], laidTests := true, laidLooks := .later }
def FixedParseUptoCardSaid : Prop := Claim7.holds Tryd.pinned (.plain (OpenSpec.upto fixedParseSpec)) fixedParseUptoCard

/-- THE SECOND FORM's CARD OF 'compositorlaw06.FixedFromInt'. -/
def fixedFromIntUptoCard : Claim7 := { stood := { row := fixedFromIntUptoRow, standIns := [], harness := (true, "d9d01e5c4a8ccec2b3bceb91c29d98b74046b18b82bbb703c71f2fc6c95313d5"), looks := false }, kinds := [], alts := [], laidByText := true, laidKinds := [.data, .data, .data], laidTests := true, laidLooks := .later }
def FixedFromIntUptoCardSaid : Prop := Claim7.holds Tryd.pinned (.plain (OpenSpec.upto fixedFromIntSpec)) fixedFromIntUptoCard

/-- THE SECOND FORM's CARD OF 'compositorlaw06.FixedRatio'. -/
def fixedRatioUptoCard : Claim7 := { stood := { row := fixedRatioUptoRow, standIns := [], harness := (true, "d9d01e5c4a8ccec2b3bceb91c29d98b74046b18b82bbb703c71f2fc6c95313d5"), looks := false }, kinds := [], alts := [], laidByText := true, laidKinds := [.data, .data, .data], laidTests := true, laidLooks := .later }
def FixedRatioUptoCardSaid : Prop := Claim7.holds Tryd.pinned (.plain (OpenSpec.upto fixedRatioSpec)) fixedRatioUptoCard

/-- THE SECOND FORM's CARD OF 'compositorlaw06.FixedNearest'. -/
def fixedNearestUptoCard : Claim7 := { stood := { row := fixedNearestUptoRow, standIns := [], harness := (true, "d9d01e5c4a8ccec2b3bceb91c29d98b74046b18b82bbb703c71f2fc6c95313d5"), looks := false }, kinds := [], alts := [], laidByText := true, laidKinds := [.data, .data, .data], laidTests := true, laidLooks := .later }
def FixedNearestUptoCardSaid : Prop := Claim7.holds Tryd.pinned (.plain (OpenSpec.upto fixedNearestSpec)) fixedNearestUptoCard

/-- THE SECOND FORM's CARD OF 'compositorlaw06.FixedFloor'. -/
def fixedFloorUptoCard : Claim7 := { stood := { row := fixedFloorUptoRow, standIns := [], harness := (true, "d9d01e5c4a8ccec2b3bceb91c29d98b74046b18b82bbb703c71f2fc6c95313d5"), looks := false }, kinds := [], alts := [], laidByText := true, laidKinds := [.data, .data, .data], laidTests := true, laidLooks := .later }
def FixedFloorUptoCardSaid : Prop := Claim7.holds Tryd.pinned (.plain (OpenSpec.upto fixedFloorSpec)) fixedFloorUptoCard

/-- THE SECOND FORM's CARD OF 'compositorlaw06.FixedArith'. -/
def fixedArithUptoCard : Claim7 := { stood := { row := fixedArithUptoRow, standIns := [], harness := (true, "d9d01e5c4a8ccec2b3bceb91c29d98b74046b18b82bbb703c71f2fc6c95313d5"), looks := false }, kinds := [], alts := [], laidByText := true, laidKinds := [.data, .data, .data], laidTests := true, laidLooks := .later }
def FixedArithUptoCardSaid : Prop := Claim7.holds Tryd.pinned (.plain (OpenSpec.upto fixedArithSpec)) fixedArithUptoCard

/-- THE SECOND FORM's CARD OF 'compositorlaw06.FixedAlgebra'. -/
def fixedAlgebraUptoCard : Claim7 := { stood := { row := fixedAlgebraUptoRow, standIns := [], harness := (true, "d9d01e5c4a8ccec2b3bceb91c29d98b74046b18b82bbb703c71f2fc6c95313d5"), looks := false }, kinds := [], alts := [], laidByText := true, laidKinds := [.data, .data, .data], laidTests := true, laidLooks := .later }
def FixedAlgebraUptoCardSaid : Prop := Claim7.holds Tryd.pinned (.plain (OpenSpec.upto fixedAlgebraSpec)) fixedAlgebraUptoCard
end Rows
end Go.Proofs.YtkjfpjammlihpaaDoor
