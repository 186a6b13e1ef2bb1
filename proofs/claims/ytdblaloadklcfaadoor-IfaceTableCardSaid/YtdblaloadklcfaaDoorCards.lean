/-
  DERIVED. GIVEN WITH THE SEED: THE CARDS: each row of YtdblaloadklcfaaDoorRows.lean that lists a variable, with what it lists TIED to the program's text (the seventh form; the later family's looks); each row that meets fmt, with fmt's text TOLD by the authors' own Lean function (tested against real Go, not proved from fmt's source: count such statements apart). THE CARD IS WHAT COUNTS. Prove the row's statement (the work); the ties are given (YtdblaloadklcfaaDoorTie.lean); close each card by the builder's one call (the guide's Derived/Test/ToyasCard.lean, 'card_holds'). Laid BY PROGRAM, IN A SANDBOX (cutbox-door.mjs). By AI agents, Wed Nov 11 2026. No macro, syntax, notation, axiom, sorry.
-/
import Derived.Test.YtdblaloadklcfaaDoorRows
import GoSem.ClaimSeven
namespace Go.Proofs.YtdblaloadklcfaaDoor
namespace Rows

/-- THE TIED CARD OF 'compositorlaw12.IfaceRequest'. -/
def ifaceRequestCard : Claim7 := { stood := { row := ifaceRequestRow, standIns := [], harness := (true, "dcc831f57f73089cd710b1992176d1a6b682de6f82427575c8c19fc73d6bfa77"), looks := false }, kinds := [], alts := [], laidByText := true, laidKinds := [.data, .data, .pinned], laidTests := true, laidLooks := .later }
def IfaceRequestCardSaid : Prop := Claim7.holds Tryd.pinned (.plain (OpenSpec.ofChange ifaceRequestSpec)) ifaceRequestCard

/-- THE TIED CARD OF 'compositorlaw12.IfaceEvent'. -/
def ifaceEventCard : Claim7 := { stood := { row := ifaceEventRow, standIns := [], harness := (true, "dcc831f57f73089cd710b1992176d1a6b682de6f82427575c8c19fc73d6bfa77"), looks := false }, kinds := [], alts := [], laidByText := true, laidKinds := [.data, .data, .pinned], laidTests := true, laidLooks := .later }
def IfaceEventCardSaid : Prop := Claim7.holds Tryd.pinned (.plain (OpenSpec.ofChange ifaceEventSpec)) ifaceEventCard

/-- THE TIED CARD OF 'compositorlaw12.IfaceOpcode'. -/
def ifaceOpcodeCard : Claim7 := { stood := { row := ifaceOpcodeRow, standIns := [], harness := (true, "dcc831f57f73089cd710b1992176d1a6b682de6f82427575c8c19fc73d6bfa77"), looks := false }, kinds := [], alts := [], laidByText := true, laidKinds := [.data, .data, .pinned], laidTests := true, laidLooks := .later }
def IfaceOpcodeCardSaid : Prop := Claim7.holds Tryd.pinned (.plain (OpenSpec.ofChange ifaceOpcodeSpec)) ifaceOpcodeCard

/-- THE TIED CARD OF 'compositorlaw12.IfaceSignature'. -/
def ifaceSignatureCard : Claim7 := { stood := { row := ifaceSignatureRow, standIns := [], harness := (true, "dcc831f57f73089cd710b1992176d1a6b682de6f82427575c8c19fc73d6bfa77"), looks := false }, kinds := [], alts := [], laidByText := true, laidKinds := [.data, .data, .pinned], laidTests := true, laidLooks := .later }
def IfaceSignatureCardSaid : Prop := Claim7.holds Tryd.pinned (.plain (OpenSpec.ofChange ifaceSignatureSpec)) ifaceSignatureCard

/-- THE TIED CARD OF 'compositorlaw12.IfaceKinds'. -/
def ifaceKindsCard : Claim7 := { stood := { row := ifaceKindsRow, standIns := [], harness := (true, "dcc831f57f73089cd710b1992176d1a6b682de6f82427575c8c19fc73d6bfa77"), looks := false }, kinds := [], alts := [], laidByText := true, laidKinds := [.data, .data, .pinned], laidTests := true, laidLooks := .later }
def IfaceKindsCardSaid : Prop := Claim7.holds Tryd.pinned (.plain (OpenSpec.ofChange ifaceKindsSpec)) ifaceKindsCard

/-- THE TIED CARD OF 'compositorlaw12.IfaceVersions'. -/
def ifaceVersionsCard : Claim7 := { stood := { row := ifaceVersionsRow, standIns := [], harness := (true, "dcc831f57f73089cd710b1992176d1a6b682de6f82427575c8c19fc73d6bfa77"), looks := false }, kinds := [], alts := [], laidByText := true, laidKinds := [.data, .data, .pinned], laidTests := true, laidLooks := .later }
def IfaceVersionsCardSaid : Prop := Claim7.holds Tryd.pinned (.plain (OpenSpec.ofChange ifaceVersionsSpec)) ifaceVersionsCard

/-- THE TIED CARD OF 'compositorlaw12.IfaceNames'. -/
def ifaceNamesCard : Claim7 := { stood := { row := ifaceNamesRow, standIns := [], harness := (true, "dcc831f57f73089cd710b1992176d1a6b682de6f82427575c8c19fc73d6bfa77"), looks := false }, kinds := [], alts := [], laidByText := true, laidKinds := [.data, .data, .pinned], laidTests := true, laidLooks := .later }
def IfaceNamesCardSaid : Prop := Claim7.holds Tryd.pinned (.plain (OpenSpec.ofChange ifaceNamesSpec)) ifaceNamesCard

/-- THE TIED CARD OF 'compositorlaw12.IfaceTable'. -/
def ifaceTableCard : Claim7 := { stood := { row := ifaceTableRow, standIns := [], harness := (true, "dcc831f57f73089cd710b1992176d1a6b682de6f82427575c8c19fc73d6bfa77"), looks := false }, kinds := [], alts := [], laidByText := true, laidKinds := [.data, .data, .pinned], laidTests := true, laidLooks := .later }
def IfaceTableCardSaid : Prop := Claim7.holds Tryd.pinned (.plain (OpenSpec.ofChange ifaceTableSpec)) ifaceTableCard

/-- THE SECOND FORM's CARD OF 'compositorlaw12.IfaceRequest'. -/
def ifaceRequestUptoCard : Claim7 := { stood := { row := ifaceRequestUptoRow, standIns := [], harness := (true, "dcc831f57f73089cd710b1992176d1a6b682de6f82427575c8c19fc73d6bfa77"), looks := false }, kinds := [], alts := [], laidByText := true, laidKinds := [.data, .data, .pinned], laidTests := true, laidLooks := .later }
def IfaceRequestUptoCardSaid : Prop := Claim7.holds Tryd.pinned (.plain (OpenSpec.upto ifaceRequestSpec)) ifaceRequestUptoCard

/-- THE SECOND FORM's CARD OF 'compositorlaw12.IfaceEvent'. -/
def ifaceEventUptoCard : Claim7 := { stood := { row := ifaceEventUptoRow, standIns := [], harness := (true, "dcc831f57f73089cd710b1992176d1a6b682de6f82427575c8c19fc73d6bfa77"), looks := false }, kinds := [], alts := [], laidByText := true, laidKinds := [.data, .data, .pinned], laidTests := true, laidLooks := .later }
def IfaceEventUptoCardSaid : Prop := Claim7.holds Tryd.pinned (.plain (OpenSpec.upto ifaceEventSpec)) ifaceEventUptoCard

/-- THE SECOND FORM's CARD OF 'compositorlaw12.IfaceOpcode'. -/
def ifaceOpcodeUptoCard : Claim7 := { stood := { row := ifaceOpcodeUptoRow, standIns := [], harness := (true, "dcc831f57f73089cd710b1992176d1a6b682de6f82427575c8c19fc73d6bfa77"), looks := false }, kinds := [], alts := [], laidByText := true, laidKinds := [.data, .data, .pinned], laidTests := true, laidLooks := .later }
def IfaceOpcodeUptoCardSaid : Prop := Claim7.holds Tryd.pinned (.plain (OpenSpec.upto ifaceOpcodeSpec)) ifaceOpcodeUptoCard

/-- THE SECOND FORM's CARD OF 'compositorlaw12.IfaceSignature'. -/
def ifaceSignatureUptoCard : Claim7 := { stood := { row := ifaceSignatureUptoRow, standIns := [], harness := (true, "dcc831f57f73089cd710b1992176d1a6b682de6f82427575c8c19fc73d6bfa77"), looks := false }, kinds := [], alts := [], laidByText := true, laidKinds := [.data, .data, .pinned], laidTests := true, laidLooks := .later }
def IfaceSignatureUptoCardSaid : Prop := Claim7.holds Tryd.pinned (.plain (OpenSpec.upto ifaceSignatureSpec)) ifaceSignatureUptoCard

/-- THE SECOND FORM's CARD OF 'compositorlaw12.IfaceKinds'. -/
def ifaceKindsUptoCard : Claim7 := { stood := { row := ifaceKindsUptoRow, standIns := [], harness := (true, "dcc831f57f73089cd710b1992176d1a6b682de6f82427575c8c19fc73d6bfa77"), looks := false }, kinds := [], alts := [], laidByText := true, laidKinds := [.data, .data, .pinned], laidTests := true, laidLooks := .later }
def IfaceKindsUptoCardSaid : Prop := Claim7.holds Tryd.pinned (.plain (OpenSpec.upto ifaceKindsSpec)) ifaceKindsUptoCard

/-- THE SECOND FORM's CARD OF 'compositorlaw12.IfaceVersions'. -/
def ifaceVersionsUptoCard : Claim7 := { stood := { row := ifaceVersionsUptoRow, standIns := [], harness := (true, "dcc831f57f73089cd710b1992176d1a6b682de6f82427575c8c19fc73d6bfa77"), looks := false }, kinds := [], alts := [], laidByText := true, laidKinds := [.data, .data, .pinned], laidTests := true, laidLooks := .later }
def IfaceVersionsUptoCardSaid : Prop := Claim7.holds Tryd.pinned (.plain (OpenSpec.upto ifaceVersionsSpec)) ifaceVersionsUptoCard

/-- THE SECOND FORM's CARD OF 'compositorlaw12.IfaceNames'. -/
def ifaceNamesUptoCard : Claim7 := { stood := { row := ifaceNamesUptoRow, standIns := [], harness := (true, "dcc831f57f73089cd710b1992176d1a6b682de6f82427575c8c19fc73d6bfa77"), looks := false }, kinds := [], alts := [], laidByText := true, laidKinds := [.data, .data, .pinned], laidTests := true, laidLooks := .later }
def IfaceNamesUptoCardSaid : Prop := Claim7.holds Tryd.pinned (.plain (OpenSpec.upto ifaceNamesSpec)) ifaceNamesUptoCard

/-- THE SECOND FORM's CARD OF 'compositorlaw12.IfaceTable'. -/
def ifaceTableUptoCard : Claim7 := { stood := { row := ifaceTableUptoRow, standIns := [], harness := (true, "dcc831f57f73089cd710b1992176d1a6b682de6f82427575c8c19fc73d6bfa77"), looks := false }, kinds := [], alts := [], laidByText := true, laidKinds := [.data, .data, .pinned], laidTests := true, laidLooks := .later }
def IfaceTableUptoCardSaid : Prop := Claim7.holds Tryd.pinned (.plain (OpenSpec.upto ifaceTableSpec)) ifaceTableUptoCard
end Rows
end Go.Proofs.YtdblaloadklcfaaDoor
