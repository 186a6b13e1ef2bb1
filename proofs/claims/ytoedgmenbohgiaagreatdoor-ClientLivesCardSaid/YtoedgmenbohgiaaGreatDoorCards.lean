/-
  DERIVED. GIVEN WITH THE SEED: THE CARDS: each row of YtoedgmenbohgiaaGreatDoorRows.lean that lists a variable, with what it lists TIED to the program's text (the seventh form; the later family's looks); each row that meets fmt, with fmt's text TOLD by the authors' own Lean function (tested against real Go, not proved from fmt's source: count such statements apart). THE CARD IS WHAT COUNTS. Prove the row's statement (the work); the ties are given (YtoedgmenbohgiaaGreatDoorTie.lean); close each card by the builder's one call (the guide's Derived/Test/ToyasCard.lean, 'card_holds'). Laid BY PROGRAM, IN A SANDBOX (cutbox-door.mjs). By AI agents, Wed Nov 11 2026. No macro, syntax, notation, axiom, sorry.
-/
import Derived.Test.YtoedgmenbohgiaaGreatDoorRows
import GoSem.ClaimSeven
namespace Go.Proofs.YtoedgmenbohgiaaGreatDoor
namespace Rows

/-- THE TIED CARD OF 'compositorlaw46.ClientLives'. -/
def clientLivesCard : Claim7 := { stood := { row := clientLivesRow, standIns := [], harness := (true, "6080b4c8d8747d5ccd12bcc354faf522fc65d2ab05111c1ce2b087c7003ee971"), looks := false }, kinds := [], alts := [], laidByText := true, laidKinds := [.data, .data, .pinned], laidTests := true, laidLooks := .later }
def ClientLivesCardSaid : Prop := Claim7.holds Tryz.pinned (.plain (OpenSpec.ofChange clientLivesSpec)) clientLivesCard

/-- THE TIED CARD OF 'compositorlaw46.ClientServerIDs'. -/
def clientServerIDsCard : Claim7 := { stood := { row := clientServerIDsRow, standIns := [], harness := (true, "6080b4c8d8747d5ccd12bcc354faf522fc65d2ab05111c1ce2b087c7003ee971"), looks := false }, kinds := [], alts := [], laidByText := true, laidKinds := [.data, .data, .pinned], laidTests := true, laidLooks := .later }
def ClientServerIDsCardSaid : Prop := Claim7.holds Tryz.pinned (.plain (OpenSpec.ofChange clientServerIDsSpec)) clientServerIDsCard

/-- THE SECOND FORM's CARD OF 'compositorlaw46.ClientLives'. -/
def clientLivesUptoCard : Claim7 := { stood := { row := clientLivesUptoRow, standIns := [], harness := (true, "6080b4c8d8747d5ccd12bcc354faf522fc65d2ab05111c1ce2b087c7003ee971"), looks := false }, kinds := [], alts := [], laidByText := true, laidKinds := [.data, .data, .pinned], laidTests := true, laidLooks := .later }
def ClientLivesUptoCardSaid : Prop := Claim7.holds Tryz.pinned (.plain (OpenSpec.upto clientLivesSpec)) clientLivesUptoCard

/-- THE SECOND FORM's CARD OF 'compositorlaw46.ClientServerIDs'. -/
def clientServerIDsUptoCard : Claim7 := { stood := { row := clientServerIDsUptoRow, standIns := [], harness := (true, "6080b4c8d8747d5ccd12bcc354faf522fc65d2ab05111c1ce2b087c7003ee971"), looks := false }, kinds := [], alts := [], laidByText := true, laidKinds := [.data, .data, .pinned], laidTests := true, laidLooks := .later }
def ClientServerIDsUptoCardSaid : Prop := Claim7.holds Tryz.pinned (.plain (OpenSpec.upto clientServerIDsSpec)) clientServerIDsUptoCard
end Rows
end Go.Proofs.YtoedgmenbohgiaaGreatDoor
