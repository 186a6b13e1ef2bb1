/-
  DERIVED. GIVEN WITH THE SEED: THE CARDS: each row of YtehjnpokalknkaaGreatDoorRows.lean that lists a variable, with what it lists TIED to the program's text (the seventh form; the later family's looks); each row that meets fmt, with fmt's text TOLD by the authors' own Lean function (tested against real Go, not proved from fmt's source: count such statements apart). THE CARD IS WHAT COUNTS. Prove the row's statement (the work); the ties are given (YtehjnpokalknkaaGreatDoorTie.lean); close each card by the builder's one call (the guide's Derived/Test/ToyasCard.lean, 'card_holds'). Laid BY PROGRAM, IN A SANDBOX (cutbox-door.mjs). By AI agents, Wed Nov 11 2026. No macro, syntax, notation, axiom, sorry.
-/
import Derived.Test.YtehjnpokalknkaaGreatDoorRows
import GoSem.ClaimSeven
namespace Go.Proofs.YtehjnpokalknkaaGreatDoor
namespace Rows

/-- THE TIED CARD OF 'compositorlaw46.ClientStreaming'. -/
def clientStreamingCard : Claim7 := { stood := { row := clientStreamingRow, standIns := [], harness := (true, "d8748249cd4d0500ba2dc8dc4eddfd69f278179928edb9653242c1ecb969d4f2"), looks := false }, kinds := [], alts := [], laidByText := true, laidKinds := [.data, .data, .pinned], laidTests := true, laidLooks := .later }
def ClientStreamingCardSaid : Prop := Claim7.holds Tryz.pinned (.plain (OpenSpec.ofChange clientStreamingSpec)) clientStreamingCard

/-- THE TIED CARD OF 'compositorlaw46.ClientLives'. -/
def clientLivesCard : Claim7 := { stood := { row := clientLivesRow, standIns := [], harness := (true, "d8748249cd4d0500ba2dc8dc4eddfd69f278179928edb9653242c1ecb969d4f2"), looks := false }, kinds := [], alts := [], laidByText := true, laidKinds := [.data, .data, .pinned], laidTests := true, laidLooks := .later }
def ClientLivesCardSaid : Prop := Claim7.holds Tryz.pinned (.plain (OpenSpec.ofChange clientLivesSpec)) clientLivesCard

/-- THE TIED CARD OF 'compositorlaw46.ClientSends'. -/
def clientSendsCard : Claim7 := { stood := { row := clientSendsRow, standIns := [], harness := (true, "d8748249cd4d0500ba2dc8dc4eddfd69f278179928edb9653242c1ecb969d4f2"), looks := false }, kinds := [], alts := [], laidByText := true, laidKinds := [.data, .data, .pinned], laidTests := true, laidLooks := .later }
def ClientSendsCardSaid : Prop := Claim7.holds Tryz.pinned (.plain (OpenSpec.ofChange clientSendsSpec)) clientSendsCard

/-- THE TIED CARD OF 'compositorlaw46.ClientSteps'. -/
def clientStepsCard : Claim7 := { stood := { row := clientStepsRow, standIns := [], harness := (true, "d8748249cd4d0500ba2dc8dc4eddfd69f278179928edb9653242c1ecb969d4f2"), looks := false }, kinds := [], alts := [], laidByText := true, laidKinds := [.data, .data, .pinned], laidTests := true, laidLooks := .later }
def ClientStepsCardSaid : Prop := Claim7.holds Tryz.pinned (.plain (OpenSpec.ofChange clientStepsSpec)) clientStepsCard

/-- THE TIED CARD OF 'compositorlaw46.ClientNil'. -/
def clientNilCard : Claim7 := { stood := { row := clientNilRow, standIns := [], harness := (true, "d8748249cd4d0500ba2dc8dc4eddfd69f278179928edb9653242c1ecb969d4f2"), looks := false }, kinds := [], alts := [], laidByText := true, laidKinds := [.data, .data, .pinned], laidTests := true, laidLooks := .later }
def ClientNilCardSaid : Prop := Claim7.holds Tryz.pinned (.plain (OpenSpec.ofChange clientNilSpec)) clientNilCard

/-- THE TIED CARD OF 'compositorlaw46.ClientDisconnects'. -/
def clientDisconnectsCard : Claim7 := { stood := { row := clientDisconnectsRow, standIns := [], harness := (true, "d8748249cd4d0500ba2dc8dc4eddfd69f278179928edb9653242c1ecb969d4f2"), looks := false }, kinds := [], alts := [], laidByText := true, laidKinds := [.data, .data, .pinned], laidTests := true, laidLooks := .later }
def ClientDisconnectsCardSaid : Prop := Claim7.holds Tryz.pinned (.plain (OpenSpec.ofChange clientDisconnectsSpec)) clientDisconnectsCard

/-- THE TIED CARD OF 'compositorlaw46.ClientServerIDs'. -/
def clientServerIDsCard : Claim7 := { stood := { row := clientServerIDsRow, standIns := [], harness := (true, "d8748249cd4d0500ba2dc8dc4eddfd69f278179928edb9653242c1ecb969d4f2"), looks := false }, kinds := [], alts := [], laidByText := true, laidKinds := [.data, .data, .pinned], laidTests := true, laidLooks := .later }
def ClientServerIDsCardSaid : Prop := Claim7.holds Tryz.pinned (.plain (OpenSpec.ofChange clientServerIDsSpec)) clientServerIDsCard

/-- THE SECOND FORM's CARD OF 'compositorlaw46.ClientStreaming'. -/
def clientStreamingUptoCard : Claim7 := { stood := { row := clientStreamingUptoRow, standIns := [], harness := (true, "d8748249cd4d0500ba2dc8dc4eddfd69f278179928edb9653242c1ecb969d4f2"), looks := false }, kinds := [], alts := [], laidByText := true, laidKinds := [.data, .data, .pinned], laidTests := true, laidLooks := .later }
def ClientStreamingUptoCardSaid : Prop := Claim7.holds Tryz.pinned (.plain (OpenSpec.upto clientStreamingSpec)) clientStreamingUptoCard

/-- THE SECOND FORM's CARD OF 'compositorlaw46.ClientLives'. -/
def clientLivesUptoCard : Claim7 := { stood := { row := clientLivesUptoRow, standIns := [], harness := (true, "d8748249cd4d0500ba2dc8dc4eddfd69f278179928edb9653242c1ecb969d4f2"), looks := false }, kinds := [], alts := [], laidByText := true, laidKinds := [.data, .data, .pinned], laidTests := true, laidLooks := .later }
def ClientLivesUptoCardSaid : Prop := Claim7.holds Tryz.pinned (.plain (OpenSpec.upto clientLivesSpec)) clientLivesUptoCard

/-- THE SECOND FORM's CARD OF 'compositorlaw46.ClientSends'. -/
def clientSendsUptoCard : Claim7 := { stood := { row := clientSendsUptoRow, standIns := [], harness := (true, "d8748249cd4d0500ba2dc8dc4eddfd69f278179928edb9653242c1ecb969d4f2"), looks := false }, kinds := [], alts := [], laidByText := true, laidKinds := [.data, .data, .pinned], laidTests := true, laidLooks := .later }
def ClientSendsUptoCardSaid : Prop := Claim7.holds Tryz.pinned (.plain (OpenSpec.upto clientSendsSpec)) clientSendsUptoCard

/-- THE SECOND FORM's CARD OF 'compositorlaw46.ClientSteps'. -/
def clientStepsUptoCard : Claim7 := { stood := { row := clientStepsUptoRow, standIns := [], harness := (true, "d8748249cd4d0500ba2dc8dc4eddfd69f278179928edb9653242c1ecb969d4f2"), looks := false }, kinds := [], alts := [], laidByText := true, laidKinds := [.data, .data, .pinned], laidTests := true, laidLooks := .later }
def ClientStepsUptoCardSaid : Prop := Claim7.holds Tryz.pinned (.plain (OpenSpec.upto clientStepsSpec)) clientStepsUptoCard

/-- THE SECOND FORM's CARD OF 'compositorlaw46.ClientNil'. -/
def clientNilUptoCard : Claim7 := { stood := { row := clientNilUptoRow, standIns := [], harness := (true, "d8748249cd4d0500ba2dc8dc4eddfd69f278179928edb9653242c1ecb969d4f2"), looks := false }, kinds := [], alts := [], laidByText := true, laidKinds := [.data, .data, .pinned], laidTests := true, laidLooks := .later }
def ClientNilUptoCardSaid : Prop := Claim7.holds Tryz.pinned (.plain (OpenSpec.upto clientNilSpec)) clientNilUptoCard

/-- THE SECOND FORM's CARD OF 'compositorlaw46.ClientDisconnects'. -/
def clientDisconnectsUptoCard : Claim7 := { stood := { row := clientDisconnectsUptoRow, standIns := [], harness := (true, "d8748249cd4d0500ba2dc8dc4eddfd69f278179928edb9653242c1ecb969d4f2"), looks := false }, kinds := [], alts := [], laidByText := true, laidKinds := [.data, .data, .pinned], laidTests := true, laidLooks := .later }
def ClientDisconnectsUptoCardSaid : Prop := Claim7.holds Tryz.pinned (.plain (OpenSpec.upto clientDisconnectsSpec)) clientDisconnectsUptoCard

/-- THE SECOND FORM's CARD OF 'compositorlaw46.ClientServerIDs'. -/
def clientServerIDsUptoCard : Claim7 := { stood := { row := clientServerIDsUptoRow, standIns := [], harness := (true, "d8748249cd4d0500ba2dc8dc4eddfd69f278179928edb9653242c1ecb969d4f2"), looks := false }, kinds := [], alts := [], laidByText := true, laidKinds := [.data, .data, .pinned], laidTests := true, laidLooks := .later }
def ClientServerIDsUptoCardSaid : Prop := Claim7.holds Tryz.pinned (.plain (OpenSpec.upto clientServerIDsSpec)) clientServerIDsUptoCard
end Rows
end Go.Proofs.YtehjnpokalknkaaGreatDoor
