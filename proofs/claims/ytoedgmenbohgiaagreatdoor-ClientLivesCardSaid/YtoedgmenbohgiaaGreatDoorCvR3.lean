/- ClientLives: runs. -/
import Derived.Test.YtoedgmenbohgiaaGreatDoorCvR
set_option linter.unusedVariables false
namespace Go.Proofs.YtoedgmenbohgiaaGreatDoor
open Go.Sx
theorem runN_popup (ρ : Nat → Value) : runN ρ "popup" = true := by kernel_rfl
theorem runN_seat (ρ : Nat → Value) : runN ρ "seat" = true := by kernel_rfl
theorem runN_pointer (ρ : Nat → Value) : runN ρ "pointer" = true := by kernel_rfl
theorem runN_keyboard (ρ : Nat → Value) : runN ρ "keyboard" = true := by kernel_rfl
end Go.Proofs.YtoedgmenbohgiaaGreatDoor
