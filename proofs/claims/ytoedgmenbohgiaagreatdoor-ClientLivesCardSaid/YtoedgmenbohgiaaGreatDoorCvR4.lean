/- ClientLives: runs. -/
import Derived.Test.YtoedgmenbohgiaaGreatDoorCvR
set_option linter.unusedVariables false
namespace Go.Proofs.YtoedgmenbohgiaaGreatDoor
open Go.Sx
theorem runN_touch (ρ : Nat → Value) : runN ρ "touch" = true := by kernel_rfl
theorem runN_output (ρ : Nat → Value) : runN ρ "output" = true := by kernel_rfl
theorem runN_presentation (ρ : Nat → Value) : runN ρ "presentation" = true := by kernel_rfl
end Go.Proofs.YtoedgmenbohgiaaGreatDoor
