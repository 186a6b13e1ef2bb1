/- ClientLives: runs. -/
import Derived.Test.YtoedgmenbohgiaaGreatDoorCvR
set_option linter.unusedVariables false
namespace Go.Proofs.YtoedgmenbohgiaaGreatDoor
open Go.Sx
theorem runN_display (ρ : Nat → Value) : runN ρ "display" = true := by kernel_rfl
theorem runN_registry (ρ : Nat → Value) : runN ρ "registry" = true := by kernel_rfl
theorem runN_callback (ρ : Nat → Value) : runN ρ "callback" = true := by kernel_rfl
theorem runN_shell (ρ : Nat → Value) : runN ρ "shell" = true := by kernel_rfl
end Go.Proofs.YtoedgmenbohgiaaGreatDoor
