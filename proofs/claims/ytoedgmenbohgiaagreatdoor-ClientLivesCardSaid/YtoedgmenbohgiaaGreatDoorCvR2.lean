/- ClientLives: runs. -/
import Derived.Test.YtoedgmenbohgiaaGreatDoorCvR
set_option linter.unusedVariables false
namespace Go.Proofs.YtoedgmenbohgiaaGreatDoor
open Go.Sx
theorem runN_buffer (ρ : Nat → Value) : runN ρ "buffer" = true := by kernel_rfl
theorem runN_surface (ρ : Nat → Value) : runN ρ "surface" = true := by kernel_rfl
theorem runN_subsurface (ρ : Nat → Value) : runN ρ "subsurface" = true := by kernel_rfl
theorem runN_toplevel (ρ : Nat → Value) : runN ρ "toplevel" = true := by kernel_rfl
end Go.Proofs.YtoedgmenbohgiaaGreatDoor
