/- IfaceTable: runs. -/
import Derived.Test.YtdblaloadklcfaaDoorIfTbR
set_option linter.unusedVariables false
namespace Go.Proofs.YtdblaloadklcfaaDoor
open Go.Sx

theorem runX5_10 (ρ : Nat → Value) : runT ρ (pcX 5 10) = true := by kernel_rfl
theorem runY6 (ρ : Nat → Value) : runT ρ (pcY 6 6) = true := by kernel_rfl
theorem runY10 (ρ : Nat → Value) : runT ρ (pcY 10 6) = true := by kernel_rfl
theorem runX10_0 (ρ : Nat → Value) : runT ρ (pcX 10 0) = true := by kernel_rfl
theorem runX8_0 (ρ : Nat → Value) : runT ρ (pcX 8 0) = true := by kernel_rfl
theorem runY2 (ρ : Nat → Value) : runT ρ (pcY 2 1) = true := by kernel_rfl
end Go.Proofs.YtdblaloadklcfaaDoor
