/- IfaceTable: runs. -/
import Derived.Test.YtdblaloadklcfaaDoorIfTbR
set_option linter.unusedVariables false
namespace Go.Proofs.YtdblaloadklcfaaDoor
open Go.Sx

theorem runY5 (ρ : Nat → Value) : runT ρ (pcY 5 13) = true := by kernel_rfl
theorem runX5_1 (ρ : Nat → Value) : runT ρ (pcX 5 1) = true := by kernel_rfl
theorem runX10_2 (ρ : Nat → Value) : runT ρ (pcX 10 2) = true := by kernel_rfl
theorem runX7_0 (ρ : Nat → Value) : runT ρ (pcX 7 0) = true := by kernel_rfl
theorem runX3_1 (ρ : Nat → Value) : runT ρ (pcX 3 1) = true := by kernel_rfl
theorem runX4_0 (ρ : Nat → Value) : runT ρ (pcX 4 0) = true := by kernel_rfl
end Go.Proofs.YtdblaloadklcfaaDoor
