/- IfaceTable: runs. -/
import Derived.Test.YtdblaloadklcfaaDoorIfTbR
set_option linter.unusedVariables false
namespace Go.Proofs.YtdblaloadklcfaaDoor
open Go.Sx

theorem runX5_12 (ρ : Nat → Value) : runT ρ (pcX 5 12) = true := by kernel_rfl
theorem runX9_1 (ρ : Nat → Value) : runT ρ (pcX 9 1) = true := by kernel_rfl
theorem runX10_4 (ρ : Nat → Value) : runT ρ (pcX 10 4) = true := by kernel_rfl
theorem runX7_2 (ρ : Nat → Value) : runT ρ (pcX 7 2) = true := by kernel_rfl
theorem runY8 (ρ : Nat → Value) : runT ρ (pcY 8 2) = true := by kernel_rfl
theorem runX1_1 (ρ : Nat → Value) : runT ρ (pcX 1 1) = true := by kernel_rfl
end Go.Proofs.YtdblaloadklcfaaDoor
