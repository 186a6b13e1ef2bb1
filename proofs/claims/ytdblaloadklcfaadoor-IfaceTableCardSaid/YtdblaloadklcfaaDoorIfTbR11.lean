/- IfaceTable: runs. -/
import Derived.Test.YtdblaloadklcfaaDoorIfTbR
set_option linter.unusedVariables false
namespace Go.Proofs.YtdblaloadklcfaaDoor
open Go.Sx

theorem runX5_11 (ρ : Nat → Value) : runT ρ (pcX 5 11) = true := by kernel_rfl
theorem runX9_0 (ρ : Nat → Value) : runT ρ (pcX 9 0) = true := by kernel_rfl
theorem runX10_3 (ρ : Nat → Value) : runT ρ (pcX 10 3) = true := by kernel_rfl
theorem runX7_1 (ρ : Nat → Value) : runT ρ (pcX 7 1) = true := by kernel_rfl
theorem runY3 (ρ : Nat → Value) : runT ρ (pcY 3 2) = true := by kernel_rfl
theorem runX1_0 (ρ : Nat → Value) : runT ρ (pcX 1 0) = true := by kernel_rfl
end Go.Proofs.YtdblaloadklcfaaDoor
