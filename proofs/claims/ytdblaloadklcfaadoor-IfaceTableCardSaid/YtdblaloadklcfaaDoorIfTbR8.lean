/- IfaceTable: runs. -/
import Derived.Test.YtdblaloadklcfaaDoorIfTbR
set_option linter.unusedVariables false
namespace Go.Proofs.YtdblaloadklcfaaDoor
open Go.Sx

theorem runX5_3 (ρ : Nat → Value) : runT ρ (pcX 5 3) = true := by kernel_rfl
theorem runX9_3 (ρ : Nat → Value) : runT ρ (pcX 9 3) = true := by kernel_rfl
theorem runX6_0 (ρ : Nat → Value) : runT ρ (pcX 6 0) = true := by kernel_rfl
theorem runY7 (ρ : Nat → Value) : runT ρ (pcY 7 3) = true := by kernel_rfl
theorem runX12_1 (ρ : Nat → Value) : runT ρ (pcX 12 1) = true := by kernel_rfl
theorem runX0_0 (ρ : Nat → Value) : runT ρ (pcX 0 0) = true := by kernel_rfl
end Go.Proofs.YtdblaloadklcfaaDoor
