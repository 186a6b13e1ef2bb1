/- IfaceTable: runs. -/
import Derived.Test.YtdblaloadklcfaaDoorIfTbR
set_option linter.unusedVariables false
namespace Go.Proofs.YtdblaloadklcfaaDoor
open Go.Sx

theorem runX5_9 (ρ : Nat → Value) : runT ρ (pcX 5 9) = true := by kernel_rfl
theorem runX5_0 (ρ : Nat → Value) : runT ρ (pcX 5 0) = true := by kernel_rfl
theorem runX10_1 (ρ : Nat → Value) : runT ρ (pcX 10 1) = true := by kernel_rfl
theorem runX12_2 (ρ : Nat → Value) : runT ρ (pcX 12 2) = true := by kernel_rfl
theorem runX3_0 (ρ : Nat → Value) : runT ρ (pcX 3 0) = true := by kernel_rfl
theorem runX2_0 (ρ : Nat → Value) : runT ρ (pcX 2 0) = true := by kernel_rfl
end Go.Proofs.YtdblaloadklcfaaDoor
