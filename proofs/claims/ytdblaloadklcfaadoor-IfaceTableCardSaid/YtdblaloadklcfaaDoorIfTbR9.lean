/- IfaceTable: runs. -/
import Derived.Test.YtdblaloadklcfaaDoorIfTbR
set_option linter.unusedVariables false
namespace Go.Proofs.YtdblaloadklcfaaDoor
open Go.Sx

theorem runX5_2 (ρ : Nat → Value) : runT ρ (pcX 5 2) = true := by kernel_rfl
theorem runX9_2 (ρ : Nat → Value) : runT ρ (pcX 9 2) = true := by kernel_rfl
theorem runX10_5 (ρ : Nat → Value) : runT ρ (pcX 10 5) = true := by kernel_rfl
theorem runY12 (ρ : Nat → Value) : runT ρ (pcY 12 3) = true := by kernel_rfl
theorem runX12_0 (ρ : Nat → Value) : runT ρ (pcX 12 0) = true := by kernel_rfl
theorem runY4 (ρ : Nat → Value) : runT ρ (pcY 4 1) = true := by kernel_rfl
end Go.Proofs.YtdblaloadklcfaaDoor
