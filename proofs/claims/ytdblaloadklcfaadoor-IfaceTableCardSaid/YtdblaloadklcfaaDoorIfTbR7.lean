/- IfaceTable: runs. -/
import Derived.Test.YtdblaloadklcfaaDoorIfTbR
set_option linter.unusedVariables false
namespace Go.Proofs.YtdblaloadklcfaaDoor
open Go.Sx

theorem runX5_4 (ρ : Nat → Value) : runT ρ (pcX 5 4) = true := by kernel_rfl
theorem runX9_4 (ρ : Nat → Value) : runT ρ (pcX 9 4) = true := by kernel_rfl
theorem runX6_1 (ρ : Nat → Value) : runT ρ (pcX 6 1) = true := by kernel_rfl
theorem runX11_0 (ρ : Nat → Value) : runT ρ (pcX 11 0) = true := by kernel_rfl
theorem runX8_1 (ρ : Nat → Value) : runT ρ (pcX 8 1) = true := by kernel_rfl
theorem runX0_1 (ρ : Nat → Value) : runT ρ (pcX 0 1) = true := by kernel_rfl
end Go.Proofs.YtdblaloadklcfaaDoor
