/- IfaceTable: runs. -/
import Derived.Test.YtdblaloadklcfaaDoorIfTbR
set_option linter.unusedVariables false
namespace Go.Proofs.YtdblaloadklcfaaDoor
open Go.Sx

theorem runX5_6 (ρ : Nat → Value) : runT ρ (pcX 5 6) = true := by kernel_rfl
theorem runX9_6 (ρ : Nat → Value) : runT ρ (pcX 9 6) = true := by kernel_rfl
theorem runX6_3 (ρ : Nat → Value) : runT ρ (pcX 6 3) = true := by kernel_rfl
theorem runX11_2 (ρ : Nat → Value) : runT ρ (pcX 11 2) = true := by kernel_rfl
theorem runY1 (ρ : Nat → Value) : runT ρ (pcY 1 2) = true := by kernel_rfl
theorem runX13_1 (ρ : Nat → Value) : runT ρ (pcX 13 1) = true := by kernel_rfl
end Go.Proofs.YtdblaloadklcfaaDoor
