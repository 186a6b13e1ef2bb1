/- IfaceTable: runs. -/
import Derived.Test.YtdblaloadklcfaaDoorIfTbR
set_option linter.unusedVariables false
namespace Go.Proofs.YtdblaloadklcfaaDoor
open Go.Sx

theorem runX5_5 (ρ : Nat → Value) : runT ρ (pcX 5 5) = true := by kernel_rfl
theorem runX9_5 (ρ : Nat → Value) : runT ρ (pcX 9 5) = true := by kernel_rfl
theorem runX6_2 (ρ : Nat → Value) : runT ρ (pcX 6 2) = true := by kernel_rfl
theorem runX11_1 (ρ : Nat → Value) : runT ρ (pcX 11 1) = true := by kernel_rfl
theorem runY0 (ρ : Nat → Value) : runT ρ (pcY 0 2) = true := by kernel_rfl
theorem runX13_0 (ρ : Nat → Value) : runT ρ (pcX 13 0) = true := by kernel_rfl
end Go.Proofs.YtdblaloadklcfaaDoor
