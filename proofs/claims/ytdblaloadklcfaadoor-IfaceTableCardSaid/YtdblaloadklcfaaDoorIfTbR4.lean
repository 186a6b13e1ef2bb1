/- IfaceTable: runs. -/
import Derived.Test.YtdblaloadklcfaaDoorIfTbR
set_option linter.unusedVariables false
namespace Go.Proofs.YtdblaloadklcfaaDoor
open Go.Sx

theorem runX5_7 (ρ : Nat → Value) : runT ρ (pcX 5 7) = true := by kernel_rfl
theorem runX9_7 (ρ : Nat → Value) : runT ρ (pcX 9 7) = true := by kernel_rfl
theorem runX6_4 (ρ : Nat → Value) : runT ρ (pcX 6 4) = true := by kernel_rfl
theorem runX11_3 (ρ : Nat → Value) : runT ρ (pcX 11 3) = true := by kernel_rfl
theorem runY13 (ρ : Nat → Value) : runT ρ (pcY 13 2) = true := by kernel_rfl
theorem runX14_0 (ρ : Nat → Value) : runT ρ (pcX 14 0) = true := by kernel_rfl
end Go.Proofs.YtdblaloadklcfaaDoor
