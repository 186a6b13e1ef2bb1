/- IfaceTable: runs. -/
import Derived.Test.YtdblaloadklcfaaDoorIfTbR
set_option linter.unusedVariables false
namespace Go.Proofs.YtdblaloadklcfaaDoor
open Go.Sx

theorem runX5_8 (ρ : Nat → Value) : runT ρ (pcX 5 8) = true := by kernel_rfl
theorem runY9 (ρ : Nat → Value) : runT ρ (pcY 9 8) = true := by kernel_rfl
theorem runX6_5 (ρ : Nat → Value) : runT ρ (pcX 6 5) = true := by kernel_rfl
theorem runY11 (ρ : Nat → Value) : runT ρ (pcY 11 4) = true := by kernel_rfl
theorem runY14 (ρ : Nat → Value) : runT ρ (pcY 14 2) = true := by kernel_rfl
theorem runX14_1 (ρ : Nat → Value) : runT ρ (pcX 14 1) = true := by kernel_rfl
end Go.Proofs.YtdblaloadklcfaaDoor
