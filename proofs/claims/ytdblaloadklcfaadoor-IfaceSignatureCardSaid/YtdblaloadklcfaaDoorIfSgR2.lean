/- IfaceSignature: runs over short texts. -/
import Derived.Test.YtdblaloadklcfaaDoorIfSgR
set_option linter.unusedVariables false
namespace Go.Proofs.YtdblaloadklcfaaDoor
open Go.Sx

theorem runS11 (ρ : Nat → Value) : runS ρ 11 = true := by kernel_rfl
theorem runS12 (ρ : Nat → Value) : runS ρ 12 = true := by kernel_rfl
theorem runS13 (ρ : Nat → Value) : runS ρ 13 = true := by kernel_rfl
end Go.Proofs.YtdblaloadklcfaaDoor
