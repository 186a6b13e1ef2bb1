/- IfaceSignature: runs over short texts. -/
import Derived.Test.YtdblaloadklcfaaDoorIfSgR
set_option linter.unusedVariables false
namespace Go.Proofs.YtdblaloadklcfaaDoor
open Go.Sx

theorem runS14 (ρ : Nat → Value) : runS ρ 14 = true := by kernel_rfl
theorem runS15 (ρ : Nat → Value) : runS ρ 15 = true := by kernel_rfl
end Go.Proofs.YtdblaloadklcfaaDoor
