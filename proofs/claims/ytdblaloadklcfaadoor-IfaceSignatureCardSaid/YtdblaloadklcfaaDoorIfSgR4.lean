/- IfaceSignature: runs over short texts. -/
import Derived.Test.YtdblaloadklcfaaDoorIfSgR
set_option linter.unusedVariables false
namespace Go.Proofs.YtdblaloadklcfaaDoor
open Go.Sx

theorem runS16 (ρ : Nat → Value) : runS ρ 16 = true := by kernel_rfl
end Go.Proofs.YtdblaloadklcfaaDoor
