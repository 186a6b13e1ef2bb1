/- IfaceNames: the runs. -/
import Derived.Test.YtdblaloadklcfaaDoorIfB
set_option linter.unusedVariables false
namespace Go.Proofs.YtdblaloadklcfaaDoor
open Go.Sx

theorem run_names (ρ : Nat → Value) : allTrue (callF kn Tryd.prog (tb.at ρ) 300 300 [] 9 [.sym .str (.svar 0)] H0) = true := by kernel_rfl
end Go.Proofs.YtdblaloadklcfaaDoor
