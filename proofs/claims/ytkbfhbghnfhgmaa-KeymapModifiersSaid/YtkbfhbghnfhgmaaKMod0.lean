/- KeymapModifiers: the runs with 1 layouts. -/
import Derived.Test.YtkbfhbghnfhgmaaKModB
set_option linter.unusedVariables false
namespace Go.Proofs.Ytkbfhbghnfhgmaa
open Go.Sx

theorem run0p0 (ρ : Nat → Value) : allTrue (callF kn Try.prog (tb.at ρ) 300 100 (pc 0 (0)) 5 ys H0) = true := by kernel_rfl
end Go.Proofs.Ytkbfhbghnfhgmaa
