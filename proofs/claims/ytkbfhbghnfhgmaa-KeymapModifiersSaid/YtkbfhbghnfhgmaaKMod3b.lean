/- KeymapModifiers: the runs with 4 layouts. -/
import Derived.Test.YtkbfhbghnfhgmaaKModB
set_option linter.unusedVariables false
namespace Go.Proofs.Ytkbfhbghnfhgmaa
open Go.Sx

theorem run3p0 (ρ : Nat → Value) : allTrue (callF kn Try.prog (tb.at ρ) 300 100 (pc 3 (0)) 5 ys H0) = true := by kernel_rfl
theorem run3p1 (ρ : Nat → Value) : allTrue (callF kn Try.prog (tb.at ρ) 300 100 (pc 3 (1)) 5 ys H0) = true := by kernel_rfl
end Go.Proofs.Ytkbfhbghnfhgmaa
