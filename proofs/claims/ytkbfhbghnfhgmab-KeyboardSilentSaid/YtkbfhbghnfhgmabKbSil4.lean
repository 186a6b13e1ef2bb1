/- KeyboardSilent: the runs with the first key 5. -/
import Derived.Test.YtkbfhbghnfhgmabKbSilB
set_option linter.unusedVariables false
namespace Go.Proofs.Ytkbfhbghnfhgmab
open Go.Sx

theorem run40 (ρ : Nat → Value) : allTrue (callF kn Try.prog (tb.at ρ) 300 100 (pc 4 0) 3 ys H0) = true := by kernel_rfl
theorem run41 (ρ : Nat → Value) : allTrue (callF kn Try.prog (tb.at ρ) 300 100 (pc 4 1) 3 ys H0) = true := by kernel_rfl
theorem run42 (ρ : Nat → Value) : allTrue (callF kn Try.prog (tb.at ρ) 300 100 (pc 4 2) 3 ys H0) = true := by kernel_rfl
theorem run43 (ρ : Nat → Value) : allTrue (callF kn Try.prog (tb.at ρ) 300 100 (pc 4 3) 3 ys H0) = true := by kernel_rfl
theorem run44 (ρ : Nat → Value) : allTrue (callF kn Try.prog (tb.at ρ) 300 100 (pc 4 4) 3 ys H0) = true := by kernel_rfl
end Go.Proofs.Ytkbfhbghnfhgmab
