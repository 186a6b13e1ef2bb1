/- KeyboardSilent: the runs with the first key 4. -/
import Derived.Test.YtkbfhbghnfhgmabKbSilB
set_option linter.unusedVariables false
namespace Go.Proofs.Ytkbfhbghnfhgmab
open Go.Sx

theorem run30 (ρ : Nat → Value) : allTrue (callF kn Try.prog (tb.at ρ) 300 100 (pc 3 0) 3 ys H0) = true := by kernel_rfl
theorem run31 (ρ : Nat → Value) : allTrue (callF kn Try.prog (tb.at ρ) 300 100 (pc 3 1) 3 ys H0) = true := by kernel_rfl
theorem run32 (ρ : Nat → Value) : allTrue (callF kn Try.prog (tb.at ρ) 300 100 (pc 3 2) 3 ys H0) = true := by kernel_rfl
theorem run33 (ρ : Nat → Value) : allTrue (callF kn Try.prog (tb.at ρ) 300 100 (pc 3 3) 3 ys H0) = true := by kernel_rfl
theorem run34 (ρ : Nat → Value) : allTrue (callF kn Try.prog (tb.at ρ) 300 100 (pc 3 4) 3 ys H0) = true := by kernel_rfl
end Go.Proofs.Ytkbfhbghnfhgmab
