/- KeyboardSilent: the runs with the first key 2. -/
import Derived.Test.YtkbfhbghnfhgmabKbSilB
set_option linter.unusedVariables false
namespace Go.Proofs.Ytkbfhbghnfhgmab
open Go.Sx

theorem run10 (ρ : Nat → Value) : allTrue (callF kn Try.prog (tb.at ρ) 300 100 (pc 1 0) 3 ys H0) = true := by kernel_rfl
theorem run11 (ρ : Nat → Value) : allTrue (callF kn Try.prog (tb.at ρ) 300 100 (pc 1 1) 3 ys H0) = true := by kernel_rfl
theorem run12 (ρ : Nat → Value) : allTrue (callF kn Try.prog (tb.at ρ) 300 100 (pc 1 2) 3 ys H0) = true := by kernel_rfl
theorem run13 (ρ : Nat → Value) : allTrue (callF kn Try.prog (tb.at ρ) 300 100 (pc 1 3) 3 ys H0) = true := by kernel_rfl
theorem run14 (ρ : Nat → Value) : allTrue (callF kn Try.prog (tb.at ρ) 300 100 (pc 1 4) 3 ys H0) = true := by kernel_rfl
end Go.Proofs.Ytkbfhbghnfhgmab
