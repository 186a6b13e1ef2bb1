/- KeyboardSilent: the runs with the first key 1. -/
import Derived.Test.YtkbfhbghnfhgmabKbSilB
set_option linter.unusedVariables false
namespace Go.Proofs.Ytkbfhbghnfhgmab
open Go.Sx

theorem run00 (ρ : Nat → Value) : allTrue (callF kn Try.prog (tb.at ρ) 300 100 (pc 0 0) 3 ys H0) = true := by kernel_rfl
theorem run01 (ρ : Nat → Value) : allTrue (callF kn Try.prog (tb.at ρ) 300 100 (pc 0 1) 3 ys H0) = true := by kernel_rfl
theorem run02 (ρ : Nat → Value) : allTrue (callF kn Try.prog (tb.at ρ) 300 100 (pc 0 2) 3 ys H0) = true := by kernel_rfl
theorem run03 (ρ : Nat → Value) : allTrue (callF kn Try.prog (tb.at ρ) 300 100 (pc 0 3) 3 ys H0) = true := by kernel_rfl
theorem run04 (ρ : Nat → Value) : allTrue (callF kn Try.prog (tb.at ρ) 300 100 (pc 0 4) 3 ys H0) = true := by kernel_rfl
end Go.Proofs.Ytkbfhbghnfhgmab
