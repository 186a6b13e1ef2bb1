/- KeyboardSilent: the runs with the first key 3. -/
import Derived.Test.YtkbfhbghnfhgmabKbSilB
set_option linter.unusedVariables false
namespace Go.Proofs.Ytkbfhbghnfhgmab
open Go.Sx

theorem run20 (ρ : Nat → Value) : allTrue (callF kn Try.prog (tb.at ρ) 300 100 (pc 2 0) 3 ys H0) = true := by kernel_rfl
theorem run21 (ρ : Nat → Value) : allTrue (callF kn Try.prog (tb.at ρ) 300 100 (pc 2 1) 3 ys H0) = true := by kernel_rfl
theorem run22 (ρ : Nat → Value) : allTrue (callF kn Try.prog (tb.at ρ) 300 100 (pc 2 2) 3 ys H0) = true := by kernel_rfl
theorem run23 (ρ : Nat → Value) : allTrue (callF kn Try.prog (tb.at ρ) 300 100 (pc 2 3) 3 ys H0) = true := by kernel_rfl
theorem run24 (ρ : Nat → Value) : allTrue (callF kn Try.prog (tb.at ρ) 300 100 (pc 2 4) 3 ys H0) = true := by kernel_rfl
end Go.Proofs.Ytkbfhbghnfhgmab
