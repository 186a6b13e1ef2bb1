/- KeymapModifiers: the runs with 3 layouts. -/
import Derived.Test.YtkbfhbghnfhgmaaKModB
set_option linter.unusedVariables false
namespace Go.Proofs.Ytkbfhbghnfhgmaa
open Go.Sx

theorem run2m2 (ρ : Nat → Value) : allTrue (callF kn Try.prog (tb.at ρ) 300 100 (pc 2 (-2)) 5 ys H0) = true := by kernel_rfl
theorem run2m1 (ρ : Nat → Value) : allTrue (callF kn Try.prog (tb.at ρ) 300 100 (pc 2 (-1)) 5 ys H0) = true := by kernel_rfl
theorem run2p0 (ρ : Nat → Value) : allTrue (callF kn Try.prog (tb.at ρ) 300 100 (pc 2 (0)) 5 ys H0) = true := by kernel_rfl
theorem run2p1 (ρ : Nat → Value) : allTrue (callF kn Try.prog (tb.at ρ) 300 100 (pc 2 (1)) 5 ys H0) = true := by kernel_rfl
theorem run2p2 (ρ : Nat → Value) : allTrue (callF kn Try.prog (tb.at ρ) 300 100 (pc 2 (2)) 5 ys H0) = true := by kernel_rfl
end Go.Proofs.Ytkbfhbghnfhgmaa
