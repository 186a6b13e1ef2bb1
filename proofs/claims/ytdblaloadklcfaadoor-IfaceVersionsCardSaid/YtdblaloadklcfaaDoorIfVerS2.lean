/- IfaceVersions: runs. -/
import Derived.Test.YtdblaloadklcfaaDoorIfVerA
set_option linter.unusedVariables false
namespace Go.Proofs.YtdblaloadklcfaaDoor
open Go.Sx

theorem run_surface5 (ρ : Nat → Value) : allTrue (callF kn Tryd.prog (tb.at ρ) 300 100 (pcOp "surface" 5) 8 ys H0) = true := by kernel_rfl
theorem run_surface6 (ρ : Nat → Value) : allTrue (callF kn Tryd.prog (tb.at ρ) 300 100 (pcOp "surface" 6) 8 ys H0) = true := by kernel_rfl
theorem run_surface7 (ρ : Nat → Value) : allTrue (callF kn Tryd.prog (tb.at ρ) 300 100 (pcOp "surface" 7) 8 ys H0) = true := by kernel_rfl
theorem run_surface8 (ρ : Nat → Value) : allTrue (callF kn Tryd.prog (tb.at ρ) 300 100 (pcOp "surface" 8) 8 ys H0) = true := by kernel_rfl
theorem run_surface9 (ρ : Nat → Value) : allTrue (callF kn Tryd.prog (tb.at ρ) 300 100 (pcOp "surface" 9) 8 ys H0) = true := by kernel_rfl
end Go.Proofs.YtdblaloadklcfaaDoor
