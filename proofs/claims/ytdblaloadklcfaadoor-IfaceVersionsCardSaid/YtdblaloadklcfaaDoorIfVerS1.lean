/- IfaceVersions: runs. -/
import Derived.Test.YtdblaloadklcfaaDoorIfVerA
set_option linter.unusedVariables false
namespace Go.Proofs.YtdblaloadklcfaaDoor
open Go.Sx

theorem run_surface0 (ρ : Nat → Value) : allTrue (callF kn Tryd.prog (tb.at ρ) 300 100 (pcOp "surface" 0) 8 ys H0) = true := by kernel_rfl
theorem run_surface1 (ρ : Nat → Value) : allTrue (callF kn Tryd.prog (tb.at ρ) 300 100 (pcOp "surface" 1) 8 ys H0) = true := by kernel_rfl
theorem run_surface2 (ρ : Nat → Value) : allTrue (callF kn Tryd.prog (tb.at ρ) 300 100 (pcOp "surface" 2) 8 ys H0) = true := by kernel_rfl
theorem run_surface3 (ρ : Nat → Value) : allTrue (callF kn Tryd.prog (tb.at ρ) 300 100 (pcOp "surface" 3) 8 ys H0) = true := by kernel_rfl
theorem run_surface4 (ρ : Nat → Value) : allTrue (callF kn Tryd.prog (tb.at ρ) 300 100 (pcOp "surface" 4) 8 ys H0) = true := by kernel_rfl
end Go.Proofs.YtdblaloadklcfaaDoor
