/- IfaceVersions: runs. -/
import Derived.Test.YtdblaloadklcfaaDoorIfVerA
set_option linter.unusedVariables false
namespace Go.Proofs.YtdblaloadklcfaaDoor
open Go.Sx

theorem run_surface10 (ρ : Nat → Value) : allTrue (callF kn Tryd.prog (tb.at ρ) 300 100 (pcOp "surface" 10) 8 ys H0) = true := by kernel_rfl
theorem run_surface11 (ρ : Nat → Value) : allTrue (callF kn Tryd.prog (tb.at ρ) 300 100 (pcOp "surface" 11) 8 ys H0) = true := by kernel_rfl
theorem run_surface12 (ρ : Nat → Value) : allTrue (callF kn Tryd.prog (tb.at ρ) 300 100 (pcOp "surface" 12) 8 ys H0) = true := by kernel_rfl
theorem run_surfaceL (ρ : Nat → Value) : allTrue (callF kn Tryd.prog (tb.at ρ) 300 100 (pcLow "surface") 8 ys H0) = true := by kernel_rfl
theorem run_surfaceH (ρ : Nat → Value) : allTrue (callF kn Tryd.prog (tb.at ρ) 300 100 (pcHigh "surface" 13) 8 ys H0) = true := by kernel_rfl
end Go.Proofs.YtdblaloadklcfaaDoor
