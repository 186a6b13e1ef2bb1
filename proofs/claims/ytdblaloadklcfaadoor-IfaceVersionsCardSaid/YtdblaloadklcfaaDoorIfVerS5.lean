/- IfaceVersions: runs. -/
import Derived.Test.YtdblaloadklcfaaDoorIfVerA
set_option linter.unusedVariables false
namespace Go.Proofs.YtdblaloadklcfaaDoor
open Go.Sx

theorem run_subsurface0 (ρ : Nat → Value) : allTrue (callF kn Tryd.prog (tb.at ρ) 300 100 (pcOp "subsurface" 0) 8 ys H0) = true := by kernel_rfl
theorem run_subsurface1 (ρ : Nat → Value) : allTrue (callF kn Tryd.prog (tb.at ρ) 300 100 (pcOp "subsurface" 1) 8 ys H0) = true := by kernel_rfl
theorem run_subsurface2 (ρ : Nat → Value) : allTrue (callF kn Tryd.prog (tb.at ρ) 300 100 (pcOp "subsurface" 2) 8 ys H0) = true := by kernel_rfl
theorem run_subsurface3 (ρ : Nat → Value) : allTrue (callF kn Tryd.prog (tb.at ρ) 300 100 (pcOp "subsurface" 3) 8 ys H0) = true := by kernel_rfl
theorem run_subsurface4 (ρ : Nat → Value) : allTrue (callF kn Tryd.prog (tb.at ρ) 300 100 (pcOp "subsurface" 4) 8 ys H0) = true := by kernel_rfl
theorem run_subsurface5 (ρ : Nat → Value) : allTrue (callF kn Tryd.prog (tb.at ρ) 300 100 (pcOp "subsurface" 5) 8 ys H0) = true := by kernel_rfl
theorem run_subsurfaceL (ρ : Nat → Value) : allTrue (callF kn Tryd.prog (tb.at ρ) 300 100 (pcLow "subsurface") 8 ys H0) = true := by kernel_rfl
theorem run_subsurfaceH (ρ : Nat → Value) : allTrue (callF kn Tryd.prog (tb.at ρ) 300 100 (pcHigh "subsurface" 6) 8 ys H0) = true := by kernel_rfl
end Go.Proofs.YtdblaloadklcfaaDoor
