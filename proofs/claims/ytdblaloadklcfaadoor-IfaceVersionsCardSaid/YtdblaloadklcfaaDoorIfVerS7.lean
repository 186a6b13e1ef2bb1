/- IfaceVersions: runs. -/
import Derived.Test.YtdblaloadklcfaaDoorIfVerA
set_option linter.unusedVariables false
namespace Go.Proofs.YtdblaloadklcfaaDoor
open Go.Sx

theorem run_popup (ρ : Nat → Value) : allTrue (callF kn Tryd.prog (tb.at ρ) 300 100 (pcName "popup") 8 ys H0) = true := by kernel_rfl
theorem run_pointer (ρ : Nat → Value) : allTrue (callF kn Tryd.prog (tb.at ρ) 300 100 (pcName "pointer") 8 ys H0) = true := by kernel_rfl
theorem run_keyboard (ρ : Nat → Value) : allTrue (callF kn Tryd.prog (tb.at ρ) 300 100 (pcName "keyboard") 8 ys H0) = true := by kernel_rfl
theorem run_touch (ρ : Nat → Value) : allTrue (callF kn Tryd.prog (tb.at ρ) 300 100 (pcName "touch") 8 ys H0) = true := by kernel_rfl
theorem run_output (ρ : Nat → Value) : allTrue (callF kn Tryd.prog (tb.at ρ) 300 100 (pcName "output") 8 ys H0) = true := by kernel_rfl
theorem run_presentation (ρ : Nat → Value) : allTrue (callF kn Tryd.prog (tb.at ρ) 300 100 (pcName "presentation") 8 ys H0) = true := by kernel_rfl
theorem run_none (ρ : Nat → Value) : allTrue (callF kn Tryd.prog (tb.at ρ) 300 100 pcNone 8 ys H0) = true := by kernel_rfl
end Go.Proofs.YtdblaloadklcfaaDoor
