/- IfaceVersions: runs. -/
import Derived.Test.YtdblaloadklcfaaDoorIfVerA
set_option linter.unusedVariables false
namespace Go.Proofs.YtdblaloadklcfaaDoor
open Go.Sx

theorem run_display (ρ : Nat → Value) : allTrue (callF kn Tryd.prog (tb.at ρ) 300 100 (pcName "display") 8 ys H0) = true := by kernel_rfl
theorem run_registry (ρ : Nat → Value) : allTrue (callF kn Tryd.prog (tb.at ρ) 300 100 (pcName "registry") 8 ys H0) = true := by kernel_rfl
theorem run_callback (ρ : Nat → Value) : allTrue (callF kn Tryd.prog (tb.at ρ) 300 100 (pcName "callback") 8 ys H0) = true := by kernel_rfl
theorem run_shell (ρ : Nat → Value) : allTrue (callF kn Tryd.prog (tb.at ρ) 300 100 (pcName "shell") 8 ys H0) = true := by kernel_rfl
theorem run_buffer (ρ : Nat → Value) : allTrue (callF kn Tryd.prog (tb.at ρ) 300 100 (pcName "buffer") 8 ys H0) = true := by kernel_rfl
theorem run_toplevel (ρ : Nat → Value) : allTrue (callF kn Tryd.prog (tb.at ρ) 300 100 (pcName "toplevel") 8 ys H0) = true := by kernel_rfl
end Go.Proofs.YtdblaloadklcfaaDoor
