/- IfaceEvent: the runs. -/
import Derived.Test.YtdblaloadklcfaaDoorIfB
set_option linter.unusedVariables false
namespace Go.Proofs.YtdblaloadklcfaaDoor
open Go.Sx

def ys : List V := [.sym .str (.svar 0), .sym (.int .i64) (.ivar .i64 1), .sym (.int .i64) (.ivar .i64 2)]
theorem run_display (ρ : Nat → Value) : allTrue (callF kn Tryd.prog (tb.at ρ) 300 100 (pcName "display") 4 ys H0) = true := by kernel_rfl
theorem run_registry (ρ : Nat → Value) : allTrue (callF kn Tryd.prog (tb.at ρ) 300 100 (pcName "registry") 4 ys H0) = true := by kernel_rfl
theorem run_callback (ρ : Nat → Value) : allTrue (callF kn Tryd.prog (tb.at ρ) 300 100 (pcName "callback") 4 ys H0) = true := by kernel_rfl
theorem run_shell (ρ : Nat → Value) : allTrue (callF kn Tryd.prog (tb.at ρ) 300 100 (pcName "shell") 4 ys H0) = true := by kernel_rfl
theorem run_buffer (ρ : Nat → Value) : allTrue (callF kn Tryd.prog (tb.at ρ) 300 100 (pcName "buffer") 4 ys H0) = true := by kernel_rfl
theorem run_surface (ρ : Nat → Value) : allTrue (callF kn Tryd.prog (tb.at ρ) 300 100 (pcName "surface") 4 ys H0) = true := by kernel_rfl
theorem run_subsurface (ρ : Nat → Value) : allTrue (callF kn Tryd.prog (tb.at ρ) 300 100 (pcName "subsurface") 4 ys H0) = true := by kernel_rfl
theorem run_toplevel (ρ : Nat → Value) : allTrue (callF kn Tryd.prog (tb.at ρ) 300 100 (pcName "toplevel") 4 ys H0) = true := by kernel_rfl
theorem run_popup (ρ : Nat → Value) : allTrue (callF kn Tryd.prog (tb.at ρ) 300 100 (pcName "popup") 4 ys H0) = true := by kernel_rfl
theorem run_seat (ρ : Nat → Value) : allTrue (callF kn Tryd.prog (tb.at ρ) 300 100 (pcName "seat") 4 ys H0) = true := by kernel_rfl
theorem run_pointer (ρ : Nat → Value) : allTrue (callF kn Tryd.prog (tb.at ρ) 300 100 (pcName "pointer") 4 ys H0) = true := by kernel_rfl
theorem run_keyboard (ρ : Nat → Value) : allTrue (callF kn Tryd.prog (tb.at ρ) 300 100 (pcName "keyboard") 4 ys H0) = true := by kernel_rfl
theorem run_touch (ρ : Nat → Value) : allTrue (callF kn Tryd.prog (tb.at ρ) 300 100 (pcName "touch") 4 ys H0) = true := by kernel_rfl
theorem run_output (ρ : Nat → Value) : allTrue (callF kn Tryd.prog (tb.at ρ) 300 100 (pcName "output") 4 ys H0) = true := by kernel_rfl
theorem run_presentation (ρ : Nat → Value) : allTrue (callF kn Tryd.prog (tb.at ρ) 300 100 (pcName "presentation") 4 ys H0) = true := by kernel_rfl
theorem run_none (ρ : Nat → Value) : allTrue (callF kn Tryd.prog (tb.at ρ) 300 100 pcNone 4 ys H0) = true := by kernel_rfl
end Go.Proofs.YtdblaloadklcfaaDoor
