/- IfaceOpcode: the runs. -/
import Derived.Test.YtdblaloadklcfaaDoorIfB
set_option linter.unusedVariables false
namespace Go.Proofs.YtdblaloadklcfaaDoor
open Go.Sx

def ys : List V := [.sym .str (.svar 0), .sym .str (.svar 1)]
theorem run_display (ρ : Nat → Value) : allTrue (callF kn Tryd.prog (tb.at ρ) 300 100 (pcName "display") 5 ys H0) = true := by kernel_rfl
theorem run_registry (ρ : Nat → Value) : allTrue (callF kn Tryd.prog (tb.at ρ) 300 100 (pcName "registry") 5 ys H0) = true := by kernel_rfl
theorem run_callback (ρ : Nat → Value) : allTrue (callF kn Tryd.prog (tb.at ρ) 300 100 (pcName "callback") 5 ys H0) = true := by kernel_rfl
theorem run_shell (ρ : Nat → Value) : allTrue (callF kn Tryd.prog (tb.at ρ) 300 100 (pcName "shell") 5 ys H0) = true := by kernel_rfl
theorem run_buffer (ρ : Nat → Value) : allTrue (callF kn Tryd.prog (tb.at ρ) 300 100 (pcName "buffer") 5 ys H0) = true := by kernel_rfl
theorem run_surface (ρ : Nat → Value) : allTrue (callF kn Tryd.prog (tb.at ρ) 300 100 (pcName "surface") 5 ys H0) = true := by kernel_rfl
theorem run_subsurface (ρ : Nat → Value) : allTrue (callF kn Tryd.prog (tb.at ρ) 300 100 (pcName "subsurface") 5 ys H0) = true := by kernel_rfl
theorem run_toplevel (ρ : Nat → Value) : allTrue (callF kn Tryd.prog (tb.at ρ) 300 100 (pcName "toplevel") 5 ys H0) = true := by kernel_rfl
theorem run_popup (ρ : Nat → Value) : allTrue (callF kn Tryd.prog (tb.at ρ) 300 100 (pcName "popup") 5 ys H0) = true := by kernel_rfl
theorem run_seat (ρ : Nat → Value) : allTrue (callF kn Tryd.prog (tb.at ρ) 300 100 (pcName "seat") 5 ys H0) = true := by kernel_rfl
theorem run_pointer (ρ : Nat → Value) : allTrue (callF kn Tryd.prog (tb.at ρ) 300 100 (pcName "pointer") 5 ys H0) = true := by kernel_rfl
theorem run_keyboard (ρ : Nat → Value) : allTrue (callF kn Tryd.prog (tb.at ρ) 300 100 (pcName "keyboard") 5 ys H0) = true := by kernel_rfl
theorem run_touch (ρ : Nat → Value) : allTrue (callF kn Tryd.prog (tb.at ρ) 300 100 (pcName "touch") 5 ys H0) = true := by kernel_rfl
theorem run_output (ρ : Nat → Value) : allTrue (callF kn Tryd.prog (tb.at ρ) 300 100 (pcName "output") 5 ys H0) = true := by kernel_rfl
theorem run_presentation (ρ : Nat → Value) : allTrue (callF kn Tryd.prog (tb.at ρ) 300 100 (pcName "presentation") 5 ys H0) = true := by kernel_rfl
theorem run_none (ρ : Nat → Value) : allTrue (callF kn Tryd.prog (tb.at ρ) 300 100 pcNone 5 ys H0) = true := by kernel_rfl
end Go.Proofs.YtdblaloadklcfaaDoor
