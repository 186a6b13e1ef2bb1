/- IfaceVersions: runs. -/
import Derived.Test.YtdblaloadklcfaaDoorIfVerA
set_option linter.unusedVariables false
namespace Go.Proofs.YtdblaloadklcfaaDoor
open Go.Sx

theorem run_seat0 (ρ : Nat → Value) : allTrue (callF kn Tryd.prog (tb.at ρ) 300 100 (pcOp "seat" 0) 8 ys H0) = true := by kernel_rfl
theorem run_seat1 (ρ : Nat → Value) : allTrue (callF kn Tryd.prog (tb.at ρ) 300 100 (pcOp "seat" 1) 8 ys H0) = true := by kernel_rfl
theorem run_seat2 (ρ : Nat → Value) : allTrue (callF kn Tryd.prog (tb.at ρ) 300 100 (pcOp "seat" 2) 8 ys H0) = true := by kernel_rfl
theorem run_seat3 (ρ : Nat → Value) : allTrue (callF kn Tryd.prog (tb.at ρ) 300 100 (pcOp "seat" 3) 8 ys H0) = true := by kernel_rfl
theorem run_seat4 (ρ : Nat → Value) : allTrue (callF kn Tryd.prog (tb.at ρ) 300 100 (pcOp "seat" 4) 8 ys H0) = true := by kernel_rfl
theorem run_seat5 (ρ : Nat → Value) : allTrue (callF kn Tryd.prog (tb.at ρ) 300 100 (pcOp "seat" 5) 8 ys H0) = true := by kernel_rfl
theorem run_seat6 (ρ : Nat → Value) : allTrue (callF kn Tryd.prog (tb.at ρ) 300 100 (pcOp "seat" 6) 8 ys H0) = true := by kernel_rfl
theorem run_seat7 (ρ : Nat → Value) : allTrue (callF kn Tryd.prog (tb.at ρ) 300 100 (pcOp "seat" 7) 8 ys H0) = true := by kernel_rfl
theorem run_seatL (ρ : Nat → Value) : allTrue (callF kn Tryd.prog (tb.at ρ) 300 100 (pcLow "seat") 8 ys H0) = true := by kernel_rfl
theorem run_seatH (ρ : Nat → Value) : allTrue (callF kn Tryd.prog (tb.at ρ) 300 100 (pcHigh "seat" 8) 8 ys H0) = true := by kernel_rfl
end Go.Proofs.YtdblaloadklcfaaDoor
