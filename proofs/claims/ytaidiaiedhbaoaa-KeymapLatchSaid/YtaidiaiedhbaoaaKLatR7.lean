/- KeymapLatch: runs. -/
import Derived.Test.YtaidiaiedhbaoaaKLatR
set_option linter.unusedVariables false
namespace Go.Proofs.Ytaidiaiedhbaoaa
open Go.Sx

theorem run20_10 (ρ : Nat → Value) : runP ρ (pc2 1 0) 20 = true := by kernel_rfl
theorem run12 (ρ : Nat → Value) : runK ρ 12 = true := by kernel_rfl
theorem run1 (ρ : Nat → Value) : runK ρ 1 = true := by kernel_rfl
end Go.Proofs.Ytaidiaiedhbaoaa
