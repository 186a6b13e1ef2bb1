/- KeymapLatch: runs. -/
import Derived.Test.YtaidiaiedhbaoaaKLatR
set_option linter.unusedVariables false
namespace Go.Proofs.Ytaidiaiedhbaoaa
open Go.Sx

theorem run20_11 (ρ : Nat → Value) : runP ρ (pc2 1 1) 20 = true := by kernel_rfl
theorem run11 (ρ : Nat → Value) : runK ρ 11 = true := by kernel_rfl
theorem run2 (ρ : Nat → Value) : runK ρ 2 = true := by kernel_rfl
end Go.Proofs.Ytaidiaiedhbaoaa
