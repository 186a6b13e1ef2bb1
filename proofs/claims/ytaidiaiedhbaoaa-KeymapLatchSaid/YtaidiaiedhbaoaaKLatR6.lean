/- KeymapLatch: runs. -/
import Derived.Test.YtaidiaiedhbaoaaKLatR
set_option linter.unusedVariables false
namespace Go.Proofs.Ytaidiaiedhbaoaa
open Go.Sx

theorem run20_02 (ρ : Nat → Value) : runP ρ (pc2 0 2) 20 = true := by kernel_rfl
theorem run13 (ρ : Nat → Value) : runK ρ 13 = true := by kernel_rfl
theorem run0 (ρ : Nat → Value) : runK ρ 0 = true := by kernel_rfl
end Go.Proofs.Ytaidiaiedhbaoaa
