/- KeymapLatch: runs. -/
import Derived.Test.YtaidiaiedhbaoaaKLatR
set_option linter.unusedVariables false
namespace Go.Proofs.Ytaidiaiedhbaoaa
open Go.Sx

theorem run20_01 (ρ : Nat → Value) : runP ρ (pc2 0 1) 20 = true := by kernel_rfl
theorem run14 (ρ : Nat → Value) : runK ρ 14 = true := by kernel_rfl
end Go.Proofs.Ytaidiaiedhbaoaa
