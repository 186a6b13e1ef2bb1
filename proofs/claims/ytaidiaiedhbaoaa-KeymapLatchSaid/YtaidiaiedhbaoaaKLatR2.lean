/- KeymapLatch: runs. -/
import Derived.Test.YtaidiaiedhbaoaaKLatR
set_option linter.unusedVariables false
namespace Go.Proofs.Ytaidiaiedhbaoaa
open Go.Sx

theorem run19_1 (ρ : Nat → Value) : runP ρ (pc1 1) 19 = true := by kernel_rfl
theorem run17 (ρ : Nat → Value) : runK ρ 17 = true := by kernel_rfl
end Go.Proofs.Ytaidiaiedhbaoaa
