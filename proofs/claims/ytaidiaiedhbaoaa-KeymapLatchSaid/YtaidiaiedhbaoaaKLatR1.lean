/- KeymapLatch: runs. -/
import Derived.Test.YtaidiaiedhbaoaaKLatR
set_option linter.unusedVariables false
namespace Go.Proofs.Ytaidiaiedhbaoaa
open Go.Sx

theorem run19_0 (ρ : Nat → Value) : runP ρ (pc1 0) 19 = true := by kernel_rfl
theorem run18 (ρ : Nat → Value) : runK ρ 18 = true := by kernel_rfl
end Go.Proofs.Ytaidiaiedhbaoaa
