/- KeymapLatch: runs. -/
import Derived.Test.YtaidiaiedhbaoaaKLatR
set_option linter.unusedVariables false
namespace Go.Proofs.Ytaidiaiedhbaoaa
open Go.Sx

theorem run19_2 (ρ : Nat → Value) : runP ρ (pc1 2) 19 = true := by kernel_rfl
theorem run16 (ρ : Nat → Value) : runK ρ 16 = true := by kernel_rfl
end Go.Proofs.Ytaidiaiedhbaoaa
