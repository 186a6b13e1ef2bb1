/- KeymapLatch: runs. -/
import Derived.Test.YtaidiaiedhbaoaaKLatR
set_option linter.unusedVariables false
namespace Go.Proofs.Ytaidiaiedhbaoaa
open Go.Sx

theorem run20_00 (ρ : Nat → Value) : runP ρ (pc2 0 0) 20 = true := by kernel_rfl
theorem run15 (ρ : Nat → Value) : runK ρ 15 = true := by kernel_rfl
end Go.Proofs.Ytaidiaiedhbaoaa
