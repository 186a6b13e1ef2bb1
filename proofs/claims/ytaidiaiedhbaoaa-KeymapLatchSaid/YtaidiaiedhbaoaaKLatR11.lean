/- KeymapLatch: runs. -/
import Derived.Test.YtaidiaiedhbaoaaKLatR
set_option linter.unusedVariables false
namespace Go.Proofs.Ytaidiaiedhbaoaa
open Go.Sx

theorem run20_21 (ρ : Nat → Value) : runP ρ (pc2 2 1) 20 = true := by kernel_rfl
theorem run8 (ρ : Nat → Value) : runK ρ 8 = true := by kernel_rfl
theorem run5 (ρ : Nat → Value) : runK ρ 5 = true := by kernel_rfl
end Go.Proofs.Ytaidiaiedhbaoaa
