/- KeymapLatch: runs. -/
import Derived.Test.YtaidiaiedhbaoaaKLatR
set_option linter.unusedVariables false
namespace Go.Proofs.Ytaidiaiedhbaoaa
open Go.Sx

theorem run20_12 (ρ : Nat → Value) : runP ρ (pc2 1 2) 20 = true := by kernel_rfl
theorem run10 (ρ : Nat → Value) : runK ρ 10 = true := by kernel_rfl
theorem run3 (ρ : Nat → Value) : runK ρ 3 = true := by kernel_rfl
end Go.Proofs.Ytaidiaiedhbaoaa
