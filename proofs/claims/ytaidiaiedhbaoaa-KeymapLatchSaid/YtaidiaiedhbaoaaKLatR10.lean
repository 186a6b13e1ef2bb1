/- KeymapLatch: runs. -/
import Derived.Test.YtaidiaiedhbaoaaKLatR
set_option linter.unusedVariables false
namespace Go.Proofs.Ytaidiaiedhbaoaa
open Go.Sx

theorem run20_20 (ρ : Nat → Value) : runP ρ (pc2 2 0) 20 = true := by kernel_rfl
theorem run9 (ρ : Nat → Value) : runK ρ 9 = true := by kernel_rfl
theorem run4 (ρ : Nat → Value) : runK ρ 4 = true := by kernel_rfl
end Go.Proofs.Ytaidiaiedhbaoaa
