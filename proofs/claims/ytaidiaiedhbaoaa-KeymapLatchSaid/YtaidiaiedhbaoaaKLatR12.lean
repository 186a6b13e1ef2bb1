/- KeymapLatch: runs. -/
import Derived.Test.YtaidiaiedhbaoaaKLatR
set_option linter.unusedVariables false
namespace Go.Proofs.Ytaidiaiedhbaoaa
open Go.Sx

theorem run20_22 (ρ : Nat → Value) : runP ρ (pc2 2 2) 20 = true := by kernel_rfl
theorem run7 (ρ : Nat → Value) : runK ρ 7 = true := by kernel_rfl
theorem run6 (ρ : Nat → Value) : runK ρ 6 = true := by kernel_rfl
end Go.Proofs.Ytaidiaiedhbaoaa
