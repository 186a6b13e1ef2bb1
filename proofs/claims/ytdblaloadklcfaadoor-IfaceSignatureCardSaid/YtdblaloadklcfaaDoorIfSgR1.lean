/- IfaceSignature: runs over short texts. -/
import Derived.Test.YtdblaloadklcfaaDoorIfSgR
set_option linter.unusedVariables false
namespace Go.Proofs.YtdblaloadklcfaaDoor
open Go.Sx

theorem runS0 (ρ : Nat → Value) : runS ρ 0 = true := by kernel_rfl
theorem runS1 (ρ : Nat → Value) : runS ρ 1 = true := by kernel_rfl
theorem runS2 (ρ : Nat → Value) : runS ρ 2 = true := by kernel_rfl
theorem runS3 (ρ : Nat → Value) : runS ρ 3 = true := by kernel_rfl
theorem runS4 (ρ : Nat → Value) : runS ρ 4 = true := by kernel_rfl
theorem runS5 (ρ : Nat → Value) : runS ρ 5 = true := by kernel_rfl
theorem runS6 (ρ : Nat → Value) : runS ρ 6 = true := by kernel_rfl
theorem runS7 (ρ : Nat → Value) : runS ρ 7 = true := by kernel_rfl
theorem runS8 (ρ : Nat → Value) : runS ρ 8 = true := by kernel_rfl
theorem runS9 (ρ : Nat → Value) : runS ρ 9 = true := by kernel_rfl
theorem runS10 (ρ : Nat → Value) : runS ρ 10 = true := by kernel_rfl
end Go.Proofs.YtdblaloadklcfaaDoor
