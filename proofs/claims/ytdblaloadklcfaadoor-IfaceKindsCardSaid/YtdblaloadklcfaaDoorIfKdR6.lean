/- IfaceKinds: runs. -/
import Derived.Test.YtdblaloadklcfaaDoorIfKdR
set_option linter.unusedVariables false
namespace Go.Proofs.YtdblaloadklcfaaDoor
open Go.Sx

theorem runK_12_0 (ρ : Nat → Value) : runK ρ 12 0 = true := by kernel_rfl
theorem runK_12_1 (ρ : Nat → Value) : runK ρ 12 1 = true := by kernel_rfl
theorem runK_12_2 (ρ : Nat → Value) : runK ρ 12 2 = true := by kernel_rfl
theorem runK_12_3 (ρ : Nat → Value) : runK ρ 12 3 = true := by kernel_rfl
theorem runK_12_4 (ρ : Nat → Value) : runK ρ 12 4 = true := by kernel_rfl
theorem runK_13_0 (ρ : Nat → Value) : runK ρ 13 0 = true := by kernel_rfl
theorem runK_13_1 (ρ : Nat → Value) : runK ρ 13 1 = true := by kernel_rfl
theorem runK_13_2 (ρ : Nat → Value) : runK ρ 13 2 = true := by kernel_rfl
theorem runK_13_3 (ρ : Nat → Value) : runK ρ 13 3 = true := by kernel_rfl
theorem runK_14_0 (ρ : Nat → Value) : runK ρ 14 0 = true := by kernel_rfl
theorem runK_14_1 (ρ : Nat → Value) : runK ρ 14 1 = true := by kernel_rfl
theorem runK_14_2 (ρ : Nat → Value) : runK ρ 14 2 = true := by kernel_rfl
theorem runK_15_0 (ρ : Nat → Value) : runK ρ 15 0 = true := by kernel_rfl
theorem runK_15_1 (ρ : Nat → Value) : runK ρ 15 1 = true := by kernel_rfl
theorem runK_16_0 (ρ : Nat → Value) : runK ρ 16 0 = true := by kernel_rfl
end Go.Proofs.YtdblaloadklcfaaDoor
