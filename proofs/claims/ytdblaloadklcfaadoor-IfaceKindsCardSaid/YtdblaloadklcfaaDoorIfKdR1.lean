/- IfaceKinds: runs. -/
import Derived.Test.YtdblaloadklcfaaDoorIfKdR
set_option linter.unusedVariables false
namespace Go.Proofs.YtdblaloadklcfaaDoor
open Go.Sx

theorem runK_0_0 (ρ : Nat → Value) : runK ρ 0 0 = true := by kernel_rfl
theorem runK_0_1 (ρ : Nat → Value) : runK ρ 0 1 = true := by kernel_rfl
theorem runK_0_2 (ρ : Nat → Value) : runK ρ 0 2 = true := by kernel_rfl
theorem runK_0_3 (ρ : Nat → Value) : runK ρ 0 3 = true := by kernel_rfl
theorem runK_0_4 (ρ : Nat → Value) : runK ρ 0 4 = true := by kernel_rfl
theorem runK_0_5 (ρ : Nat → Value) : runK ρ 0 5 = true := by kernel_rfl
theorem runK_0_6 (ρ : Nat → Value) : runK ρ 0 6 = true := by kernel_rfl
theorem runK_0_7 (ρ : Nat → Value) : runK ρ 0 7 = true := by kernel_rfl
theorem runK_0_8 (ρ : Nat → Value) : runK ρ 0 8 = true := by kernel_rfl
theorem runK_0_9 (ρ : Nat → Value) : runK ρ 0 9 = true := by kernel_rfl
theorem runK_0_10 (ρ : Nat → Value) : runK ρ 0 10 = true := by kernel_rfl
theorem runK_0_11 (ρ : Nat → Value) : runK ρ 0 11 = true := by kernel_rfl
theorem runK_0_12 (ρ : Nat → Value) : runK ρ 0 12 = true := by kernel_rfl
theorem runK_0_13 (ρ : Nat → Value) : runK ρ 0 13 = true := by kernel_rfl
theorem runK_0_14 (ρ : Nat → Value) : runK ρ 0 14 = true := by kernel_rfl
theorem runK_0_15 (ρ : Nat → Value) : runK ρ 0 15 = true := by kernel_rfl
theorem runK_0_16 (ρ : Nat → Value) : runK ρ 0 16 = true := by kernel_rfl
end Go.Proofs.YtdblaloadklcfaaDoor
