/- IfaceKinds: runs. -/
import Derived.Test.YtdblaloadklcfaaDoorIfKdR
set_option linter.unusedVariables false
namespace Go.Proofs.YtdblaloadklcfaaDoor
open Go.Sx

theorem runK_1_0 (ρ : Nat → Value) : runK ρ 1 0 = true := by kernel_rfl
theorem runK_1_1 (ρ : Nat → Value) : runK ρ 1 1 = true := by kernel_rfl
theorem runK_1_2 (ρ : Nat → Value) : runK ρ 1 2 = true := by kernel_rfl
theorem runK_1_3 (ρ : Nat → Value) : runK ρ 1 3 = true := by kernel_rfl
theorem runK_1_4 (ρ : Nat → Value) : runK ρ 1 4 = true := by kernel_rfl
theorem runK_1_5 (ρ : Nat → Value) : runK ρ 1 5 = true := by kernel_rfl
theorem runK_1_6 (ρ : Nat → Value) : runK ρ 1 6 = true := by kernel_rfl
theorem runK_1_7 (ρ : Nat → Value) : runK ρ 1 7 = true := by kernel_rfl
theorem runK_1_8 (ρ : Nat → Value) : runK ρ 1 8 = true := by kernel_rfl
theorem runK_1_9 (ρ : Nat → Value) : runK ρ 1 9 = true := by kernel_rfl
theorem runK_1_10 (ρ : Nat → Value) : runK ρ 1 10 = true := by kernel_rfl
theorem runK_1_11 (ρ : Nat → Value) : runK ρ 1 11 = true := by kernel_rfl
theorem runK_1_12 (ρ : Nat → Value) : runK ρ 1 12 = true := by kernel_rfl
theorem runK_1_13 (ρ : Nat → Value) : runK ρ 1 13 = true := by kernel_rfl
theorem runK_1_14 (ρ : Nat → Value) : runK ρ 1 14 = true := by kernel_rfl
theorem runK_1_15 (ρ : Nat → Value) : runK ρ 1 15 = true := by kernel_rfl
theorem runK_2_0 (ρ : Nat → Value) : runK ρ 2 0 = true := by kernel_rfl
theorem runK_2_1 (ρ : Nat → Value) : runK ρ 2 1 = true := by kernel_rfl
theorem runK_2_2 (ρ : Nat → Value) : runK ρ 2 2 = true := by kernel_rfl
theorem runK_2_3 (ρ : Nat → Value) : runK ρ 2 3 = true := by kernel_rfl
theorem runK_2_4 (ρ : Nat → Value) : runK ρ 2 4 = true := by kernel_rfl
theorem runK_2_5 (ρ : Nat → Value) : runK ρ 2 5 = true := by kernel_rfl
theorem runK_2_6 (ρ : Nat → Value) : runK ρ 2 6 = true := by kernel_rfl
theorem runK_2_7 (ρ : Nat → Value) : runK ρ 2 7 = true := by kernel_rfl
theorem runK_2_8 (ρ : Nat → Value) : runK ρ 2 8 = true := by kernel_rfl
theorem runK_2_9 (ρ : Nat → Value) : runK ρ 2 9 = true := by kernel_rfl
theorem runK_2_10 (ρ : Nat → Value) : runK ρ 2 10 = true := by kernel_rfl
theorem runK_2_11 (ρ : Nat → Value) : runK ρ 2 11 = true := by kernel_rfl
theorem runK_2_12 (ρ : Nat → Value) : runK ρ 2 12 = true := by kernel_rfl
theorem runK_2_13 (ρ : Nat → Value) : runK ρ 2 13 = true := by kernel_rfl
theorem runK_2_14 (ρ : Nat → Value) : runK ρ 2 14 = true := by kernel_rfl
end Go.Proofs.YtdblaloadklcfaaDoor
