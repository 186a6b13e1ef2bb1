/- IfaceKinds: runs. -/
import Derived.Test.YtdblaloadklcfaaDoorIfKdR
set_option linter.unusedVariables false
namespace Go.Proofs.YtdblaloadklcfaaDoor
open Go.Sx

theorem runK_3_0 (ρ : Nat → Value) : runK ρ 3 0 = true := by kernel_rfl
theorem runK_3_1 (ρ : Nat → Value) : runK ρ 3 1 = true := by kernel_rfl
theorem runK_3_2 (ρ : Nat → Value) : runK ρ 3 2 = true := by kernel_rfl
theorem runK_3_3 (ρ : Nat → Value) : runK ρ 3 3 = true := by kernel_rfl
theorem runK_3_4 (ρ : Nat → Value) : runK ρ 3 4 = true := by kernel_rfl
theorem runK_3_5 (ρ : Nat → Value) : runK ρ 3 5 = true := by kernel_rfl
theorem runK_3_6 (ρ : Nat → Value) : runK ρ 3 6 = true := by kernel_rfl
theorem runK_3_7 (ρ : Nat → Value) : runK ρ 3 7 = true := by kernel_rfl
theorem runK_3_8 (ρ : Nat → Value) : runK ρ 3 8 = true := by kernel_rfl
theorem runK_3_9 (ρ : Nat → Value) : runK ρ 3 9 = true := by kernel_rfl
theorem runK_3_10 (ρ : Nat → Value) : runK ρ 3 10 = true := by kernel_rfl
theorem runK_3_11 (ρ : Nat → Value) : runK ρ 3 11 = true := by kernel_rfl
theorem runK_3_12 (ρ : Nat → Value) : runK ρ 3 12 = true := by kernel_rfl
theorem runK_3_13 (ρ : Nat → Value) : runK ρ 3 13 = true := by kernel_rfl
theorem runK_4_0 (ρ : Nat → Value) : runK ρ 4 0 = true := by kernel_rfl
theorem runK_4_1 (ρ : Nat → Value) : runK ρ 4 1 = true := by kernel_rfl
theorem runK_4_2 (ρ : Nat → Value) : runK ρ 4 2 = true := by kernel_rfl
theorem runK_4_3 (ρ : Nat → Value) : runK ρ 4 3 = true := by kernel_rfl
theorem runK_4_4 (ρ : Nat → Value) : runK ρ 4 4 = true := by kernel_rfl
theorem runK_4_5 (ρ : Nat → Value) : runK ρ 4 5 = true := by kernel_rfl
theorem runK_4_6 (ρ : Nat → Value) : runK ρ 4 6 = true := by kernel_rfl
theorem runK_4_7 (ρ : Nat → Value) : runK ρ 4 7 = true := by kernel_rfl
theorem runK_4_8 (ρ : Nat → Value) : runK ρ 4 8 = true := by kernel_rfl
theorem runK_4_9 (ρ : Nat → Value) : runK ρ 4 9 = true := by kernel_rfl
theorem runK_4_10 (ρ : Nat → Value) : runK ρ 4 10 = true := by kernel_rfl
theorem runK_4_11 (ρ : Nat → Value) : runK ρ 4 11 = true := by kernel_rfl
theorem runK_4_12 (ρ : Nat → Value) : runK ρ 4 12 = true := by kernel_rfl
end Go.Proofs.YtdblaloadklcfaaDoor
