/- IfaceKinds: runs. -/
import Derived.Test.YtdblaloadklcfaaDoorIfKdR
set_option linter.unusedVariables false
namespace Go.Proofs.YtdblaloadklcfaaDoor
open Go.Sx

theorem runK_8_0 (ρ : Nat → Value) : runK ρ 8 0 = true := by kernel_rfl
theorem runK_8_1 (ρ : Nat → Value) : runK ρ 8 1 = true := by kernel_rfl
theorem runK_8_2 (ρ : Nat → Value) : runK ρ 8 2 = true := by kernel_rfl
theorem runK_8_3 (ρ : Nat → Value) : runK ρ 8 3 = true := by kernel_rfl
theorem runK_8_4 (ρ : Nat → Value) : runK ρ 8 4 = true := by kernel_rfl
theorem runK_8_5 (ρ : Nat → Value) : runK ρ 8 5 = true := by kernel_rfl
theorem runK_8_6 (ρ : Nat → Value) : runK ρ 8 6 = true := by kernel_rfl
theorem runK_8_7 (ρ : Nat → Value) : runK ρ 8 7 = true := by kernel_rfl
theorem runK_8_8 (ρ : Nat → Value) : runK ρ 8 8 = true := by kernel_rfl
theorem runK_9_0 (ρ : Nat → Value) : runK ρ 9 0 = true := by kernel_rfl
theorem runK_9_1 (ρ : Nat → Value) : runK ρ 9 1 = true := by kernel_rfl
theorem runK_9_2 (ρ : Nat → Value) : runK ρ 9 2 = true := by kernel_rfl
theorem runK_9_3 (ρ : Nat → Value) : runK ρ 9 3 = true := by kernel_rfl
theorem runK_9_4 (ρ : Nat → Value) : runK ρ 9 4 = true := by kernel_rfl
theorem runK_9_5 (ρ : Nat → Value) : runK ρ 9 5 = true := by kernel_rfl
theorem runK_9_6 (ρ : Nat → Value) : runK ρ 9 6 = true := by kernel_rfl
theorem runK_9_7 (ρ : Nat → Value) : runK ρ 9 7 = true := by kernel_rfl
theorem runK_10_0 (ρ : Nat → Value) : runK ρ 10 0 = true := by kernel_rfl
theorem runK_10_1 (ρ : Nat → Value) : runK ρ 10 1 = true := by kernel_rfl
theorem runK_10_2 (ρ : Nat → Value) : runK ρ 10 2 = true := by kernel_rfl
theorem runK_10_3 (ρ : Nat → Value) : runK ρ 10 3 = true := by kernel_rfl
theorem runK_10_4 (ρ : Nat → Value) : runK ρ 10 4 = true := by kernel_rfl
theorem runK_10_5 (ρ : Nat → Value) : runK ρ 10 5 = true := by kernel_rfl
theorem runK_10_6 (ρ : Nat → Value) : runK ρ 10 6 = true := by kernel_rfl
theorem runK_11_0 (ρ : Nat → Value) : runK ρ 11 0 = true := by kernel_rfl
theorem runK_11_1 (ρ : Nat → Value) : runK ρ 11 1 = true := by kernel_rfl
theorem runK_11_2 (ρ : Nat → Value) : runK ρ 11 2 = true := by kernel_rfl
theorem runK_11_3 (ρ : Nat → Value) : runK ρ 11 3 = true := by kernel_rfl
theorem runK_11_4 (ρ : Nat → Value) : runK ρ 11 4 = true := by kernel_rfl
theorem runK_11_5 (ρ : Nat → Value) : runK ρ 11 5 = true := by kernel_rfl
end Go.Proofs.YtdblaloadklcfaaDoor
