/- IfaceKinds: runs. -/
import Derived.Test.YtdblaloadklcfaaDoorIfKdR
set_option linter.unusedVariables false
namespace Go.Proofs.YtdblaloadklcfaaDoor
open Go.Sx

theorem runK_5_0 (ρ : Nat → Value) : runK ρ 5 0 = true := by kernel_rfl
theorem runK_5_1 (ρ : Nat → Value) : runK ρ 5 1 = true := by kernel_rfl
theorem runK_5_2 (ρ : Nat → Value) : runK ρ 5 2 = true := by kernel_rfl
theorem runK_5_3 (ρ : Nat → Value) : runK ρ 5 3 = true := by kernel_rfl
theorem runK_5_4 (ρ : Nat → Value) : runK ρ 5 4 = true := by kernel_rfl
theorem runK_5_5 (ρ : Nat → Value) : runK ρ 5 5 = true := by kernel_rfl
theorem runK_5_6 (ρ : Nat → Value) : runK ρ 5 6 = true := by kernel_rfl
theorem runK_5_7 (ρ : Nat → Value) : runK ρ 5 7 = true := by kernel_rfl
theorem runK_5_8 (ρ : Nat → Value) : runK ρ 5 8 = true := by kernel_rfl
theorem runK_5_9 (ρ : Nat → Value) : runK ρ 5 9 = true := by kernel_rfl
theorem runK_5_10 (ρ : Nat → Value) : runK ρ 5 10 = true := by kernel_rfl
theorem runK_5_11 (ρ : Nat → Value) : runK ρ 5 11 = true := by kernel_rfl
theorem runK_6_0 (ρ : Nat → Value) : runK ρ 6 0 = true := by kernel_rfl
theorem runK_6_1 (ρ : Nat → Value) : runK ρ 6 1 = true := by kernel_rfl
theorem runK_6_2 (ρ : Nat → Value) : runK ρ 6 2 = true := by kernel_rfl
theorem runK_6_3 (ρ : Nat → Value) : runK ρ 6 3 = true := by kernel_rfl
theorem runK_6_4 (ρ : Nat → Value) : runK ρ 6 4 = true := by kernel_rfl
theorem runK_6_5 (ρ : Nat → Value) : runK ρ 6 5 = true := by kernel_rfl
theorem runK_6_6 (ρ : Nat → Value) : runK ρ 6 6 = true := by kernel_rfl
theorem runK_6_7 (ρ : Nat → Value) : runK ρ 6 7 = true := by kernel_rfl
theorem runK_6_8 (ρ : Nat → Value) : runK ρ 6 8 = true := by kernel_rfl
theorem runK_6_9 (ρ : Nat → Value) : runK ρ 6 9 = true := by kernel_rfl
theorem runK_6_10 (ρ : Nat → Value) : runK ρ 6 10 = true := by kernel_rfl
theorem runK_7_0 (ρ : Nat → Value) : runK ρ 7 0 = true := by kernel_rfl
theorem runK_7_1 (ρ : Nat → Value) : runK ρ 7 1 = true := by kernel_rfl
theorem runK_7_2 (ρ : Nat → Value) : runK ρ 7 2 = true := by kernel_rfl
theorem runK_7_3 (ρ : Nat → Value) : runK ρ 7 3 = true := by kernel_rfl
theorem runK_7_4 (ρ : Nat → Value) : runK ρ 7 4 = true := by kernel_rfl
theorem runK_7_5 (ρ : Nat → Value) : runK ρ 7 5 = true := by kernel_rfl
theorem runK_7_6 (ρ : Nat → Value) : runK ρ 7 6 = true := by kernel_rfl
theorem runK_7_7 (ρ : Nat → Value) : runK ρ 7 7 = true := by kernel_rfl
theorem runK_7_8 (ρ : Nat → Value) : runK ρ 7 8 = true := by kernel_rfl
theorem runK_7_9 (ρ : Nat → Value) : runK ρ 7 9 = true := by kernel_rfl
end Go.Proofs.YtdblaloadklcfaaDoor
