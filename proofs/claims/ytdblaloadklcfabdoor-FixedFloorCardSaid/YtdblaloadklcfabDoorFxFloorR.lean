/- FixedFloor: the run and what it leaves to be shown. -/
import Derived.Test.YtdblaloadklcfabDoorFxB
import Derived.Test.YtdblaloadklcfabDoorSx26
set_option linter.unusedVariables false
set_option linter.unusedSimpArgs false
namespace Go.Proofs.YtdblaloadklcfabDoor
open Go.Sx
def FlR : List (PC × SE) := [
  ((((.cmp .lss (.bin .add .i64 (.conv .i64 (.ivar .i32 0)) (.int .i64 128)) (.bin .add .i64 (.int .i64 256) (.bin .mul .i64 (.int .i64 256) (.bin .shr .i64 (.bin .add .i64 (.conv .i64 (.ivar .i32 0)) (.int .i64 128)) (.int .u64 8))))), false) :: (((.cmp .lss (.bin .add .i64 (.conv .i64 (.ivar .i32 0)) (.int .i64 128)) (.bin .mul .i64 (.int .i64 256) (.bin .shr .i64 (.bin .add .i64 (.conv .i64 (.ivar .i32 0)) (.int .i64 128)) (.int .u64 8)))), false) :: (((.cmp .lss (.conv .i64 (.ivar .i32 0)) (.bin .add .i64 (.int .i64 256) (.bin .mul .i64 (.int .i64 256) (.conv .i64 (.bin .shr .i32 (.ivar .i32 0) (.int .u64 8)))))), true) :: (((.cmp .lss (.conv .i64 (.ivar .i32 0)) (.bin .mul .i64 (.int .i64 256) (.conv .i64 (.bin .shr .i32 (.ivar .i32 0) (.int .u64 8))))), false) :: [])))), (.bool false)),
  ((((.cmp .lss (.bin .add .i64 (.conv .i64 (.ivar .i32 0)) (.int .i64 128)) (.bin .mul .i64 (.int .i64 256) (.bin .shr .i64 (.bin .add .i64 (.conv .i64 (.ivar .i32 0)) (.int .i64 128)) (.int .u64 8)))), true) :: (((.cmp .lss (.conv .i64 (.ivar .i32 0)) (.bin .add .i64 (.int .i64 256) (.bin .mul .i64 (.int .i64 256) (.conv .i64 (.bin .shr .i32 (.ivar .i32 0) (.int .u64 8)))))), true) :: (((.cmp .lss (.conv .i64 (.ivar .i32 0)) (.bin .mul .i64 (.int .i64 256) (.conv .i64 (.bin .shr .i32 (.ivar .i32 0) (.int .u64 8))))), false) :: []))), (.bool false)),
  ((((.cmp .lss (.conv .i64 (.ivar .i32 0)) (.bin .add .i64 (.int .i64 256) (.bin .mul .i64 (.int .i64 256) (.conv .i64 (.bin .shr .i32 (.ivar .i32 0) (.int .u64 8)))))), false) :: (((.cmp .lss (.conv .i64 (.ivar .i32 0)) (.bin .mul .i64 (.int .i64 256) (.conv .i64 (.bin .shr .i32 (.ivar .i32 0) (.int .u64 8))))), false) :: [])), (.bool false)),
  ((((.cmp .lss (.conv .i64 (.ivar .i32 0)) (.bin .mul .i64 (.int .i64 256) (.conv .i64 (.bin .shr .i32 (.ivar .i32 0) (.int .u64 8))))), true) :: []), (.bool false))]
theorem fl_rest (ρ : Nat → Value) : restOf (callF kn Tryd.prog (tb.at ρ) 300 300 [] 8 [.sym (.int .i32) (.ivar .i32 0)] H0) = some FlR := by kernel_rfl
theorem fl_true (ρ : Nat → Value) : ∀ q, q ∈ FlR → q.1.holds ρ → q.2.truth ρ = true := by
  have hb := v_bounds ρ .i32 0
  simp only [IntKind.min, IntKind.max, IntKind.bits, IntKind.signed] at hb
  simp only [FlR, all_cons, all_nil, h_cons, h_nil, t_eql, t_lss, t_bool, t_and, t_not, n_int, n_add, n_sub, n_mul, n_conv, n_shr, w_u64, w_i64, w_i32]
  generalize (SE.ivar .i32 0).num ρ = x at hb ⊢
  simp [IntKind.bits] at hb ⊢
  omega
end Go.Proofs.YtdblaloadklcfabDoor
