/- FixedNearest: the run and what it leaves to be shown. -/
import Derived.Test.YtdblaloadklcfabDoorFxB
import Derived.Test.YtdblaloadklcfabDoorSx26
set_option linter.unusedVariables false
set_option linter.unusedSimpArgs false
namespace Go.Proofs.YtdblaloadklcfabDoor
open Go.Sx
theorem wid_u64 (n : Int) (h1 : 0 ≤ n) (h2 : n ≤ 18446744073709551615) : IntKind.wrap .u64 n = n := wrap_id .u64 n h1 h2
theorem wid_i64 (n : Int) (h1 : -9223372036854775808 ≤ n) (h2 : n ≤ 9223372036854775807) : IntKind.wrap .i64 n = n := wrap_id .i64 n h1 h2
theorem wid_i32 (n : Int) (h1 : -2147483648 ≤ n) (h2 : n ≤ 2147483647) : IntKind.wrap .i32 n = n := wrap_id .i32 n h1 h2
theorem neg_u64 (n : Int) (h1 : n < 0) (h2 : -9223372036854775808 ≤ n) : IntKind.wrap .u64 (0 - IntKind.wrap .u64 n) = -n := by rw [w_u64, w_u64]; omega
/-- The quotient and the rest of 256 A by D, with a number b that is D or -D. -/
theorem parts (A D b : Int) (h0 : 0 ≤ A) (h1 : 0 < D) (hb : b = D ∨ b = -D) :
    0 ≤ A / D ∧ A / D ≤ A ∧ 0 ≤ A % D ∧ A % D < D ∧ ((b = D ∧ b * (A / D) + A % D = A) ∨ (b = -D ∧ -(b * (A / D)) + A % D = A)) := by
  have e := Int.mul_ediv_add_emod A D
  refine ⟨Int.ediv_nonneg h0 (Int.le_of_lt h1), Int.ediv_le_self D h0, Int.emod_nonneg _ (by omega), Int.emod_lt_of_pos _ h1, ?_⟩
  rcases hb with rfl | rfl
  · exact .inl ⟨rfl, e⟩
  · refine .inr ⟨rfl, ?_⟩
    rw [Int.neg_mul]; omega
def nearR0 : List (PC × SE) := [
  ((((.cmp .eql (.ivar .i16 1) (.int .i16 0)), false) :: (((.cmp .eql (.conv .i64 (.ivar .i16 1)) (.int .i64 0)), true) :: [])), (.bool false))]
def nearR1 : List (PC × SE) := [
  ((((.cmp .eql (.ivar .i16 1) (.int .i16 0)), true) :: (((.cmp .lss (.bin .rem .u64 (.bin .mul .u64 (.int .u64 256) (.bin .sub .u64 (.int .u64 0) (.conv .u64 (.conv .i64 (.ivar .i16 0))))) (.bin .sub .u64 (.int .u64 0) (.conv .u64 (.conv .i64 (.ivar .i16 1))))) (.bin .sub .u64 (.bin .sub .u64 (.int .u64 0) (.conv .u64 (.conv .i64 (.ivar .i16 1)))) (.bin .rem .u64 (.bin .mul .u64 (.int .u64 256) (.bin .sub .u64 (.int .u64 0) (.conv .u64 (.conv .i64 (.ivar .i16 0))))) (.bin .sub .u64 (.int .u64 0) (.conv .u64 (.conv .i64 (.ivar .i16 1))))))), false) :: (((.cmp .lss (.conv .i64 (.ivar .i16 1)) (.int .i64 0)), true) :: (((.cmp .lss (.conv .i64 (.ivar .i16 0)) (.int .i64 0)), true) :: (((.cmp .eql (.conv .i64 (.ivar .i16 1)) (.int .i64 0)), false) :: []))))), (.bool false))]
def nearR2 : List (PC × SE) := [
  ((((.cmp .lss (.max true (.conv .i64 (.ivar .i16 1)) (.bin .sub .i64 (.int .i64 0) (.conv .i64 (.ivar .i16 1)))) (.bin .mul .i64 (.max true (.bin .sub .i64 (.bin .mul .i64 (.conv .i64 (.ivar .i16 0)) (.int .i64 256)) (.bin .mul .i64 (.conv .i64 (.ivar .i16 1)) (.conv .i64 (.conv .i32 (.bin .add .u64 (.int .u64 1) (.bin .quo .u64 (.bin .mul .u64 (.int .u64 256) (.bin .sub .u64 (.int .u64 0) (.conv .u64 (.conv .i64 (.ivar .i16 0))))) (.bin .sub .u64 (.int .u64 0) (.conv .u64 (.conv .i64 (.ivar .i16 1)))))))))) (.bin .sub .i64 (.bin .mul .i64 (.conv .i64 (.ivar .i16 1)) (.conv .i64 (.conv .i32 (.bin .add .u64 (.int .u64 1) (.bin .quo .u64 (.bin .mul .u64 (.int .u64 256) (.bin .sub .u64 (.int .u64 0) (.conv .u64 (.conv .i64 (.ivar .i16 0))))) (.bin .sub .u64 (.int .u64 0) (.conv .u64 (.conv .i64 (.ivar .i16 1))))))))) (.bin .mul .i64 (.conv .i64 (.ivar .i16 0)) (.int .i64 256)))) (.int .i64 2))), true) :: (((.cmp .eql (.ivar .i16 1) (.int .i16 0)), false) :: (((.cmp .lss (.bin .rem .u64 (.bin .mul .u64 (.int .u64 256) (.bin .sub .u64 (.int .u64 0) (.conv .u64 (.conv .i64 (.ivar .i16 0))))) (.bin .sub .u64 (.int .u64 0) (.conv .u64 (.conv .i64 (.ivar .i16 1))))) (.bin .sub .u64 (.bin .sub .u64 (.int .u64 0) (.conv .u64 (.conv .i64 (.ivar .i16 1)))) (.bin .rem .u64 (.bin .mul .u64 (.int .u64 256) (.bin .sub .u64 (.int .u64 0) (.conv .u64 (.conv .i64 (.ivar .i16 0))))) (.bin .sub .u64 (.int .u64 0) (.conv .u64 (.conv .i64 (.ivar .i16 1))))))), false) :: (((.cmp .lss (.conv .i64 (.ivar .i16 1)) (.int .i64 0)), true) :: (((.cmp .lss (.conv .i64 (.ivar .i16 0)) (.int .i64 0)), true) :: (((.cmp .eql (.conv .i64 (.ivar .i16 1)) (.int .i64 0)), false) :: [])))))), (.bool false))]
def nearR3 : List (PC × SE) := [
  ((((.cmp .lss (.max true (.bin .mul .i64 (.conv .i64 (.ivar .i16 1)) (.conv .i64 (.conv .i32 (.bin .add .u64 (.int .u64 1) (.bin .quo .u64 (.bin .mul .u64 (.int .u64 256) (.bin .sub .u64 (.int .u64 0) (.conv .u64 (.conv .i64 (.ivar .i16 0))))) (.bin .sub .u64 (.int .u64 0) (.conv .u64 (.conv .i64 (.ivar .i16 1))))))))) (.bin .sub .i64 (.int .i64 0) (.bin .mul .i64 (.conv .i64 (.ivar .i16 1)) (.conv .i64 (.conv .i32 (.bin .add .u64 (.int .u64 1) (.bin .quo .u64 (.bin .mul .u64 (.int .u64 256) (.bin .sub .u64 (.int .u64 0) (.conv .u64 (.conv .i64 (.ivar .i16 0))))) (.bin .sub .u64 (.int .u64 0) (.conv .u64 (.conv .i64 (.ivar .i16 1))))))))))) (.max true (.bin .mul .i64 (.conv .i64 (.ivar .i16 0)) (.int .i64 256)) (.bin .sub .i64 (.int .i64 0) (.bin .mul .i64 (.conv .i64 (.ivar .i16 0)) (.int .i64 256))))), true) :: (((.cmp .eql (.bin .mul .i64 (.max true (.bin .sub .i64 (.bin .mul .i64 (.conv .i64 (.ivar .i16 0)) (.int .i64 256)) (.bin .mul .i64 (.conv .i64 (.ivar .i16 1)) (.conv .i64 (.conv .i32 (.bin .add .u64 (.int .u64 1) (.bin .quo .u64 (.bin .mul .u64 (.int .u64 256) (.bin .sub .u64 (.int .u64 0) (.conv .u64 (.conv .i64 (.ivar .i16 0))))) (.bin .sub .u64 (.int .u64 0) (.conv .u64 (.conv .i64 (.ivar .i16 1)))))))))) (.bin .sub .i64 (.bin .mul .i64 (.conv .i64 (.ivar .i16 1)) (.conv .i64 (.conv .i32 (.bin .add .u64 (.int .u64 1) (.bin .quo .u64 (.bin .mul .u64 (.int .u64 256) (.bin .sub .u64 (.int .u64 0) (.conv .u64 (.conv .i64 (.ivar .i16 0))))) (.bin .sub .u64 (.int .u64 0) (.conv .u64 (.conv .i64 (.ivar .i16 1))))))))) (.bin .mul .i64 (.conv .i64 (.ivar .i16 0)) (.int .i64 256)))) (.int .i64 2)) (.max true (.conv .i64 (.ivar .i16 1)) (.bin .sub .i64 (.int .i64 0) (.conv .i64 (.ivar .i16 1))))), true) :: (((.cmp .lss (.max true (.conv .i64 (.ivar .i16 1)) (.bin .sub .i64 (.int .i64 0) (.conv .i64 (.ivar .i16 1)))) (.bin .mul .i64 (.max true (.bin .sub .i64 (.bin .mul .i64 (.conv .i64 (.ivar .i16 0)) (.int .i64 256)) (.bin .mul .i64 (.conv .i64 (.ivar .i16 1)) (.conv .i64 (.conv .i32 (.bin .add .u64 (.int .u64 1) (.bin .quo .u64 (.bin .mul .u64 (.int .u64 256) (.bin .sub .u64 (.int .u64 0) (.conv .u64 (.conv .i64 (.ivar .i16 0))))) (.bin .sub .u64 (.int .u64 0) (.conv .u64 (.conv .i64 (.ivar .i16 1)))))))))) (.bin .sub .i64 (.bin .mul .i64 (.conv .i64 (.ivar .i16 1)) (.conv .i64 (.conv .i32 (.bin .add .u64 (.int .u64 1) (.bin .quo .u64 (.bin .mul .u64 (.int .u64 256) (.bin .sub .u64 (.int .u64 0) (.conv .u64 (.conv .i64 (.ivar .i16 0))))) (.bin .sub .u64 (.int .u64 0) (.conv .u64 (.conv .i64 (.ivar .i16 1))))))))) (.bin .mul .i64 (.conv .i64 (.ivar .i16 0)) (.int .i64 256)))) (.int .i64 2))), false) :: (((.cmp .eql (.ivar .i16 1) (.int .i16 0)), false) :: (((.cmp .lss (.bin .rem .u64 (.bin .mul .u64 (.int .u64 256) (.bin .sub .u64 (.int .u64 0) (.conv .u64 (.conv .i64 (.ivar .i16 0))))) (.bin .sub .u64 (.int .u64 0) (.conv .u64 (.conv .i64 (.ivar .i16 1))))) (.bin .sub .u64 (.bin .sub .u64 (.int .u64 0) (.conv .u64 (.conv .i64 (.ivar .i16 1)))) (.bin .rem .u64 (.bin .mul .u64 (.int .u64 256) (.bin .sub .u64 (.int .u64 0) (.conv .u64 (.conv .i64 (.ivar .i16 0))))) (.bin .sub .u64 (.int .u64 0) (.conv .u64 (.conv .i64 (.ivar .i16 1))))))), false) :: (((.cmp .lss (.conv .i64 (.ivar .i16 1)) (.int .i64 0)), true) :: (((.cmp .lss (.conv .i64 (.ivar .i16 0)) (.int .i64 0)), true) :: (((.cmp .eql (.conv .i64 (.ivar .i16 1)) (.int .i64 0)), false) :: [])))))))), (.bool false))]
def nearR4 : List (PC × SE) := [
  ((((.cmp .eql (.conv .i32 (.bin .quo .u64 (.bin .mul .u64 (.int .u64 256) (.bin .sub .u64 (.int .u64 0) (.conv .u64 (.conv .i64 (.ivar .i16 0))))) (.bin .sub .u64 (.int .u64 0) (.conv .u64 (.conv .i64 (.ivar .i16 1)))))) (.int .i32 0)), true) :: (((.cmp .eql (.ivar .i16 1) (.int .i16 0)), true) :: (((.cmp .lss (.bin .rem .u64 (.bin .mul .u64 (.int .u64 256) (.bin .sub .u64 (.int .u64 0) (.conv .u64 (.conv .i64 (.ivar .i16 0))))) (.bin .sub .u64 (.int .u64 0) (.conv .u64 (.conv .i64 (.ivar .i16 1))))) (.bin .sub .u64 (.bin .sub .u64 (.int .u64 0) (.conv .u64 (.conv .i64 (.ivar .i16 1)))) (.bin .rem .u64 (.bin .mul .u64 (.int .u64 256) (.bin .sub .u64 (.int .u64 0) (.conv .u64 (.conv .i64 (.ivar .i16 0))))) (.bin .sub .u64 (.int .u64 0) (.conv .u64 (.conv .i64 (.ivar .i16 1))))))), true) :: (((.cmp .lss (.conv .i64 (.ivar .i16 1)) (.int .i64 0)), true) :: (((.cmp .lss (.conv .i64 (.ivar .i16 0)) (.int .i64 0)), true) :: (((.cmp .eql (.conv .i64 (.ivar .i16 1)) (.int .i64 0)), false) :: [])))))), (.bool false))]
def nearR5 : List (PC × SE) := [
  ((((.cmp .eql (.conv .i32 (.bin .quo .u64 (.bin .mul .u64 (.int .u64 256) (.bin .sub .u64 (.int .u64 0) (.conv .u64 (.conv .i64 (.ivar .i16 0))))) (.bin .sub .u64 (.int .u64 0) (.conv .u64 (.conv .i64 (.ivar .i16 1)))))) (.int .i32 0)), false) :: (((.cmp .eql (.ivar .i16 1) (.int .i16 0)), true) :: (((.cmp .lss (.bin .rem .u64 (.bin .mul .u64 (.int .u64 256) (.bin .sub .u64 (.int .u64 0) (.conv .u64 (.conv .i64 (.ivar .i16 0))))) (.bin .sub .u64 (.int .u64 0) (.conv .u64 (.conv .i64 (.ivar .i16 1))))) (.bin .sub .u64 (.bin .sub .u64 (.int .u64 0) (.conv .u64 (.conv .i64 (.ivar .i16 1)))) (.bin .rem .u64 (.bin .mul .u64 (.int .u64 256) (.bin .sub .u64 (.int .u64 0) (.conv .u64 (.conv .i64 (.ivar .i16 0))))) (.bin .sub .u64 (.int .u64 0) (.conv .u64 (.conv .i64 (.ivar .i16 1))))))), true) :: (((.cmp .lss (.conv .i64 (.ivar .i16 1)) (.int .i64 0)), true) :: (((.cmp .lss (.conv .i64 (.ivar .i16 0)) (.int .i64 0)), true) :: (((.cmp .eql (.conv .i64 (.ivar .i16 1)) (.int .i64 0)), false) :: [])))))), (.bool false))]
def nearR6 : List (PC × SE) := [
  ((((.cmp .lss (.max true (.conv .i64 (.ivar .i16 1)) (.bin .sub .i64 (.int .i64 0) (.conv .i64 (.ivar .i16 1)))) (.bin .mul .i64 (.max true (.bin .sub .i64 (.bin .mul .i64 (.conv .i64 (.ivar .i16 0)) (.int .i64 256)) (.bin .mul .i64 (.conv .i64 (.ivar .i16 1)) (.conv .i64 (.conv .i32 (.bin .quo .u64 (.bin .mul .u64 (.int .u64 256) (.bin .sub .u64 (.int .u64 0) (.conv .u64 (.conv .i64 (.ivar .i16 0))))) (.bin .sub .u64 (.int .u64 0) (.conv .u64 (.conv .i64 (.ivar .i16 1))))))))) (.bin .sub .i64 (.bin .mul .i64 (.conv .i64 (.ivar .i16 1)) (.conv .i64 (.conv .i32 (.bin .quo .u64 (.bin .mul .u64 (.int .u64 256) (.bin .sub .u64 (.int .u64 0) (.conv .u64 (.conv .i64 (.ivar .i16 0))))) (.bin .sub .u64 (.int .u64 0) (.conv .u64 (.conv .i64 (.ivar .i16 1)))))))) (.bin .mul .i64 (.conv .i64 (.ivar .i16 0)) (.int .i64 256)))) (.int .i64 2))), true) :: (((.cmp .eql (.ivar .i16 1) (.int .i16 0)), false) :: (((.cmp .lss (.bin .rem .u64 (.bin .mul .u64 (.int .u64 256) (.bin .sub .u64 (.int .u64 0) (.conv .u64 (.conv .i64 (.ivar .i16 0))))) (.bin .sub .u64 (.int .u64 0) (.conv .u64 (.conv .i64 (.ivar .i16 1))))) (.bin .sub .u64 (.bin .sub .u64 (.int .u64 0) (.conv .u64 (.conv .i64 (.ivar .i16 1)))) (.bin .rem .u64 (.bin .mul .u64 (.int .u64 256) (.bin .sub .u64 (.int .u64 0) (.conv .u64 (.conv .i64 (.ivar .i16 0))))) (.bin .sub .u64 (.int .u64 0) (.conv .u64 (.conv .i64 (.ivar .i16 1))))))), true) :: (((.cmp .lss (.conv .i64 (.ivar .i16 1)) (.int .i64 0)), true) :: (((.cmp .lss (.conv .i64 (.ivar .i16 0)) (.int .i64 0)), true) :: (((.cmp .eql (.conv .i64 (.ivar .i16 1)) (.int .i64 0)), false) :: [])))))), (.bool false))]
def nearR7 : List (PC × SE) := [
  ((((.cmp .lss (.max true (.bin .mul .i64 (.conv .i64 (.ivar .i16 1)) (.conv .i64 (.conv .i32 (.bin .quo .u64 (.bin .mul .u64 (.int .u64 256) (.bin .sub .u64 (.int .u64 0) (.conv .u64 (.conv .i64 (.ivar .i16 0))))) (.bin .sub .u64 (.int .u64 0) (.conv .u64 (.conv .i64 (.ivar .i16 1)))))))) (.bin .sub .i64 (.int .i64 0) (.bin .mul .i64 (.conv .i64 (.ivar .i16 1)) (.conv .i64 (.conv .i32 (.bin .quo .u64 (.bin .mul .u64 (.int .u64 256) (.bin .sub .u64 (.int .u64 0) (.conv .u64 (.conv .i64 (.ivar .i16 0))))) (.bin .sub .u64 (.int .u64 0) (.conv .u64 (.conv .i64 (.ivar .i16 1)))))))))) (.max true (.bin .mul .i64 (.conv .i64 (.ivar .i16 0)) (.int .i64 256)) (.bin .sub .i64 (.int .i64 0) (.bin .mul .i64 (.conv .i64 (.ivar .i16 0)) (.int .i64 256))))), true) :: (((.cmp .eql (.bin .mul .i64 (.max true (.bin .sub .i64 (.bin .mul .i64 (.conv .i64 (.ivar .i16 0)) (.int .i64 256)) (.bin .mul .i64 (.conv .i64 (.ivar .i16 1)) (.conv .i64 (.conv .i32 (.bin .quo .u64 (.bin .mul .u64 (.int .u64 256) (.bin .sub .u64 (.int .u64 0) (.conv .u64 (.conv .i64 (.ivar .i16 0))))) (.bin .sub .u64 (.int .u64 0) (.conv .u64 (.conv .i64 (.ivar .i16 1))))))))) (.bin .sub .i64 (.bin .mul .i64 (.conv .i64 (.ivar .i16 1)) (.conv .i64 (.conv .i32 (.bin .quo .u64 (.bin .mul .u64 (.int .u64 256) (.bin .sub .u64 (.int .u64 0) (.conv .u64 (.conv .i64 (.ivar .i16 0))))) (.bin .sub .u64 (.int .u64 0) (.conv .u64 (.conv .i64 (.ivar .i16 1)))))))) (.bin .mul .i64 (.conv .i64 (.ivar .i16 0)) (.int .i64 256)))) (.int .i64 2)) (.max true (.conv .i64 (.ivar .i16 1)) (.bin .sub .i64 (.int .i64 0) (.conv .i64 (.ivar .i16 1))))), true) :: (((.cmp .lss (.max true (.conv .i64 (.ivar .i16 1)) (.bin .sub .i64 (.int .i64 0) (.conv .i64 (.ivar .i16 1)))) (.bin .mul .i64 (.max true (.bin .sub .i64 (.bin .mul .i64 (.conv .i64 (.ivar .i16 0)) (.int .i64 256)) (.bin .mul .i64 (.conv .i64 (.ivar .i16 1)) (.conv .i64 (.conv .i32 (.bin .quo .u64 (.bin .mul .u64 (.int .u64 256) (.bin .sub .u64 (.int .u64 0) (.conv .u64 (.conv .i64 (.ivar .i16 0))))) (.bin .sub .u64 (.int .u64 0) (.conv .u64 (.conv .i64 (.ivar .i16 1))))))))) (.bin .sub .i64 (.bin .mul .i64 (.conv .i64 (.ivar .i16 1)) (.conv .i64 (.conv .i32 (.bin .quo .u64 (.bin .mul .u64 (.int .u64 256) (.bin .sub .u64 (.int .u64 0) (.conv .u64 (.conv .i64 (.ivar .i16 0))))) (.bin .sub .u64 (.int .u64 0) (.conv .u64 (.conv .i64 (.ivar .i16 1)))))))) (.bin .mul .i64 (.conv .i64 (.ivar .i16 0)) (.int .i64 256)))) (.int .i64 2))), false) :: (((.cmp .eql (.ivar .i16 1) (.int .i16 0)), false) :: (((.cmp .lss (.bin .rem .u64 (.bin .mul .u64 (.int .u64 256) (.bin .sub .u64 (.int .u64 0) (.conv .u64 (.conv .i64 (.ivar .i16 0))))) (.bin .sub .u64 (.int .u64 0) (.conv .u64 (.conv .i64 (.ivar .i16 1))))) (.bin .sub .u64 (.bin .sub .u64 (.int .u64 0) (.conv .u64 (.conv .i64 (.ivar .i16 1)))) (.bin .rem .u64 (.bin .mul .u64 (.int .u64 256) (.bin .sub .u64 (.int .u64 0) (.conv .u64 (.conv .i64 (.ivar .i16 0))))) (.bin .sub .u64 (.int .u64 0) (.conv .u64 (.conv .i64 (.ivar .i16 1))))))), true) :: (((.cmp .lss (.conv .i64 (.ivar .i16 1)) (.int .i64 0)), true) :: (((.cmp .lss (.conv .i64 (.ivar .i16 0)) (.int .i64 0)), true) :: (((.cmp .eql (.conv .i64 (.ivar .i16 1)) (.int .i64 0)), false) :: [])))))))), (.bool false))]
def nearR8 : List (PC × SE) := [
  ((((.cmp .eql (.ivar .i16 1) (.int .i16 0)), true) :: (((.cmp .lss (.bin .rem .u64 (.bin .mul .u64 (.int .u64 256) (.bin .sub .u64 (.int .u64 0) (.conv .u64 (.conv .i64 (.ivar .i16 0))))) (.conv .u64 (.conv .i64 (.ivar .i16 1)))) (.bin .sub .u64 (.conv .u64 (.conv .i64 (.ivar .i16 1))) (.bin .rem .u64 (.bin .mul .u64 (.int .u64 256) (.bin .sub .u64 (.int .u64 0) (.conv .u64 (.conv .i64 (.ivar .i16 0))))) (.conv .u64 (.conv .i64 (.ivar .i16 1)))))), false) :: (((.cmp .lss (.conv .i64 (.ivar .i16 1)) (.int .i64 0)), false) :: (((.cmp .lss (.conv .i64 (.ivar .i16 0)) (.int .i64 0)), true) :: (((.cmp .eql (.conv .i64 (.ivar .i16 1)) (.int .i64 0)), false) :: []))))), (.bool false))]
def nearR9 : List (PC × SE) := [
  ((((.cmp .lss (.max true (.conv .i64 (.ivar .i16 1)) (.bin .sub .i64 (.int .i64 0) (.conv .i64 (.ivar .i16 1)))) (.bin .mul .i64 (.max true (.bin .sub .i64 (.bin .mul .i64 (.conv .i64 (.ivar .i16 0)) (.int .i64 256)) (.bin .mul .i64 (.conv .i64 (.ivar .i16 1)) (.conv .i64 (.conv .i32 (.bin .sub .i64 (.int .i64 0) (.conv .i64 (.bin .add .u64 (.int .u64 1) (.bin .quo .u64 (.bin .mul .u64 (.int .u64 256) (.bin .sub .u64 (.int .u64 0) (.conv .u64 (.conv .i64 (.ivar .i16 0))))) (.conv .u64 (.conv .i64 (.ivar .i16 1))))))))))) (.bin .sub .i64 (.bin .mul .i64 (.conv .i64 (.ivar .i16 1)) (.conv .i64 (.conv .i32 (.bin .sub .i64 (.int .i64 0) (.conv .i64 (.bin .add .u64 (.int .u64 1) (.bin .quo .u64 (.bin .mul .u64 (.int .u64 256) (.bin .sub .u64 (.int .u64 0) (.conv .u64 (.conv .i64 (.ivar .i16 0))))) (.conv .u64 (.conv .i64 (.ivar .i16 1)))))))))) (.bin .mul .i64 (.conv .i64 (.ivar .i16 0)) (.int .i64 256)))) (.int .i64 2))), true) :: (((.cmp .eql (.ivar .i16 1) (.int .i16 0)), false) :: (((.cmp .lss (.bin .rem .u64 (.bin .mul .u64 (.int .u64 256) (.bin .sub .u64 (.int .u64 0) (.conv .u64 (.conv .i64 (.ivar .i16 0))))) (.conv .u64 (.conv .i64 (.ivar .i16 1)))) (.bin .sub .u64 (.conv .u64 (.conv .i64 (.ivar .i16 1))) (.bin .rem .u64 (.bin .mul .u64 (.int .u64 256) (.bin .sub .u64 (.int .u64 0) (.conv .u64 (.conv .i64 (.ivar .i16 0))))) (.conv .u64 (.conv .i64 (.ivar .i16 1)))))), false) :: (((.cmp .lss (.conv .i64 (.ivar .i16 1)) (.int .i64 0)), false) :: (((.cmp .lss (.conv .i64 (.ivar .i16 0)) (.int .i64 0)), true) :: (((.cmp .eql (.conv .i64 (.ivar .i16 1)) (.int .i64 0)), false) :: [])))))), (.bool false))]
def nearR10 : List (PC × SE) := [
  ((((.cmp .lss (.max true (.bin .mul .i64 (.conv .i64 (.ivar .i16 1)) (.conv .i64 (.conv .i32 (.bin .sub .i64 (.int .i64 0) (.conv .i64 (.bin .add .u64 (.int .u64 1) (.bin .quo .u64 (.bin .mul .u64 (.int .u64 256) (.bin .sub .u64 (.int .u64 0) (.conv .u64 (.conv .i64 (.ivar .i16 0))))) (.conv .u64 (.conv .i64 (.ivar .i16 1)))))))))) (.bin .sub .i64 (.int .i64 0) (.bin .mul .i64 (.conv .i64 (.ivar .i16 1)) (.conv .i64 (.conv .i32 (.bin .sub .i64 (.int .i64 0) (.conv .i64 (.bin .add .u64 (.int .u64 1) (.bin .quo .u64 (.bin .mul .u64 (.int .u64 256) (.bin .sub .u64 (.int .u64 0) (.conv .u64 (.conv .i64 (.ivar .i16 0))))) (.conv .u64 (.conv .i64 (.ivar .i16 1)))))))))))) (.max true (.bin .mul .i64 (.conv .i64 (.ivar .i16 0)) (.int .i64 256)) (.bin .sub .i64 (.int .i64 0) (.bin .mul .i64 (.conv .i64 (.ivar .i16 0)) (.int .i64 256))))), true) :: (((.cmp .eql (.bin .mul .i64 (.max true (.bin .sub .i64 (.bin .mul .i64 (.conv .i64 (.ivar .i16 0)) (.int .i64 256)) (.bin .mul .i64 (.conv .i64 (.ivar .i16 1)) (.conv .i64 (.conv .i32 (.bin .sub .i64 (.int .i64 0) (.conv .i64 (.bin .add .u64 (.int .u64 1) (.bin .quo .u64 (.bin .mul .u64 (.int .u64 256) (.bin .sub .u64 (.int .u64 0) (.conv .u64 (.conv .i64 (.ivar .i16 0))))) (.conv .u64 (.conv .i64 (.ivar .i16 1))))))))))) (.bin .sub .i64 (.bin .mul .i64 (.conv .i64 (.ivar .i16 1)) (.conv .i64 (.conv .i32 (.bin .sub .i64 (.int .i64 0) (.conv .i64 (.bin .add .u64 (.int .u64 1) (.bin .quo .u64 (.bin .mul .u64 (.int .u64 256) (.bin .sub .u64 (.int .u64 0) (.conv .u64 (.conv .i64 (.ivar .i16 0))))) (.conv .u64 (.conv .i64 (.ivar .i16 1)))))))))) (.bin .mul .i64 (.conv .i64 (.ivar .i16 0)) (.int .i64 256)))) (.int .i64 2)) (.max true (.conv .i64 (.ivar .i16 1)) (.bin .sub .i64 (.int .i64 0) (.conv .i64 (.ivar .i16 1))))), true) :: (((.cmp .lss (.max true (.conv .i64 (.ivar .i16 1)) (.bin .sub .i64 (.int .i64 0) (.conv .i64 (.ivar .i16 1)))) (.bin .mul .i64 (.max true (.bin .sub .i64 (.bin .mul .i64 (.conv .i64 (.ivar .i16 0)) (.int .i64 256)) (.bin .mul .i64 (.conv .i64 (.ivar .i16 1)) (.conv .i64 (.conv .i32 (.bin .sub .i64 (.int .i64 0) (.conv .i64 (.bin .add .u64 (.int .u64 1) (.bin .quo .u64 (.bin .mul .u64 (.int .u64 256) (.bin .sub .u64 (.int .u64 0) (.conv .u64 (.conv .i64 (.ivar .i16 0))))) (.conv .u64 (.conv .i64 (.ivar .i16 1))))))))))) (.bin .sub .i64 (.bin .mul .i64 (.conv .i64 (.ivar .i16 1)) (.conv .i64 (.conv .i32 (.bin .sub .i64 (.int .i64 0) (.conv .i64 (.bin .add .u64 (.int .u64 1) (.bin .quo .u64 (.bin .mul .u64 (.int .u64 256) (.bin .sub .u64 (.int .u64 0) (.conv .u64 (.conv .i64 (.ivar .i16 0))))) (.conv .u64 (.conv .i64 (.ivar .i16 1)))))))))) (.bin .mul .i64 (.conv .i64 (.ivar .i16 0)) (.int .i64 256)))) (.int .i64 2))), false) :: (((.cmp .eql (.ivar .i16 1) (.int .i16 0)), false) :: (((.cmp .lss (.bin .rem .u64 (.bin .mul .u64 (.int .u64 256) (.bin .sub .u64 (.int .u64 0) (.conv .u64 (.conv .i64 (.ivar .i16 0))))) (.conv .u64 (.conv .i64 (.ivar .i16 1)))) (.bin .sub .u64 (.conv .u64 (.conv .i64 (.ivar .i16 1))) (.bin .rem .u64 (.bin .mul .u64 (.int .u64 256) (.bin .sub .u64 (.int .u64 0) (.conv .u64 (.conv .i64 (.ivar .i16 0))))) (.conv .u64 (.conv .i64 (.ivar .i16 1)))))), false) :: (((.cmp .lss (.conv .i64 (.ivar .i16 1)) (.int .i64 0)), false) :: (((.cmp .lss (.conv .i64 (.ivar .i16 0)) (.int .i64 0)), true) :: (((.cmp .eql (.conv .i64 (.ivar .i16 1)) (.int .i64 0)), false) :: [])))))))), (.bool false))]
def nearR11 : List (PC × SE) := [
  ((((.cmp .eql (.conv .i32 (.bin .sub .i64 (.int .i64 0) (.conv .i64 (.bin .quo .u64 (.bin .mul .u64 (.int .u64 256) (.bin .sub .u64 (.int .u64 0) (.conv .u64 (.conv .i64 (.ivar .i16 0))))) (.conv .u64 (.conv .i64 (.ivar .i16 1))))))) (.int .i32 0)), true) :: (((.cmp .eql (.ivar .i16 1) (.int .i16 0)), true) :: (((.cmp .lss (.bin .rem .u64 (.bin .mul .u64 (.int .u64 256) (.bin .sub .u64 (.int .u64 0) (.conv .u64 (.conv .i64 (.ivar .i16 0))))) (.conv .u64 (.conv .i64 (.ivar .i16 1)))) (.bin .sub .u64 (.conv .u64 (.conv .i64 (.ivar .i16 1))) (.bin .rem .u64 (.bin .mul .u64 (.int .u64 256) (.bin .sub .u64 (.int .u64 0) (.conv .u64 (.conv .i64 (.ivar .i16 0))))) (.conv .u64 (.conv .i64 (.ivar .i16 1)))))), true) :: (((.cmp .lss (.conv .i64 (.ivar .i16 1)) (.int .i64 0)), false) :: (((.cmp .lss (.conv .i64 (.ivar .i16 0)) (.int .i64 0)), true) :: (((.cmp .eql (.conv .i64 (.ivar .i16 1)) (.int .i64 0)), false) :: [])))))), (.bool false))]
def nearR12 : List (PC × SE) := [
  ((((.cmp .eql (.conv .i32 (.bin .sub .i64 (.int .i64 0) (.conv .i64 (.bin .quo .u64 (.bin .mul .u64 (.int .u64 256) (.bin .sub .u64 (.int .u64 0) (.conv .u64 (.conv .i64 (.ivar .i16 0))))) (.conv .u64 (.conv .i64 (.ivar .i16 1))))))) (.int .i32 0)), false) :: (((.cmp .eql (.ivar .i16 1) (.int .i16 0)), true) :: (((.cmp .lss (.bin .rem .u64 (.bin .mul .u64 (.int .u64 256) (.bin .sub .u64 (.int .u64 0) (.conv .u64 (.conv .i64 (.ivar .i16 0))))) (.conv .u64 (.conv .i64 (.ivar .i16 1)))) (.bin .sub .u64 (.conv .u64 (.conv .i64 (.ivar .i16 1))) (.bin .rem .u64 (.bin .mul .u64 (.int .u64 256) (.bin .sub .u64 (.int .u64 0) (.conv .u64 (.conv .i64 (.ivar .i16 0))))) (.conv .u64 (.conv .i64 (.ivar .i16 1)))))), true) :: (((.cmp .lss (.conv .i64 (.ivar .i16 1)) (.int .i64 0)), false) :: (((.cmp .lss (.conv .i64 (.ivar .i16 0)) (.int .i64 0)), true) :: (((.cmp .eql (.conv .i64 (.ivar .i16 1)) (.int .i64 0)), false) :: [])))))), (.bool false))]
def nearR13 : List (PC × SE) := [
  ((((.cmp .lss (.max true (.conv .i64 (.ivar .i16 1)) (.bin .sub .i64 (.int .i64 0) (.conv .i64 (.ivar .i16 1)))) (.bin .mul .i64 (.max true (.bin .sub .i64 (.bin .mul .i64 (.conv .i64 (.ivar .i16 0)) (.int .i64 256)) (.bin .mul .i64 (.conv .i64 (.ivar .i16 1)) (.conv .i64 (.conv .i32 (.bin .sub .i64 (.int .i64 0) (.conv .i64 (.bin .quo .u64 (.bin .mul .u64 (.int .u64 256) (.bin .sub .u64 (.int .u64 0) (.conv .u64 (.conv .i64 (.ivar .i16 0))))) (.conv .u64 (.conv .i64 (.ivar .i16 1)))))))))) (.bin .sub .i64 (.bin .mul .i64 (.conv .i64 (.ivar .i16 1)) (.conv .i64 (.conv .i32 (.bin .sub .i64 (.int .i64 0) (.conv .i64 (.bin .quo .u64 (.bin .mul .u64 (.int .u64 256) (.bin .sub .u64 (.int .u64 0) (.conv .u64 (.conv .i64 (.ivar .i16 0))))) (.conv .u64 (.conv .i64 (.ivar .i16 1))))))))) (.bin .mul .i64 (.conv .i64 (.ivar .i16 0)) (.int .i64 256)))) (.int .i64 2))), true) :: (((.cmp .eql (.ivar .i16 1) (.int .i16 0)), false) :: (((.cmp .lss (.bin .rem .u64 (.bin .mul .u64 (.int .u64 256) (.bin .sub .u64 (.int .u64 0) (.conv .u64 (.conv .i64 (.ivar .i16 0))))) (.conv .u64 (.conv .i64 (.ivar .i16 1)))) (.bin .sub .u64 (.conv .u64 (.conv .i64 (.ivar .i16 1))) (.bin .rem .u64 (.bin .mul .u64 (.int .u64 256) (.bin .sub .u64 (.int .u64 0) (.conv .u64 (.conv .i64 (.ivar .i16 0))))) (.conv .u64 (.conv .i64 (.ivar .i16 1)))))), true) :: (((.cmp .lss (.conv .i64 (.ivar .i16 1)) (.int .i64 0)), false) :: (((.cmp .lss (.conv .i64 (.ivar .i16 0)) (.int .i64 0)), true) :: (((.cmp .eql (.conv .i64 (.ivar .i16 1)) (.int .i64 0)), false) :: [])))))), (.bool false))]
def nearR14 : List (PC × SE) := [
  ((((.cmp .lss (.max true (.bin .mul .i64 (.conv .i64 (.ivar .i16 1)) (.conv .i64 (.conv .i32 (.bin .sub .i64 (.int .i64 0) (.conv .i64 (.bin .quo .u64 (.bin .mul .u64 (.int .u64 256) (.bin .sub .u64 (.int .u64 0) (.conv .u64 (.conv .i64 (.ivar .i16 0))))) (.conv .u64 (.conv .i64 (.ivar .i16 1))))))))) (.bin .sub .i64 (.int .i64 0) (.bin .mul .i64 (.conv .i64 (.ivar .i16 1)) (.conv .i64 (.conv .i32 (.bin .sub .i64 (.int .i64 0) (.conv .i64 (.bin .quo .u64 (.bin .mul .u64 (.int .u64 256) (.bin .sub .u64 (.int .u64 0) (.conv .u64 (.conv .i64 (.ivar .i16 0))))) (.conv .u64 (.conv .i64 (.ivar .i16 1))))))))))) (.max true (.bin .mul .i64 (.conv .i64 (.ivar .i16 0)) (.int .i64 256)) (.bin .sub .i64 (.int .i64 0) (.bin .mul .i64 (.conv .i64 (.ivar .i16 0)) (.int .i64 256))))), true) :: (((.cmp .eql (.bin .mul .i64 (.max true (.bin .sub .i64 (.bin .mul .i64 (.conv .i64 (.ivar .i16 0)) (.int .i64 256)) (.bin .mul .i64 (.conv .i64 (.ivar .i16 1)) (.conv .i64 (.conv .i32 (.bin .sub .i64 (.int .i64 0) (.conv .i64 (.bin .quo .u64 (.bin .mul .u64 (.int .u64 256) (.bin .sub .u64 (.int .u64 0) (.conv .u64 (.conv .i64 (.ivar .i16 0))))) (.conv .u64 (.conv .i64 (.ivar .i16 1)))))))))) (.bin .sub .i64 (.bin .mul .i64 (.conv .i64 (.ivar .i16 1)) (.conv .i64 (.conv .i32 (.bin .sub .i64 (.int .i64 0) (.conv .i64 (.bin .quo .u64 (.bin .mul .u64 (.int .u64 256) (.bin .sub .u64 (.int .u64 0) (.conv .u64 (.conv .i64 (.ivar .i16 0))))) (.conv .u64 (.conv .i64 (.ivar .i16 1))))))))) (.bin .mul .i64 (.conv .i64 (.ivar .i16 0)) (.int .i64 256)))) (.int .i64 2)) (.max true (.conv .i64 (.ivar .i16 1)) (.bin .sub .i64 (.int .i64 0) (.conv .i64 (.ivar .i16 1))))), true) :: (((.cmp .lss (.max true (.conv .i64 (.ivar .i16 1)) (.bin .sub .i64 (.int .i64 0) (.conv .i64 (.ivar .i16 1)))) (.bin .mul .i64 (.max true (.bin .sub .i64 (.bin .mul .i64 (.conv .i64 (.ivar .i16 0)) (.int .i64 256)) (.bin .mul .i64 (.conv .i64 (.ivar .i16 1)) (.conv .i64 (.conv .i32 (.bin .sub .i64 (.int .i64 0) (.conv .i64 (.bin .quo .u64 (.bin .mul .u64 (.int .u64 256) (.bin .sub .u64 (.int .u64 0) (.conv .u64 (.conv .i64 (.ivar .i16 0))))) (.conv .u64 (.conv .i64 (.ivar .i16 1)))))))))) (.bin .sub .i64 (.bin .mul .i64 (.conv .i64 (.ivar .i16 1)) (.conv .i64 (.conv .i32 (.bin .sub .i64 (.int .i64 0) (.conv .i64 (.bin .quo .u64 (.bin .mul .u64 (.int .u64 256) (.bin .sub .u64 (.int .u64 0) (.conv .u64 (.conv .i64 (.ivar .i16 0))))) (.conv .u64 (.conv .i64 (.ivar .i16 1))))))))) (.bin .mul .i64 (.conv .i64 (.ivar .i16 0)) (.int .i64 256)))) (.int .i64 2))), false) :: (((.cmp .eql (.ivar .i16 1) (.int .i16 0)), false) :: (((.cmp .lss (.bin .rem .u64 (.bin .mul .u64 (.int .u64 256) (.bin .sub .u64 (.int .u64 0) (.conv .u64 (.conv .i64 (.ivar .i16 0))))) (.conv .u64 (.conv .i64 (.ivar .i16 1)))) (.bin .sub .u64 (.conv .u64 (.conv .i64 (.ivar .i16 1))) (.bin .rem .u64 (.bin .mul .u64 (.int .u64 256) (.bin .sub .u64 (.int .u64 0) (.conv .u64 (.conv .i64 (.ivar .i16 0))))) (.conv .u64 (.conv .i64 (.ivar .i16 1)))))), true) :: (((.cmp .lss (.conv .i64 (.ivar .i16 1)) (.int .i64 0)), false) :: (((.cmp .lss (.conv .i64 (.ivar .i16 0)) (.int .i64 0)), true) :: (((.cmp .eql (.conv .i64 (.ivar .i16 1)) (.int .i64 0)), false) :: [])))))))), (.bool false))]
def nearR15 : List (PC × SE) := [
  ((((.cmp .eql (.ivar .i16 1) (.int .i16 0)), true) :: (((.cmp .lss (.bin .rem .u64 (.bin .mul .u64 (.conv .u64 (.conv .i64 (.ivar .i16 0))) (.int .u64 256)) (.bin .sub .u64 (.int .u64 0) (.conv .u64 (.conv .i64 (.ivar .i16 1))))) (.bin .sub .u64 (.bin .sub .u64 (.int .u64 0) (.conv .u64 (.conv .i64 (.ivar .i16 1)))) (.bin .rem .u64 (.bin .mul .u64 (.conv .u64 (.conv .i64 (.ivar .i16 0))) (.int .u64 256)) (.bin .sub .u64 (.int .u64 0) (.conv .u64 (.conv .i64 (.ivar .i16 1))))))), false) :: (((.cmp .lss (.conv .i64 (.ivar .i16 1)) (.int .i64 0)), true) :: (((.cmp .lss (.conv .i64 (.ivar .i16 0)) (.int .i64 0)), false) :: (((.cmp .eql (.conv .i64 (.ivar .i16 1)) (.int .i64 0)), false) :: []))))), (.bool false))]
def nearR16 : List (PC × SE) := [
  ((((.cmp .lss (.max true (.conv .i64 (.ivar .i16 1)) (.bin .sub .i64 (.int .i64 0) (.conv .i64 (.ivar .i16 1)))) (.bin .mul .i64 (.max true (.bin .sub .i64 (.bin .mul .i64 (.conv .i64 (.ivar .i16 0)) (.int .i64 256)) (.bin .mul .i64 (.conv .i64 (.ivar .i16 1)) (.conv .i64 (.conv .i32 (.bin .sub .i64 (.int .i64 0) (.conv .i64 (.bin .add .u64 (.int .u64 1) (.bin .quo .u64 (.bin .mul .u64 (.conv .u64 (.conv .i64 (.ivar .i16 0))) (.int .u64 256)) (.bin .sub .u64 (.int .u64 0) (.conv .u64 (.conv .i64 (.ivar .i16 1)))))))))))) (.bin .sub .i64 (.bin .mul .i64 (.conv .i64 (.ivar .i16 1)) (.conv .i64 (.conv .i32 (.bin .sub .i64 (.int .i64 0) (.conv .i64 (.bin .add .u64 (.int .u64 1) (.bin .quo .u64 (.bin .mul .u64 (.conv .u64 (.conv .i64 (.ivar .i16 0))) (.int .u64 256)) (.bin .sub .u64 (.int .u64 0) (.conv .u64 (.conv .i64 (.ivar .i16 1))))))))))) (.bin .mul .i64 (.conv .i64 (.ivar .i16 0)) (.int .i64 256)))) (.int .i64 2))), true) :: (((.cmp .eql (.ivar .i16 1) (.int .i16 0)), false) :: (((.cmp .lss (.bin .rem .u64 (.bin .mul .u64 (.conv .u64 (.conv .i64 (.ivar .i16 0))) (.int .u64 256)) (.bin .sub .u64 (.int .u64 0) (.conv .u64 (.conv .i64 (.ivar .i16 1))))) (.bin .sub .u64 (.bin .sub .u64 (.int .u64 0) (.conv .u64 (.conv .i64 (.ivar .i16 1)))) (.bin .rem .u64 (.bin .mul .u64 (.conv .u64 (.conv .i64 (.ivar .i16 0))) (.int .u64 256)) (.bin .sub .u64 (.int .u64 0) (.conv .u64 (.conv .i64 (.ivar .i16 1))))))), false) :: (((.cmp .lss (.conv .i64 (.ivar .i16 1)) (.int .i64 0)), true) :: (((.cmp .lss (.conv .i64 (.ivar .i16 0)) (.int .i64 0)), false) :: (((.cmp .eql (.conv .i64 (.ivar .i16 1)) (.int .i64 0)), false) :: [])))))), (.bool false))]
def nearR17 : List (PC × SE) := [
  ((((.cmp .lss (.max true (.bin .mul .i64 (.conv .i64 (.ivar .i16 1)) (.conv .i64 (.conv .i32 (.bin .sub .i64 (.int .i64 0) (.conv .i64 (.bin .add .u64 (.int .u64 1) (.bin .quo .u64 (.bin .mul .u64 (.conv .u64 (.conv .i64 (.ivar .i16 0))) (.int .u64 256)) (.bin .sub .u64 (.int .u64 0) (.conv .u64 (.conv .i64 (.ivar .i16 1))))))))))) (.bin .sub .i64 (.int .i64 0) (.bin .mul .i64 (.conv .i64 (.ivar .i16 1)) (.conv .i64 (.conv .i32 (.bin .sub .i64 (.int .i64 0) (.conv .i64 (.bin .add .u64 (.int .u64 1) (.bin .quo .u64 (.bin .mul .u64 (.conv .u64 (.conv .i64 (.ivar .i16 0))) (.int .u64 256)) (.bin .sub .u64 (.int .u64 0) (.conv .u64 (.conv .i64 (.ivar .i16 1))))))))))))) (.max true (.bin .mul .i64 (.conv .i64 (.ivar .i16 0)) (.int .i64 256)) (.bin .sub .i64 (.int .i64 0) (.bin .mul .i64 (.conv .i64 (.ivar .i16 0)) (.int .i64 256))))), true) :: (((.cmp .eql (.bin .mul .i64 (.max true (.bin .sub .i64 (.bin .mul .i64 (.conv .i64 (.ivar .i16 0)) (.int .i64 256)) (.bin .mul .i64 (.conv .i64 (.ivar .i16 1)) (.conv .i64 (.conv .i32 (.bin .sub .i64 (.int .i64 0) (.conv .i64 (.bin .add .u64 (.int .u64 1) (.bin .quo .u64 (.bin .mul .u64 (.conv .u64 (.conv .i64 (.ivar .i16 0))) (.int .u64 256)) (.bin .sub .u64 (.int .u64 0) (.conv .u64 (.conv .i64 (.ivar .i16 1)))))))))))) (.bin .sub .i64 (.bin .mul .i64 (.conv .i64 (.ivar .i16 1)) (.conv .i64 (.conv .i32 (.bin .sub .i64 (.int .i64 0) (.conv .i64 (.bin .add .u64 (.int .u64 1) (.bin .quo .u64 (.bin .mul .u64 (.conv .u64 (.conv .i64 (.ivar .i16 0))) (.int .u64 256)) (.bin .sub .u64 (.int .u64 0) (.conv .u64 (.conv .i64 (.ivar .i16 1))))))))))) (.bin .mul .i64 (.conv .i64 (.ivar .i16 0)) (.int .i64 256)))) (.int .i64 2)) (.max true (.conv .i64 (.ivar .i16 1)) (.bin .sub .i64 (.int .i64 0) (.conv .i64 (.ivar .i16 1))))), true) :: (((.cmp .lss (.max true (.conv .i64 (.ivar .i16 1)) (.bin .sub .i64 (.int .i64 0) (.conv .i64 (.ivar .i16 1)))) (.bin .mul .i64 (.max true (.bin .sub .i64 (.bin .mul .i64 (.conv .i64 (.ivar .i16 0)) (.int .i64 256)) (.bin .mul .i64 (.conv .i64 (.ivar .i16 1)) (.conv .i64 (.conv .i32 (.bin .sub .i64 (.int .i64 0) (.conv .i64 (.bin .add .u64 (.int .u64 1) (.bin .quo .u64 (.bin .mul .u64 (.conv .u64 (.conv .i64 (.ivar .i16 0))) (.int .u64 256)) (.bin .sub .u64 (.int .u64 0) (.conv .u64 (.conv .i64 (.ivar .i16 1)))))))))))) (.bin .sub .i64 (.bin .mul .i64 (.conv .i64 (.ivar .i16 1)) (.conv .i64 (.conv .i32 (.bin .sub .i64 (.int .i64 0) (.conv .i64 (.bin .add .u64 (.int .u64 1) (.bin .quo .u64 (.bin .mul .u64 (.conv .u64 (.conv .i64 (.ivar .i16 0))) (.int .u64 256)) (.bin .sub .u64 (.int .u64 0) (.conv .u64 (.conv .i64 (.ivar .i16 1))))))))))) (.bin .mul .i64 (.conv .i64 (.ivar .i16 0)) (.int .i64 256)))) (.int .i64 2))), false) :: (((.cmp .eql (.ivar .i16 1) (.int .i16 0)), false) :: (((.cmp .lss (.bin .rem .u64 (.bin .mul .u64 (.conv .u64 (.conv .i64 (.ivar .i16 0))) (.int .u64 256)) (.bin .sub .u64 (.int .u64 0) (.conv .u64 (.conv .i64 (.ivar .i16 1))))) (.bin .sub .u64 (.bin .sub .u64 (.int .u64 0) (.conv .u64 (.conv .i64 (.ivar .i16 1)))) (.bin .rem .u64 (.bin .mul .u64 (.conv .u64 (.conv .i64 (.ivar .i16 0))) (.int .u64 256)) (.bin .sub .u64 (.int .u64 0) (.conv .u64 (.conv .i64 (.ivar .i16 1))))))), false) :: (((.cmp .lss (.conv .i64 (.ivar .i16 1)) (.int .i64 0)), true) :: (((.cmp .lss (.conv .i64 (.ivar .i16 0)) (.int .i64 0)), false) :: (((.cmp .eql (.conv .i64 (.ivar .i16 1)) (.int .i64 0)), false) :: [])))))))), (.bool false))]
def nearR18 : List (PC × SE) := [
  ((((.cmp .eql (.conv .i32 (.bin .sub .i64 (.int .i64 0) (.conv .i64 (.bin .quo .u64 (.bin .mul .u64 (.conv .u64 (.conv .i64 (.ivar .i16 0))) (.int .u64 256)) (.bin .sub .u64 (.int .u64 0) (.conv .u64 (.conv .i64 (.ivar .i16 1)))))))) (.int .i32 0)), true) :: (((.cmp .eql (.ivar .i16 1) (.int .i16 0)), true) :: (((.cmp .lss (.bin .rem .u64 (.bin .mul .u64 (.conv .u64 (.conv .i64 (.ivar .i16 0))) (.int .u64 256)) (.bin .sub .u64 (.int .u64 0) (.conv .u64 (.conv .i64 (.ivar .i16 1))))) (.bin .sub .u64 (.bin .sub .u64 (.int .u64 0) (.conv .u64 (.conv .i64 (.ivar .i16 1)))) (.bin .rem .u64 (.bin .mul .u64 (.conv .u64 (.conv .i64 (.ivar .i16 0))) (.int .u64 256)) (.bin .sub .u64 (.int .u64 0) (.conv .u64 (.conv .i64 (.ivar .i16 1))))))), true) :: (((.cmp .lss (.conv .i64 (.ivar .i16 1)) (.int .i64 0)), true) :: (((.cmp .lss (.conv .i64 (.ivar .i16 0)) (.int .i64 0)), false) :: (((.cmp .eql (.conv .i64 (.ivar .i16 1)) (.int .i64 0)), false) :: [])))))), (.bool false))]
def nearR19 : List (PC × SE) := [
  ((((.cmp .eql (.conv .i32 (.bin .sub .i64 (.int .i64 0) (.conv .i64 (.bin .quo .u64 (.bin .mul .u64 (.conv .u64 (.conv .i64 (.ivar .i16 0))) (.int .u64 256)) (.bin .sub .u64 (.int .u64 0) (.conv .u64 (.conv .i64 (.ivar .i16 1)))))))) (.int .i32 0)), false) :: (((.cmp .eql (.ivar .i16 1) (.int .i16 0)), true) :: (((.cmp .lss (.bin .rem .u64 (.bin .mul .u64 (.conv .u64 (.conv .i64 (.ivar .i16 0))) (.int .u64 256)) (.bin .sub .u64 (.int .u64 0) (.conv .u64 (.conv .i64 (.ivar .i16 1))))) (.bin .sub .u64 (.bin .sub .u64 (.int .u64 0) (.conv .u64 (.conv .i64 (.ivar .i16 1)))) (.bin .rem .u64 (.bin .mul .u64 (.conv .u64 (.conv .i64 (.ivar .i16 0))) (.int .u64 256)) (.bin .sub .u64 (.int .u64 0) (.conv .u64 (.conv .i64 (.ivar .i16 1))))))), true) :: (((.cmp .lss (.conv .i64 (.ivar .i16 1)) (.int .i64 0)), true) :: (((.cmp .lss (.conv .i64 (.ivar .i16 0)) (.int .i64 0)), false) :: (((.cmp .eql (.conv .i64 (.ivar .i16 1)) (.int .i64 0)), false) :: [])))))), (.bool false))]
def nearR20 : List (PC × SE) := [
  ((((.cmp .lss (.max true (.conv .i64 (.ivar .i16 1)) (.bin .sub .i64 (.int .i64 0) (.conv .i64 (.ivar .i16 1)))) (.bin .mul .i64 (.max true (.bin .sub .i64 (.bin .mul .i64 (.conv .i64 (.ivar .i16 0)) (.int .i64 256)) (.bin .mul .i64 (.conv .i64 (.ivar .i16 1)) (.conv .i64 (.conv .i32 (.bin .sub .i64 (.int .i64 0) (.conv .i64 (.bin .quo .u64 (.bin .mul .u64 (.conv .u64 (.conv .i64 (.ivar .i16 0))) (.int .u64 256)) (.bin .sub .u64 (.int .u64 0) (.conv .u64 (.conv .i64 (.ivar .i16 1))))))))))) (.bin .sub .i64 (.bin .mul .i64 (.conv .i64 (.ivar .i16 1)) (.conv .i64 (.conv .i32 (.bin .sub .i64 (.int .i64 0) (.conv .i64 (.bin .quo .u64 (.bin .mul .u64 (.conv .u64 (.conv .i64 (.ivar .i16 0))) (.int .u64 256)) (.bin .sub .u64 (.int .u64 0) (.conv .u64 (.conv .i64 (.ivar .i16 1)))))))))) (.bin .mul .i64 (.conv .i64 (.ivar .i16 0)) (.int .i64 256)))) (.int .i64 2))), true) :: (((.cmp .eql (.ivar .i16 1) (.int .i16 0)), false) :: (((.cmp .lss (.bin .rem .u64 (.bin .mul .u64 (.conv .u64 (.conv .i64 (.ivar .i16 0))) (.int .u64 256)) (.bin .sub .u64 (.int .u64 0) (.conv .u64 (.conv .i64 (.ivar .i16 1))))) (.bin .sub .u64 (.bin .sub .u64 (.int .u64 0) (.conv .u64 (.conv .i64 (.ivar .i16 1)))) (.bin .rem .u64 (.bin .mul .u64 (.conv .u64 (.conv .i64 (.ivar .i16 0))) (.int .u64 256)) (.bin .sub .u64 (.int .u64 0) (.conv .u64 (.conv .i64 (.ivar .i16 1))))))), true) :: (((.cmp .lss (.conv .i64 (.ivar .i16 1)) (.int .i64 0)), true) :: (((.cmp .lss (.conv .i64 (.ivar .i16 0)) (.int .i64 0)), false) :: (((.cmp .eql (.conv .i64 (.ivar .i16 1)) (.int .i64 0)), false) :: [])))))), (.bool false))]
def nearR21 : List (PC × SE) := [
  ((((.cmp .lss (.max true (.bin .mul .i64 (.conv .i64 (.ivar .i16 1)) (.conv .i64 (.conv .i32 (.bin .sub .i64 (.int .i64 0) (.conv .i64 (.bin .quo .u64 (.bin .mul .u64 (.conv .u64 (.conv .i64 (.ivar .i16 0))) (.int .u64 256)) (.bin .sub .u64 (.int .u64 0) (.conv .u64 (.conv .i64 (.ivar .i16 1)))))))))) (.bin .sub .i64 (.int .i64 0) (.bin .mul .i64 (.conv .i64 (.ivar .i16 1)) (.conv .i64 (.conv .i32 (.bin .sub .i64 (.int .i64 0) (.conv .i64 (.bin .quo .u64 (.bin .mul .u64 (.conv .u64 (.conv .i64 (.ivar .i16 0))) (.int .u64 256)) (.bin .sub .u64 (.int .u64 0) (.conv .u64 (.conv .i64 (.ivar .i16 1)))))))))))) (.max true (.bin .mul .i64 (.conv .i64 (.ivar .i16 0)) (.int .i64 256)) (.bin .sub .i64 (.int .i64 0) (.bin .mul .i64 (.conv .i64 (.ivar .i16 0)) (.int .i64 256))))), true) :: (((.cmp .eql (.bin .mul .i64 (.max true (.bin .sub .i64 (.bin .mul .i64 (.conv .i64 (.ivar .i16 0)) (.int .i64 256)) (.bin .mul .i64 (.conv .i64 (.ivar .i16 1)) (.conv .i64 (.conv .i32 (.bin .sub .i64 (.int .i64 0) (.conv .i64 (.bin .quo .u64 (.bin .mul .u64 (.conv .u64 (.conv .i64 (.ivar .i16 0))) (.int .u64 256)) (.bin .sub .u64 (.int .u64 0) (.conv .u64 (.conv .i64 (.ivar .i16 1))))))))))) (.bin .sub .i64 (.bin .mul .i64 (.conv .i64 (.ivar .i16 1)) (.conv .i64 (.conv .i32 (.bin .sub .i64 (.int .i64 0) (.conv .i64 (.bin .quo .u64 (.bin .mul .u64 (.conv .u64 (.conv .i64 (.ivar .i16 0))) (.int .u64 256)) (.bin .sub .u64 (.int .u64 0) (.conv .u64 (.conv .i64 (.ivar .i16 1)))))))))) (.bin .mul .i64 (.conv .i64 (.ivar .i16 0)) (.int .i64 256)))) (.int .i64 2)) (.max true (.conv .i64 (.ivar .i16 1)) (.bin .sub .i64 (.int .i64 0) (.conv .i64 (.ivar .i16 1))))), true) :: (((.cmp .lss (.max true (.conv .i64 (.ivar .i16 1)) (.bin .sub .i64 (.int .i64 0) (.conv .i64 (.ivar .i16 1)))) (.bin .mul .i64 (.max true (.bin .sub .i64 (.bin .mul .i64 (.conv .i64 (.ivar .i16 0)) (.int .i64 256)) (.bin .mul .i64 (.conv .i64 (.ivar .i16 1)) (.conv .i64 (.conv .i32 (.bin .sub .i64 (.int .i64 0) (.conv .i64 (.bin .quo .u64 (.bin .mul .u64 (.conv .u64 (.conv .i64 (.ivar .i16 0))) (.int .u64 256)) (.bin .sub .u64 (.int .u64 0) (.conv .u64 (.conv .i64 (.ivar .i16 1))))))))))) (.bin .sub .i64 (.bin .mul .i64 (.conv .i64 (.ivar .i16 1)) (.conv .i64 (.conv .i32 (.bin .sub .i64 (.int .i64 0) (.conv .i64 (.bin .quo .u64 (.bin .mul .u64 (.conv .u64 (.conv .i64 (.ivar .i16 0))) (.int .u64 256)) (.bin .sub .u64 (.int .u64 0) (.conv .u64 (.conv .i64 (.ivar .i16 1)))))))))) (.bin .mul .i64 (.conv .i64 (.ivar .i16 0)) (.int .i64 256)))) (.int .i64 2))), false) :: (((.cmp .eql (.ivar .i16 1) (.int .i16 0)), false) :: (((.cmp .lss (.bin .rem .u64 (.bin .mul .u64 (.conv .u64 (.conv .i64 (.ivar .i16 0))) (.int .u64 256)) (.bin .sub .u64 (.int .u64 0) (.conv .u64 (.conv .i64 (.ivar .i16 1))))) (.bin .sub .u64 (.bin .sub .u64 (.int .u64 0) (.conv .u64 (.conv .i64 (.ivar .i16 1)))) (.bin .rem .u64 (.bin .mul .u64 (.conv .u64 (.conv .i64 (.ivar .i16 0))) (.int .u64 256)) (.bin .sub .u64 (.int .u64 0) (.conv .u64 (.conv .i64 (.ivar .i16 1))))))), true) :: (((.cmp .lss (.conv .i64 (.ivar .i16 1)) (.int .i64 0)), true) :: (((.cmp .lss (.conv .i64 (.ivar .i16 0)) (.int .i64 0)), false) :: (((.cmp .eql (.conv .i64 (.ivar .i16 1)) (.int .i64 0)), false) :: [])))))))), (.bool false))]
def nearR22 : List (PC × SE) := [
  ((((.cmp .eql (.ivar .i16 1) (.int .i16 0)), true) :: (((.cmp .lss (.bin .rem .u64 (.bin .mul .u64 (.conv .u64 (.conv .i64 (.ivar .i16 0))) (.int .u64 256)) (.conv .u64 (.conv .i64 (.ivar .i16 1)))) (.bin .sub .u64 (.conv .u64 (.conv .i64 (.ivar .i16 1))) (.bin .rem .u64 (.bin .mul .u64 (.conv .u64 (.conv .i64 (.ivar .i16 0))) (.int .u64 256)) (.conv .u64 (.conv .i64 (.ivar .i16 1)))))), false) :: (((.cmp .lss (.conv .i64 (.ivar .i16 1)) (.int .i64 0)), false) :: (((.cmp .lss (.conv .i64 (.ivar .i16 0)) (.int .i64 0)), false) :: (((.cmp .eql (.conv .i64 (.ivar .i16 1)) (.int .i64 0)), false) :: []))))), (.bool false))]
def nearR23 : List (PC × SE) := [
  ((((.cmp .lss (.max true (.conv .i64 (.ivar .i16 1)) (.bin .sub .i64 (.int .i64 0) (.conv .i64 (.ivar .i16 1)))) (.bin .mul .i64 (.max true (.bin .sub .i64 (.bin .mul .i64 (.conv .i64 (.ivar .i16 0)) (.int .i64 256)) (.bin .mul .i64 (.conv .i64 (.ivar .i16 1)) (.conv .i64 (.conv .i32 (.bin .add .u64 (.int .u64 1) (.bin .quo .u64 (.bin .mul .u64 (.conv .u64 (.conv .i64 (.ivar .i16 0))) (.int .u64 256)) (.conv .u64 (.conv .i64 (.ivar .i16 1))))))))) (.bin .sub .i64 (.bin .mul .i64 (.conv .i64 (.ivar .i16 1)) (.conv .i64 (.conv .i32 (.bin .add .u64 (.int .u64 1) (.bin .quo .u64 (.bin .mul .u64 (.conv .u64 (.conv .i64 (.ivar .i16 0))) (.int .u64 256)) (.conv .u64 (.conv .i64 (.ivar .i16 1)))))))) (.bin .mul .i64 (.conv .i64 (.ivar .i16 0)) (.int .i64 256)))) (.int .i64 2))), true) :: (((.cmp .eql (.ivar .i16 1) (.int .i16 0)), false) :: (((.cmp .lss (.bin .rem .u64 (.bin .mul .u64 (.conv .u64 (.conv .i64 (.ivar .i16 0))) (.int .u64 256)) (.conv .u64 (.conv .i64 (.ivar .i16 1)))) (.bin .sub .u64 (.conv .u64 (.conv .i64 (.ivar .i16 1))) (.bin .rem .u64 (.bin .mul .u64 (.conv .u64 (.conv .i64 (.ivar .i16 0))) (.int .u64 256)) (.conv .u64 (.conv .i64 (.ivar .i16 1)))))), false) :: (((.cmp .lss (.conv .i64 (.ivar .i16 1)) (.int .i64 0)), false) :: (((.cmp .lss (.conv .i64 (.ivar .i16 0)) (.int .i64 0)), false) :: (((.cmp .eql (.conv .i64 (.ivar .i16 1)) (.int .i64 0)), false) :: [])))))), (.bool false))]
def nearR24 : List (PC × SE) := [
  ((((.cmp .lss (.max true (.bin .mul .i64 (.conv .i64 (.ivar .i16 1)) (.conv .i64 (.conv .i32 (.bin .add .u64 (.int .u64 1) (.bin .quo .u64 (.bin .mul .u64 (.conv .u64 (.conv .i64 (.ivar .i16 0))) (.int .u64 256)) (.conv .u64 (.conv .i64 (.ivar .i16 1)))))))) (.bin .sub .i64 (.int .i64 0) (.bin .mul .i64 (.conv .i64 (.ivar .i16 1)) (.conv .i64 (.conv .i32 (.bin .add .u64 (.int .u64 1) (.bin .quo .u64 (.bin .mul .u64 (.conv .u64 (.conv .i64 (.ivar .i16 0))) (.int .u64 256)) (.conv .u64 (.conv .i64 (.ivar .i16 1)))))))))) (.max true (.bin .mul .i64 (.conv .i64 (.ivar .i16 0)) (.int .i64 256)) (.bin .sub .i64 (.int .i64 0) (.bin .mul .i64 (.conv .i64 (.ivar .i16 0)) (.int .i64 256))))), true) :: (((.cmp .eql (.bin .mul .i64 (.max true (.bin .sub .i64 (.bin .mul .i64 (.conv .i64 (.ivar .i16 0)) (.int .i64 256)) (.bin .mul .i64 (.conv .i64 (.ivar .i16 1)) (.conv .i64 (.conv .i32 (.bin .add .u64 (.int .u64 1) (.bin .quo .u64 (.bin .mul .u64 (.conv .u64 (.conv .i64 (.ivar .i16 0))) (.int .u64 256)) (.conv .u64 (.conv .i64 (.ivar .i16 1))))))))) (.bin .sub .i64 (.bin .mul .i64 (.conv .i64 (.ivar .i16 1)) (.conv .i64 (.conv .i32 (.bin .add .u64 (.int .u64 1) (.bin .quo .u64 (.bin .mul .u64 (.conv .u64 (.conv .i64 (.ivar .i16 0))) (.int .u64 256)) (.conv .u64 (.conv .i64 (.ivar .i16 1)))))))) (.bin .mul .i64 (.conv .i64 (.ivar .i16 0)) (.int .i64 256)))) (.int .i64 2)) (.max true (.conv .i64 (.ivar .i16 1)) (.bin .sub .i64 (.int .i64 0) (.conv .i64 (.ivar .i16 1))))), true) :: (((.cmp .lss (.max true (.conv .i64 (.ivar .i16 1)) (.bin .sub .i64 (.int .i64 0) (.conv .i64 (.ivar .i16 1)))) (.bin .mul .i64 (.max true (.bin .sub .i64 (.bin .mul .i64 (.conv .i64 (.ivar .i16 0)) (.int .i64 256)) (.bin .mul .i64 (.conv .i64 (.ivar .i16 1)) (.conv .i64 (.conv .i32 (.bin .add .u64 (.int .u64 1) (.bin .quo .u64 (.bin .mul .u64 (.conv .u64 (.conv .i64 (.ivar .i16 0))) (.int .u64 256)) (.conv .u64 (.conv .i64 (.ivar .i16 1))))))))) (.bin .sub .i64 (.bin .mul .i64 (.conv .i64 (.ivar .i16 1)) (.conv .i64 (.conv .i32 (.bin .add .u64 (.int .u64 1) (.bin .quo .u64 (.bin .mul .u64 (.conv .u64 (.conv .i64 (.ivar .i16 0))) (.int .u64 256)) (.conv .u64 (.conv .i64 (.ivar .i16 1)))))))) (.bin .mul .i64 (.conv .i64 (.ivar .i16 0)) (.int .i64 256)))) (.int .i64 2))), false) :: (((.cmp .eql (.ivar .i16 1) (.int .i16 0)), false) :: (((.cmp .lss (.bin .rem .u64 (.bin .mul .u64 (.conv .u64 (.conv .i64 (.ivar .i16 0))) (.int .u64 256)) (.conv .u64 (.conv .i64 (.ivar .i16 1)))) (.bin .sub .u64 (.conv .u64 (.conv .i64 (.ivar .i16 1))) (.bin .rem .u64 (.bin .mul .u64 (.conv .u64 (.conv .i64 (.ivar .i16 0))) (.int .u64 256)) (.conv .u64 (.conv .i64 (.ivar .i16 1)))))), false) :: (((.cmp .lss (.conv .i64 (.ivar .i16 1)) (.int .i64 0)), false) :: (((.cmp .lss (.conv .i64 (.ivar .i16 0)) (.int .i64 0)), false) :: (((.cmp .eql (.conv .i64 (.ivar .i16 1)) (.int .i64 0)), false) :: [])))))))), (.bool false))]
def nearR25 : List (PC × SE) := [
  ((((.cmp .eql (.conv .i32 (.bin .quo .u64 (.bin .mul .u64 (.conv .u64 (.conv .i64 (.ivar .i16 0))) (.int .u64 256)) (.conv .u64 (.conv .i64 (.ivar .i16 1))))) (.int .i32 0)), true) :: (((.cmp .eql (.ivar .i16 1) (.int .i16 0)), true) :: (((.cmp .lss (.bin .rem .u64 (.bin .mul .u64 (.conv .u64 (.conv .i64 (.ivar .i16 0))) (.int .u64 256)) (.conv .u64 (.conv .i64 (.ivar .i16 1)))) (.bin .sub .u64 (.conv .u64 (.conv .i64 (.ivar .i16 1))) (.bin .rem .u64 (.bin .mul .u64 (.conv .u64 (.conv .i64 (.ivar .i16 0))) (.int .u64 256)) (.conv .u64 (.conv .i64 (.ivar .i16 1)))))), true) :: (((.cmp .lss (.conv .i64 (.ivar .i16 1)) (.int .i64 0)), false) :: (((.cmp .lss (.conv .i64 (.ivar .i16 0)) (.int .i64 0)), false) :: (((.cmp .eql (.conv .i64 (.ivar .i16 1)) (.int .i64 0)), false) :: [])))))), (.bool false))]
def nearR26 : List (PC × SE) := [
  ((((.cmp .eql (.conv .i32 (.bin .quo .u64 (.bin .mul .u64 (.conv .u64 (.conv .i64 (.ivar .i16 0))) (.int .u64 256)) (.conv .u64 (.conv .i64 (.ivar .i16 1))))) (.int .i32 0)), false) :: (((.cmp .eql (.ivar .i16 1) (.int .i16 0)), true) :: (((.cmp .lss (.bin .rem .u64 (.bin .mul .u64 (.conv .u64 (.conv .i64 (.ivar .i16 0))) (.int .u64 256)) (.conv .u64 (.conv .i64 (.ivar .i16 1)))) (.bin .sub .u64 (.conv .u64 (.conv .i64 (.ivar .i16 1))) (.bin .rem .u64 (.bin .mul .u64 (.conv .u64 (.conv .i64 (.ivar .i16 0))) (.int .u64 256)) (.conv .u64 (.conv .i64 (.ivar .i16 1)))))), true) :: (((.cmp .lss (.conv .i64 (.ivar .i16 1)) (.int .i64 0)), false) :: (((.cmp .lss (.conv .i64 (.ivar .i16 0)) (.int .i64 0)), false) :: (((.cmp .eql (.conv .i64 (.ivar .i16 1)) (.int .i64 0)), false) :: [])))))), (.bool false))]
def nearR27 : List (PC × SE) := [
  ((((.cmp .lss (.max true (.conv .i64 (.ivar .i16 1)) (.bin .sub .i64 (.int .i64 0) (.conv .i64 (.ivar .i16 1)))) (.bin .mul .i64 (.max true (.bin .sub .i64 (.bin .mul .i64 (.conv .i64 (.ivar .i16 0)) (.int .i64 256)) (.bin .mul .i64 (.conv .i64 (.ivar .i16 1)) (.conv .i64 (.conv .i32 (.bin .quo .u64 (.bin .mul .u64 (.conv .u64 (.conv .i64 (.ivar .i16 0))) (.int .u64 256)) (.conv .u64 (.conv .i64 (.ivar .i16 1)))))))) (.bin .sub .i64 (.bin .mul .i64 (.conv .i64 (.ivar .i16 1)) (.conv .i64 (.conv .i32 (.bin .quo .u64 (.bin .mul .u64 (.conv .u64 (.conv .i64 (.ivar .i16 0))) (.int .u64 256)) (.conv .u64 (.conv .i64 (.ivar .i16 1))))))) (.bin .mul .i64 (.conv .i64 (.ivar .i16 0)) (.int .i64 256)))) (.int .i64 2))), true) :: (((.cmp .eql (.ivar .i16 1) (.int .i16 0)), false) :: (((.cmp .lss (.bin .rem .u64 (.bin .mul .u64 (.conv .u64 (.conv .i64 (.ivar .i16 0))) (.int .u64 256)) (.conv .u64 (.conv .i64 (.ivar .i16 1)))) (.bin .sub .u64 (.conv .u64 (.conv .i64 (.ivar .i16 1))) (.bin .rem .u64 (.bin .mul .u64 (.conv .u64 (.conv .i64 (.ivar .i16 0))) (.int .u64 256)) (.conv .u64 (.conv .i64 (.ivar .i16 1)))))), true) :: (((.cmp .lss (.conv .i64 (.ivar .i16 1)) (.int .i64 0)), false) :: (((.cmp .lss (.conv .i64 (.ivar .i16 0)) (.int .i64 0)), false) :: (((.cmp .eql (.conv .i64 (.ivar .i16 1)) (.int .i64 0)), false) :: [])))))), (.bool false))]
def nearR28 : List (PC × SE) := [
  ((((.cmp .lss (.max true (.bin .mul .i64 (.conv .i64 (.ivar .i16 1)) (.conv .i64 (.conv .i32 (.bin .quo .u64 (.bin .mul .u64 (.conv .u64 (.conv .i64 (.ivar .i16 0))) (.int .u64 256)) (.conv .u64 (.conv .i64 (.ivar .i16 1))))))) (.bin .sub .i64 (.int .i64 0) (.bin .mul .i64 (.conv .i64 (.ivar .i16 1)) (.conv .i64 (.conv .i32 (.bin .quo .u64 (.bin .mul .u64 (.conv .u64 (.conv .i64 (.ivar .i16 0))) (.int .u64 256)) (.conv .u64 (.conv .i64 (.ivar .i16 1))))))))) (.max true (.bin .mul .i64 (.conv .i64 (.ivar .i16 0)) (.int .i64 256)) (.bin .sub .i64 (.int .i64 0) (.bin .mul .i64 (.conv .i64 (.ivar .i16 0)) (.int .i64 256))))), true) :: (((.cmp .eql (.bin .mul .i64 (.max true (.bin .sub .i64 (.bin .mul .i64 (.conv .i64 (.ivar .i16 0)) (.int .i64 256)) (.bin .mul .i64 (.conv .i64 (.ivar .i16 1)) (.conv .i64 (.conv .i32 (.bin .quo .u64 (.bin .mul .u64 (.conv .u64 (.conv .i64 (.ivar .i16 0))) (.int .u64 256)) (.conv .u64 (.conv .i64 (.ivar .i16 1)))))))) (.bin .sub .i64 (.bin .mul .i64 (.conv .i64 (.ivar .i16 1)) (.conv .i64 (.conv .i32 (.bin .quo .u64 (.bin .mul .u64 (.conv .u64 (.conv .i64 (.ivar .i16 0))) (.int .u64 256)) (.conv .u64 (.conv .i64 (.ivar .i16 1))))))) (.bin .mul .i64 (.conv .i64 (.ivar .i16 0)) (.int .i64 256)))) (.int .i64 2)) (.max true (.conv .i64 (.ivar .i16 1)) (.bin .sub .i64 (.int .i64 0) (.conv .i64 (.ivar .i16 1))))), true) :: (((.cmp .lss (.max true (.conv .i64 (.ivar .i16 1)) (.bin .sub .i64 (.int .i64 0) (.conv .i64 (.ivar .i16 1)))) (.bin .mul .i64 (.max true (.bin .sub .i64 (.bin .mul .i64 (.conv .i64 (.ivar .i16 0)) (.int .i64 256)) (.bin .mul .i64 (.conv .i64 (.ivar .i16 1)) (.conv .i64 (.conv .i32 (.bin .quo .u64 (.bin .mul .u64 (.conv .u64 (.conv .i64 (.ivar .i16 0))) (.int .u64 256)) (.conv .u64 (.conv .i64 (.ivar .i16 1)))))))) (.bin .sub .i64 (.bin .mul .i64 (.conv .i64 (.ivar .i16 1)) (.conv .i64 (.conv .i32 (.bin .quo .u64 (.bin .mul .u64 (.conv .u64 (.conv .i64 (.ivar .i16 0))) (.int .u64 256)) (.conv .u64 (.conv .i64 (.ivar .i16 1))))))) (.bin .mul .i64 (.conv .i64 (.ivar .i16 0)) (.int .i64 256)))) (.int .i64 2))), false) :: (((.cmp .eql (.ivar .i16 1) (.int .i16 0)), false) :: (((.cmp .lss (.bin .rem .u64 (.bin .mul .u64 (.conv .u64 (.conv .i64 (.ivar .i16 0))) (.int .u64 256)) (.conv .u64 (.conv .i64 (.ivar .i16 1)))) (.bin .sub .u64 (.conv .u64 (.conv .i64 (.ivar .i16 1))) (.bin .rem .u64 (.bin .mul .u64 (.conv .u64 (.conv .i64 (.ivar .i16 0))) (.int .u64 256)) (.conv .u64 (.conv .i64 (.ivar .i16 1)))))), true) :: (((.cmp .lss (.conv .i64 (.ivar .i16 1)) (.int .i64 0)), false) :: (((.cmp .lss (.conv .i64 (.ivar .i16 0)) (.int .i64 0)), false) :: (((.cmp .eql (.conv .i64 (.ivar .i16 1)) (.int .i64 0)), false) :: [])))))))), (.bool false))]
def nearR : List (PC × SE) := nearR0 ++ (nearR1 ++ (nearR2 ++ (nearR3 ++ (nearR4 ++ (nearR5 ++ (nearR6 ++ (nearR7 ++ (nearR8 ++ (nearR9 ++ (nearR10 ++ (nearR11 ++ (nearR12 ++ (nearR13 ++ (nearR14 ++ (nearR15 ++ (nearR16 ++ (nearR17 ++ (nearR18 ++ (nearR19 ++ (nearR20 ++ (nearR21 ++ (nearR22 ++ (nearR23 ++ (nearR24 ++ (nearR25 ++ (nearR26 ++ (nearR27 ++ (nearR28))))))))))))))))))))))))))))
theorem near_rest (ρ : Nat → Value) : restOf (callF kn Tryd.prog (tb.at ρ) 300 300 [] 7 [.sym (.int .i16) (.ivar .i16 0), .sym (.int .i16) (.ivar .i16 1)] H0) = some nearR := by kernel_rfl
theorem near_true0 (ρ : Nat → Value) : ∀ q, q ∈ nearR0 → q.1.holds ρ → q.2.truth ρ = true := by
  have ha := v_bounds ρ .i16 0
  have hb := v_bounds ρ .i16 1
  simp only [IntKind.min, IntKind.max, IntKind.bits, IntKind.signed] at ha hb
  simp only [nearR0, all_cons, all_nil, h_cons, h_nil, t_eql, t_lss, t_bool, t_and, t_not, n_int, n_add, n_sub, n_mul, n_conv, n_shr, n_and, n_quo, n_rem, n_max]
  generalize (SE.ivar .i16 0).num ρ = a at ha ⊢
  generalize (SE.ivar .i16 1).num ρ = b at hb ⊢
  simp at ha hb
  have c1 : IntKind.wrap .i64 a = a := wid_i64 a (by omega) (by omega)
  have c2 : IntKind.wrap .i64 b = b := wid_i64 b (by omega) (by omega)
  simp only [c1, c2, reduceIte, Bool.false_eq_true, and_true, and_imp, ne_eq]
  clear c1 c2
  by_cases hb0 : b = 0
  · clear ha hb; intros; first | (exfalso; contradiction) | omega
  by_cases hx : a < 0
  · have e1 := neg_u64 a hx (by omega)
    by_cases hy : b < 0
    · have e2 := neg_u64 b hy (by omega)
      have p := parts (256 * -a) (-b) b (by omega) (by omega) (by omega)
      try simp only [e1, e2]
      clear e1 e2
      try simp (disch := omega) only [wid_u64, wid_i64, wid_i32, Int.tdiv_eq_ediv_of_nonneg, Int.tmod_eq_emod_of_nonneg, if_neg]
      generalize 256 * -a / -b = q at p ⊢
      generalize 256 * -a % -b = r at p ⊢
      try simp (disch := omega) only [wid_u64, wid_i64, wid_i32, Int.mul_add, Int.mul_sub, Int.mul_neg, Int.mul_one, Int.mul_zero, Int.zero_sub]
      generalize b * q = t at p ⊢
      intros
      first | omega | skip
    · have e2 := wid_u64 b (by omega) (by omega)
      have p := parts (256 * -a) (b) b (by omega) (by omega) (by omega)
      try simp only [e1, e2]
      clear e1 e2
      try simp (disch := omega) only [wid_u64, wid_i64, wid_i32, Int.tdiv_eq_ediv_of_nonneg, Int.tmod_eq_emod_of_nonneg, if_neg]
      generalize 256 * -a / b = q at p ⊢
      generalize 256 * -a % b = r at p ⊢
      try simp (disch := omega) only [wid_u64, wid_i64, wid_i32, Int.mul_add, Int.mul_sub, Int.mul_neg, Int.mul_one, Int.mul_zero, Int.zero_sub]
      generalize b * q = t at p ⊢
      intros
      first | omega | skip
  · have e1 := wid_u64 a (by omega) (by omega)
    by_cases hy : b < 0
    · have e2 := neg_u64 b hy (by omega)
      have p := parts (a * 256) (-b) b (by omega) (by omega) (by omega)
      try simp only [e1, e2]
      clear e1 e2
      try simp (disch := omega) only [wid_u64, wid_i64, wid_i32, Int.tdiv_eq_ediv_of_nonneg, Int.tmod_eq_emod_of_nonneg, if_neg]
      generalize a * 256 / -b = q at p ⊢
      generalize a * 256 % -b = r at p ⊢
      try simp (disch := omega) only [wid_u64, wid_i64, wid_i32, Int.mul_add, Int.mul_sub, Int.mul_neg, Int.mul_one, Int.mul_zero, Int.zero_sub]
      generalize b * q = t at p ⊢
      intros
      first | omega | skip
    · have e2 := wid_u64 b (by omega) (by omega)
      have p := parts (a * 256) (b) b (by omega) (by omega) (by omega)
      try simp only [e1, e2]
      clear e1 e2
      try simp (disch := omega) only [wid_u64, wid_i64, wid_i32, Int.tdiv_eq_ediv_of_nonneg, Int.tmod_eq_emod_of_nonneg, if_neg]
      generalize a * 256 / b = q at p ⊢
      generalize a * 256 % b = r at p ⊢
      try simp (disch := omega) only [wid_u64, wid_i64, wid_i32, Int.mul_add, Int.mul_sub, Int.mul_neg, Int.mul_one, Int.mul_zero, Int.zero_sub]
      generalize b * q = t at p ⊢
      intros
      first | omega | skip
theorem near_true1 (ρ : Nat → Value) : ∀ q, q ∈ nearR1 → q.1.holds ρ → q.2.truth ρ = true := by
  have ha := v_bounds ρ .i16 0
  have hb := v_bounds ρ .i16 1
  simp only [IntKind.min, IntKind.max, IntKind.bits, IntKind.signed] at ha hb
  simp only [nearR1, all_cons, all_nil, h_cons, h_nil, t_eql, t_lss, t_bool, t_and, t_not, n_int, n_add, n_sub, n_mul, n_conv, n_shr, n_and, n_quo, n_rem, n_max]
  generalize (SE.ivar .i16 0).num ρ = a at ha ⊢
  generalize (SE.ivar .i16 1).num ρ = b at hb ⊢
  simp at ha hb
  have c1 : IntKind.wrap .i64 a = a := wid_i64 a (by omega) (by omega)
  have c2 : IntKind.wrap .i64 b = b := wid_i64 b (by omega) (by omega)
  simp only [c1, c2, reduceIte, Bool.false_eq_true, and_true, and_imp, ne_eq]
  clear c1 c2
  by_cases hb0 : b = 0
  · clear ha hb; intros; first | (exfalso; contradiction) | omega
  by_cases hx : a < 0
  · have e1 := neg_u64 a hx (by omega)
    by_cases hy : b < 0
    · have e2 := neg_u64 b hy (by omega)
      have p := parts (256 * -a) (-b) b (by omega) (by omega) (by omega)
      try simp only [e1, e2]
      clear e1 e2
      try simp (disch := omega) only [wid_u64, wid_i64, wid_i32, Int.tdiv_eq_ediv_of_nonneg, Int.tmod_eq_emod_of_nonneg, if_neg]
      generalize 256 * -a / -b = q at p ⊢
      generalize 256 * -a % -b = r at p ⊢
      try simp (disch := omega) only [wid_u64, wid_i64, wid_i32, Int.mul_add, Int.mul_sub, Int.mul_neg, Int.mul_one, Int.mul_zero, Int.zero_sub]
      generalize b * q = t at p ⊢
      intros
      first | omega | skip
    · have e2 := wid_u64 b (by omega) (by omega)
      have p := parts (256 * -a) (b) b (by omega) (by omega) (by omega)
      try simp only [e1, e2]
      clear e1 e2
      try simp (disch := omega) only [wid_u64, wid_i64, wid_i32, Int.tdiv_eq_ediv_of_nonneg, Int.tmod_eq_emod_of_nonneg, if_neg]
      generalize 256 * -a / b = q at p ⊢
      generalize 256 * -a % b = r at p ⊢
      try simp (disch := omega) only [wid_u64, wid_i64, wid_i32, Int.mul_add, Int.mul_sub, Int.mul_neg, Int.mul_one, Int.mul_zero, Int.zero_sub]
      generalize b * q = t at p ⊢
      intros
      first | omega | skip
  · have e1 := wid_u64 a (by omega) (by omega)
    by_cases hy : b < 0
    · have e2 := neg_u64 b hy (by omega)
      have p := parts (a * 256) (-b) b (by omega) (by omega) (by omega)
      try simp only [e1, e2]
      clear e1 e2
      try simp (disch := omega) only [wid_u64, wid_i64, wid_i32, Int.tdiv_eq_ediv_of_nonneg, Int.tmod_eq_emod_of_nonneg, if_neg]
      generalize a * 256 / -b = q at p ⊢
      generalize a * 256 % -b = r at p ⊢
      try simp (disch := omega) only [wid_u64, wid_i64, wid_i32, Int.mul_add, Int.mul_sub, Int.mul_neg, Int.mul_one, Int.mul_zero, Int.zero_sub]
      generalize b * q = t at p ⊢
      intros
      first | omega | skip
    · have e2 := wid_u64 b (by omega) (by omega)
      have p := parts (a * 256) (b) b (by omega) (by omega) (by omega)
      try simp only [e1, e2]
      clear e1 e2
      try simp (disch := omega) only [wid_u64, wid_i64, wid_i32, Int.tdiv_eq_ediv_of_nonneg, Int.tmod_eq_emod_of_nonneg, if_neg]
      generalize a * 256 / b = q at p ⊢
      generalize a * 256 % b = r at p ⊢
      try simp (disch := omega) only [wid_u64, wid_i64, wid_i32, Int.mul_add, Int.mul_sub, Int.mul_neg, Int.mul_one, Int.mul_zero, Int.zero_sub]
      generalize b * q = t at p ⊢
      intros
      first | omega | skip
theorem near_true2 (ρ : Nat → Value) : ∀ q, q ∈ nearR2 → q.1.holds ρ → q.2.truth ρ = true := by
  have ha := v_bounds ρ .i16 0
  have hb := v_bounds ρ .i16 1
  simp only [IntKind.min, IntKind.max, IntKind.bits, IntKind.signed] at ha hb
  simp only [nearR2, all_cons, all_nil, h_cons, h_nil, t_eql, t_lss, t_bool, t_and, t_not, n_int, n_add, n_sub, n_mul, n_conv, n_shr, n_and, n_quo, n_rem, n_max]
  generalize (SE.ivar .i16 0).num ρ = a at ha ⊢
  generalize (SE.ivar .i16 1).num ρ = b at hb ⊢
  simp at ha hb
  have c1 : IntKind.wrap .i64 a = a := wid_i64 a (by omega) (by omega)
  have c2 : IntKind.wrap .i64 b = b := wid_i64 b (by omega) (by omega)
  simp only [c1, c2, reduceIte, Bool.false_eq_true, and_true, and_imp, ne_eq]
  clear c1 c2
  by_cases hb0 : b = 0
  · clear ha hb; intros; first | (exfalso; contradiction) | omega
  by_cases hx : a < 0
  · have e1 := neg_u64 a hx (by omega)
    by_cases hy : b < 0
    · have e2 := neg_u64 b hy (by omega)
      have p := parts (256 * -a) (-b) b (by omega) (by omega) (by omega)
      try simp only [e1, e2]
      clear e1 e2
      try simp (disch := omega) only [wid_u64, wid_i64, wid_i32, Int.tdiv_eq_ediv_of_nonneg, Int.tmod_eq_emod_of_nonneg, if_neg]
      generalize 256 * -a / -b = q at p ⊢
      generalize 256 * -a % -b = r at p ⊢
      try simp (disch := omega) only [wid_u64, wid_i64, wid_i32, Int.mul_add, Int.mul_sub, Int.mul_neg, Int.mul_one, Int.mul_zero, Int.zero_sub]
      generalize b * q = t at p ⊢
      intros
      first | omega | skip
    · have e2 := wid_u64 b (by omega) (by omega)
      have p := parts (256 * -a) (b) b (by omega) (by omega) (by omega)
      try simp only [e1, e2]
      clear e1 e2
      try simp (disch := omega) only [wid_u64, wid_i64, wid_i32, Int.tdiv_eq_ediv_of_nonneg, Int.tmod_eq_emod_of_nonneg, if_neg]
      generalize 256 * -a / b = q at p ⊢
      generalize 256 * -a % b = r at p ⊢
      try simp (disch := omega) only [wid_u64, wid_i64, wid_i32, Int.mul_add, Int.mul_sub, Int.mul_neg, Int.mul_one, Int.mul_zero, Int.zero_sub]
      generalize b * q = t at p ⊢
      intros
      first | omega | skip
  · have e1 := wid_u64 a (by omega) (by omega)
    by_cases hy : b < 0
    · have e2 := neg_u64 b hy (by omega)
      have p := parts (a * 256) (-b) b (by omega) (by omega) (by omega)
      try simp only [e1, e2]
      clear e1 e2
      try simp (disch := omega) only [wid_u64, wid_i64, wid_i32, Int.tdiv_eq_ediv_of_nonneg, Int.tmod_eq_emod_of_nonneg, if_neg]
      generalize a * 256 / -b = q at p ⊢
      generalize a * 256 % -b = r at p ⊢
      try simp (disch := omega) only [wid_u64, wid_i64, wid_i32, Int.mul_add, Int.mul_sub, Int.mul_neg, Int.mul_one, Int.mul_zero, Int.zero_sub]
      generalize b * q = t at p ⊢
      intros
      first | omega | skip
    · have e2 := wid_u64 b (by omega) (by omega)
      have p := parts (a * 256) (b) b (by omega) (by omega) (by omega)
      try simp only [e1, e2]
      clear e1 e2
      try simp (disch := omega) only [wid_u64, wid_i64, wid_i32, Int.tdiv_eq_ediv_of_nonneg, Int.tmod_eq_emod_of_nonneg, if_neg]
      generalize a * 256 / b = q at p ⊢
      generalize a * 256 % b = r at p ⊢
      try simp (disch := omega) only [wid_u64, wid_i64, wid_i32, Int.mul_add, Int.mul_sub, Int.mul_neg, Int.mul_one, Int.mul_zero, Int.zero_sub]
      generalize b * q = t at p ⊢
      intros
      first | omega | skip
theorem near_true3 (ρ : Nat → Value) : ∀ q, q ∈ nearR3 → q.1.holds ρ → q.2.truth ρ = true := by
  have ha := v_bounds ρ .i16 0
  have hb := v_bounds ρ .i16 1
  simp only [IntKind.min, IntKind.max, IntKind.bits, IntKind.signed] at ha hb
  simp only [nearR3, all_cons, all_nil, h_cons, h_nil, t_eql, t_lss, t_bool, t_and, t_not, n_int, n_add, n_sub, n_mul, n_conv, n_shr, n_and, n_quo, n_rem, n_max]
  generalize (SE.ivar .i16 0).num ρ = a at ha ⊢
  generalize (SE.ivar .i16 1).num ρ = b at hb ⊢
  simp at ha hb
  have c1 : IntKind.wrap .i64 a = a := wid_i64 a (by omega) (by omega)
  have c2 : IntKind.wrap .i64 b = b := wid_i64 b (by omega) (by omega)
  simp only [c1, c2, reduceIte, Bool.false_eq_true, and_true, and_imp, ne_eq]
  clear c1 c2
  by_cases hb0 : b = 0
  · clear ha hb; intros; first | (exfalso; contradiction) | omega
  by_cases hx : a < 0
  · have e1 := neg_u64 a hx (by omega)
    by_cases hy : b < 0
    · have e2 := neg_u64 b hy (by omega)
      have p := parts (256 * -a) (-b) b (by omega) (by omega) (by omega)
      try simp only [e1, e2]
      clear e1 e2
      try simp (disch := omega) only [wid_u64, wid_i64, wid_i32, Int.tdiv_eq_ediv_of_nonneg, Int.tmod_eq_emod_of_nonneg, if_neg]
      generalize 256 * -a / -b = q at p ⊢
      generalize 256 * -a % -b = r at p ⊢
      try simp (disch := omega) only [wid_u64, wid_i64, wid_i32, Int.mul_add, Int.mul_sub, Int.mul_neg, Int.mul_one, Int.mul_zero, Int.zero_sub]
      generalize b * q = t at p ⊢
      intros
      first | omega | skip
    · have e2 := wid_u64 b (by omega) (by omega)
      have p := parts (256 * -a) (b) b (by omega) (by omega) (by omega)
      try simp only [e1, e2]
      clear e1 e2
      try simp (disch := omega) only [wid_u64, wid_i64, wid_i32, Int.tdiv_eq_ediv_of_nonneg, Int.tmod_eq_emod_of_nonneg, if_neg]
      generalize 256 * -a / b = q at p ⊢
      generalize 256 * -a % b = r at p ⊢
      try simp (disch := omega) only [wid_u64, wid_i64, wid_i32, Int.mul_add, Int.mul_sub, Int.mul_neg, Int.mul_one, Int.mul_zero, Int.zero_sub]
      generalize b * q = t at p ⊢
      intros
      first | omega | skip
  · have e1 := wid_u64 a (by omega) (by omega)
    by_cases hy : b < 0
    · have e2 := neg_u64 b hy (by omega)
      have p := parts (a * 256) (-b) b (by omega) (by omega) (by omega)
      try simp only [e1, e2]
      clear e1 e2
      try simp (disch := omega) only [wid_u64, wid_i64, wid_i32, Int.tdiv_eq_ediv_of_nonneg, Int.tmod_eq_emod_of_nonneg, if_neg]
      generalize a * 256 / -b = q at p ⊢
      generalize a * 256 % -b = r at p ⊢
      try simp (disch := omega) only [wid_u64, wid_i64, wid_i32, Int.mul_add, Int.mul_sub, Int.mul_neg, Int.mul_one, Int.mul_zero, Int.zero_sub]
      generalize b * q = t at p ⊢
      intros
      first | omega | skip
    · have e2 := wid_u64 b (by omega) (by omega)
      have p := parts (a * 256) (b) b (by omega) (by omega) (by omega)
      try simp only [e1, e2]
      clear e1 e2
      try simp (disch := omega) only [wid_u64, wid_i64, wid_i32, Int.tdiv_eq_ediv_of_nonneg, Int.tmod_eq_emod_of_nonneg, if_neg]
      generalize a * 256 / b = q at p ⊢
      generalize a * 256 % b = r at p ⊢
      try simp (disch := omega) only [wid_u64, wid_i64, wid_i32, Int.mul_add, Int.mul_sub, Int.mul_neg, Int.mul_one, Int.mul_zero, Int.zero_sub]
      generalize b * q = t at p ⊢
      intros
      first | omega | skip
theorem near_true4 (ρ : Nat → Value) : ∀ q, q ∈ nearR4 → q.1.holds ρ → q.2.truth ρ = true := by
  have ha := v_bounds ρ .i16 0
  have hb := v_bounds ρ .i16 1
  simp only [IntKind.min, IntKind.max, IntKind.bits, IntKind.signed] at ha hb
  simp only [nearR4, all_cons, all_nil, h_cons, h_nil, t_eql, t_lss, t_bool, t_and, t_not, n_int, n_add, n_sub, n_mul, n_conv, n_shr, n_and, n_quo, n_rem, n_max]
  generalize (SE.ivar .i16 0).num ρ = a at ha ⊢
  generalize (SE.ivar .i16 1).num ρ = b at hb ⊢
  simp at ha hb
  have c1 : IntKind.wrap .i64 a = a := wid_i64 a (by omega) (by omega)
  have c2 : IntKind.wrap .i64 b = b := wid_i64 b (by omega) (by omega)
  simp only [c1, c2, reduceIte, Bool.false_eq_true, and_true, and_imp, ne_eq]
  clear c1 c2
  by_cases hb0 : b = 0
  · clear ha hb; intros; first | (exfalso; contradiction) | omega
  by_cases hx : a < 0
  · have e1 := neg_u64 a hx (by omega)
    by_cases hy : b < 0
    · have e2 := neg_u64 b hy (by omega)
      have p := parts (256 * -a) (-b) b (by omega) (by omega) (by omega)
      try simp only [e1, e2]
      clear e1 e2
      try simp (disch := omega) only [wid_u64, wid_i64, wid_i32, Int.tdiv_eq_ediv_of_nonneg, Int.tmod_eq_emod_of_nonneg, if_neg]
      generalize 256 * -a / -b = q at p ⊢
      generalize 256 * -a % -b = r at p ⊢
      try simp (disch := omega) only [wid_u64, wid_i64, wid_i32, Int.mul_add, Int.mul_sub, Int.mul_neg, Int.mul_one, Int.mul_zero, Int.zero_sub]
      generalize b * q = t at p ⊢
      intros
      first | omega | skip
    · have e2 := wid_u64 b (by omega) (by omega)
      have p := parts (256 * -a) (b) b (by omega) (by omega) (by omega)
      try simp only [e1, e2]
      clear e1 e2
      try simp (disch := omega) only [wid_u64, wid_i64, wid_i32, Int.tdiv_eq_ediv_of_nonneg, Int.tmod_eq_emod_of_nonneg, if_neg]
      generalize 256 * -a / b = q at p ⊢
      generalize 256 * -a % b = r at p ⊢
      try simp (disch := omega) only [wid_u64, wid_i64, wid_i32, Int.mul_add, Int.mul_sub, Int.mul_neg, Int.mul_one, Int.mul_zero, Int.zero_sub]
      generalize b * q = t at p ⊢
      intros
      first | omega | skip
  · have e1 := wid_u64 a (by omega) (by omega)
    by_cases hy : b < 0
    · have e2 := neg_u64 b hy (by omega)
      have p := parts (a * 256) (-b) b (by omega) (by omega) (by omega)
      try simp only [e1, e2]
      clear e1 e2
      try simp (disch := omega) only [wid_u64, wid_i64, wid_i32, Int.tdiv_eq_ediv_of_nonneg, Int.tmod_eq_emod_of_nonneg, if_neg]
      generalize a * 256 / -b = q at p ⊢
      generalize a * 256 % -b = r at p ⊢
      try simp (disch := omega) only [wid_u64, wid_i64, wid_i32, Int.mul_add, Int.mul_sub, Int.mul_neg, Int.mul_one, Int.mul_zero, Int.zero_sub]
      generalize b * q = t at p ⊢
      intros
      first | omega | skip
    · have e2 := wid_u64 b (by omega) (by omega)
      have p := parts (a * 256) (b) b (by omega) (by omega) (by omega)
      try simp only [e1, e2]
      clear e1 e2
      try simp (disch := omega) only [wid_u64, wid_i64, wid_i32, Int.tdiv_eq_ediv_of_nonneg, Int.tmod_eq_emod_of_nonneg, if_neg]
      generalize a * 256 / b = q at p ⊢
      generalize a * 256 % b = r at p ⊢
      try simp (disch := omega) only [wid_u64, wid_i64, wid_i32, Int.mul_add, Int.mul_sub, Int.mul_neg, Int.mul_one, Int.mul_zero, Int.zero_sub]
      generalize b * q = t at p ⊢
      intros
      first | omega | skip
theorem near_true5 (ρ : Nat → Value) : ∀ q, q ∈ nearR5 → q.1.holds ρ → q.2.truth ρ = true := by
  have ha := v_bounds ρ .i16 0
  have hb := v_bounds ρ .i16 1
  simp only [IntKind.min, IntKind.max, IntKind.bits, IntKind.signed] at ha hb
  simp only [nearR5, all_cons, all_nil, h_cons, h_nil, t_eql, t_lss, t_bool, t_and, t_not, n_int, n_add, n_sub, n_mul, n_conv, n_shr, n_and, n_quo, n_rem, n_max]
  generalize (SE.ivar .i16 0).num ρ = a at ha ⊢
  generalize (SE.ivar .i16 1).num ρ = b at hb ⊢
  simp at ha hb
  have c1 : IntKind.wrap .i64 a = a := wid_i64 a (by omega) (by omega)
  have c2 : IntKind.wrap .i64 b = b := wid_i64 b (by omega) (by omega)
  simp only [c1, c2, reduceIte, Bool.false_eq_true, and_true, and_imp, ne_eq]
  clear c1 c2
  by_cases hb0 : b = 0
  · clear ha hb; intros; first | (exfalso; contradiction) | omega
  by_cases hx : a < 0
  · have e1 := neg_u64 a hx (by omega)
    by_cases hy : b < 0
    · have e2 := neg_u64 b hy (by omega)
      have p := parts (256 * -a) (-b) b (by omega) (by omega) (by omega)
      try simp only [e1, e2]
      clear e1 e2
      try simp (disch := omega) only [wid_u64, wid_i64, wid_i32, Int.tdiv_eq_ediv_of_nonneg, Int.tmod_eq_emod_of_nonneg, if_neg]
      generalize 256 * -a / -b = q at p ⊢
      generalize 256 * -a % -b = r at p ⊢
      try simp (disch := omega) only [wid_u64, wid_i64, wid_i32, Int.mul_add, Int.mul_sub, Int.mul_neg, Int.mul_one, Int.mul_zero, Int.zero_sub]
      generalize b * q = t at p ⊢
      intros
      first | omega | skip
    · have e2 := wid_u64 b (by omega) (by omega)
      have p := parts (256 * -a) (b) b (by omega) (by omega) (by omega)
      try simp only [e1, e2]
      clear e1 e2
      try simp (disch := omega) only [wid_u64, wid_i64, wid_i32, Int.tdiv_eq_ediv_of_nonneg, Int.tmod_eq_emod_of_nonneg, if_neg]
      generalize 256 * -a / b = q at p ⊢
      generalize 256 * -a % b = r at p ⊢
      try simp (disch := omega) only [wid_u64, wid_i64, wid_i32, Int.mul_add, Int.mul_sub, Int.mul_neg, Int.mul_one, Int.mul_zero, Int.zero_sub]
      generalize b * q = t at p ⊢
      intros
      first | omega | skip
  · have e1 := wid_u64 a (by omega) (by omega)
    by_cases hy : b < 0
    · have e2 := neg_u64 b hy (by omega)
      have p := parts (a * 256) (-b) b (by omega) (by omega) (by omega)
      try simp only [e1, e2]
      clear e1 e2
      try simp (disch := omega) only [wid_u64, wid_i64, wid_i32, Int.tdiv_eq_ediv_of_nonneg, Int.tmod_eq_emod_of_nonneg, if_neg]
      generalize a * 256 / -b = q at p ⊢
      generalize a * 256 % -b = r at p ⊢
      try simp (disch := omega) only [wid_u64, wid_i64, wid_i32, Int.mul_add, Int.mul_sub, Int.mul_neg, Int.mul_one, Int.mul_zero, Int.zero_sub]
      generalize b * q = t at p ⊢
      intros
      first | omega | skip
    · have e2 := wid_u64 b (by omega) (by omega)
      have p := parts (a * 256) (b) b (by omega) (by omega) (by omega)
      try simp only [e1, e2]
      clear e1 e2
      try simp (disch := omega) only [wid_u64, wid_i64, wid_i32, Int.tdiv_eq_ediv_of_nonneg, Int.tmod_eq_emod_of_nonneg, if_neg]
      generalize a * 256 / b = q at p ⊢
      generalize a * 256 % b = r at p ⊢
      try simp (disch := omega) only [wid_u64, wid_i64, wid_i32, Int.mul_add, Int.mul_sub, Int.mul_neg, Int.mul_one, Int.mul_zero, Int.zero_sub]
      generalize b * q = t at p ⊢
      intros
      first | omega | skip
theorem near_true6 (ρ : Nat → Value) : ∀ q, q ∈ nearR6 → q.1.holds ρ → q.2.truth ρ = true := by
  have ha := v_bounds ρ .i16 0
  have hb := v_bounds ρ .i16 1
  simp only [IntKind.min, IntKind.max, IntKind.bits, IntKind.signed] at ha hb
  simp only [nearR6, all_cons, all_nil, h_cons, h_nil, t_eql, t_lss, t_bool, t_and, t_not, n_int, n_add, n_sub, n_mul, n_conv, n_shr, n_and, n_quo, n_rem, n_max]
  generalize (SE.ivar .i16 0).num ρ = a at ha ⊢
  generalize (SE.ivar .i16 1).num ρ = b at hb ⊢
  simp at ha hb
  have c1 : IntKind.wrap .i64 a = a := wid_i64 a (by omega) (by omega)
  have c2 : IntKind.wrap .i64 b = b := wid_i64 b (by omega) (by omega)
  simp only [c1, c2, reduceIte, Bool.false_eq_true, and_true, and_imp, ne_eq]
  clear c1 c2
  by_cases hb0 : b = 0
  · clear ha hb; intros; first | (exfalso; contradiction) | omega
  by_cases hx : a < 0
  · have e1 := neg_u64 a hx (by omega)
    by_cases hy : b < 0
    · have e2 := neg_u64 b hy (by omega)
      have p := parts (256 * -a) (-b) b (by omega) (by omega) (by omega)
      try simp only [e1, e2]
      clear e1 e2
      try simp (disch := omega) only [wid_u64, wid_i64, wid_i32, Int.tdiv_eq_ediv_of_nonneg, Int.tmod_eq_emod_of_nonneg, if_neg]
      generalize 256 * -a / -b = q at p ⊢
      generalize 256 * -a % -b = r at p ⊢
      try simp (disch := omega) only [wid_u64, wid_i64, wid_i32, Int.mul_add, Int.mul_sub, Int.mul_neg, Int.mul_one, Int.mul_zero, Int.zero_sub]
      generalize b * q = t at p ⊢
      intros
      first | omega | skip
    · have e2 := wid_u64 b (by omega) (by omega)
      have p := parts (256 * -a) (b) b (by omega) (by omega) (by omega)
      try simp only [e1, e2]
      clear e1 e2
      try simp (disch := omega) only [wid_u64, wid_i64, wid_i32, Int.tdiv_eq_ediv_of_nonneg, Int.tmod_eq_emod_of_nonneg, if_neg]
      generalize 256 * -a / b = q at p ⊢
      generalize 256 * -a % b = r at p ⊢
      try simp (disch := omega) only [wid_u64, wid_i64, wid_i32, Int.mul_add, Int.mul_sub, Int.mul_neg, Int.mul_one, Int.mul_zero, Int.zero_sub]
      generalize b * q = t at p ⊢
      intros
      first | omega | skip
  · have e1 := wid_u64 a (by omega) (by omega)
    by_cases hy : b < 0
    · have e2 := neg_u64 b hy (by omega)
      have p := parts (a * 256) (-b) b (by omega) (by omega) (by omega)
      try simp only [e1, e2]
      clear e1 e2
      try simp (disch := omega) only [wid_u64, wid_i64, wid_i32, Int.tdiv_eq_ediv_of_nonneg, Int.tmod_eq_emod_of_nonneg, if_neg]
      generalize a * 256 / -b = q at p ⊢
      generalize a * 256 % -b = r at p ⊢
      try simp (disch := omega) only [wid_u64, wid_i64, wid_i32, Int.mul_add, Int.mul_sub, Int.mul_neg, Int.mul_one, Int.mul_zero, Int.zero_sub]
      generalize b * q = t at p ⊢
      intros
      first | omega | skip
    · have e2 := wid_u64 b (by omega) (by omega)
      have p := parts (a * 256) (b) b (by omega) (by omega) (by omega)
      try simp only [e1, e2]
      clear e1 e2
      try simp (disch := omega) only [wid_u64, wid_i64, wid_i32, Int.tdiv_eq_ediv_of_nonneg, Int.tmod_eq_emod_of_nonneg, if_neg]
      generalize a * 256 / b = q at p ⊢
      generalize a * 256 % b = r at p ⊢
      try simp (disch := omega) only [wid_u64, wid_i64, wid_i32, Int.mul_add, Int.mul_sub, Int.mul_neg, Int.mul_one, Int.mul_zero, Int.zero_sub]
      generalize b * q = t at p ⊢
      intros
      first | omega | skip
theorem near_true7 (ρ : Nat → Value) : ∀ q, q ∈ nearR7 → q.1.holds ρ → q.2.truth ρ = true := by
  have ha := v_bounds ρ .i16 0
  have hb := v_bounds ρ .i16 1
  simp only [IntKind.min, IntKind.max, IntKind.bits, IntKind.signed] at ha hb
  simp only [nearR7, all_cons, all_nil, h_cons, h_nil, t_eql, t_lss, t_bool, t_and, t_not, n_int, n_add, n_sub, n_mul, n_conv, n_shr, n_and, n_quo, n_rem, n_max]
  generalize (SE.ivar .i16 0).num ρ = a at ha ⊢
  generalize (SE.ivar .i16 1).num ρ = b at hb ⊢
  simp at ha hb
  have c1 : IntKind.wrap .i64 a = a := wid_i64 a (by omega) (by omega)
  have c2 : IntKind.wrap .i64 b = b := wid_i64 b (by omega) (by omega)
  simp only [c1, c2, reduceIte, Bool.false_eq_true, and_true, and_imp, ne_eq]
  clear c1 c2
  by_cases hb0 : b = 0
  · clear ha hb; intros; first | (exfalso; contradiction) | omega
  by_cases hx : a < 0
  · have e1 := neg_u64 a hx (by omega)
    by_cases hy : b < 0
    · have e2 := neg_u64 b hy (by omega)
      have p := parts (256 * -a) (-b) b (by omega) (by omega) (by omega)
      try simp only [e1, e2]
      clear e1 e2
      try simp (disch := omega) only [wid_u64, wid_i64, wid_i32, Int.tdiv_eq_ediv_of_nonneg, Int.tmod_eq_emod_of_nonneg, if_neg]
      generalize 256 * -a / -b = q at p ⊢
      generalize 256 * -a % -b = r at p ⊢
      try simp (disch := omega) only [wid_u64, wid_i64, wid_i32, Int.mul_add, Int.mul_sub, Int.mul_neg, Int.mul_one, Int.mul_zero, Int.zero_sub]
      generalize b * q = t at p ⊢
      intros
      first | omega | skip
    · have e2 := wid_u64 b (by omega) (by omega)
      have p := parts (256 * -a) (b) b (by omega) (by omega) (by omega)
      try simp only [e1, e2]
      clear e1 e2
      try simp (disch := omega) only [wid_u64, wid_i64, wid_i32, Int.tdiv_eq_ediv_of_nonneg, Int.tmod_eq_emod_of_nonneg, if_neg]
      generalize 256 * -a / b = q at p ⊢
      generalize 256 * -a % b = r at p ⊢
      try simp (disch := omega) only [wid_u64, wid_i64, wid_i32, Int.mul_add, Int.mul_sub, Int.mul_neg, Int.mul_one, Int.mul_zero, Int.zero_sub]
      generalize b * q = t at p ⊢
      intros
      first | omega | skip
  · have e1 := wid_u64 a (by omega) (by omega)
    by_cases hy : b < 0
    · have e2 := neg_u64 b hy (by omega)
      have p := parts (a * 256) (-b) b (by omega) (by omega) (by omega)
      try simp only [e1, e2]
      clear e1 e2
      try simp (disch := omega) only [wid_u64, wid_i64, wid_i32, Int.tdiv_eq_ediv_of_nonneg, Int.tmod_eq_emod_of_nonneg, if_neg]
      generalize a * 256 / -b = q at p ⊢
      generalize a * 256 % -b = r at p ⊢
      try simp (disch := omega) only [wid_u64, wid_i64, wid_i32, Int.mul_add, Int.mul_sub, Int.mul_neg, Int.mul_one, Int.mul_zero, Int.zero_sub]
      generalize b * q = t at p ⊢
      intros
      first | omega | skip
    · have e2 := wid_u64 b (by omega) (by omega)
      have p := parts (a * 256) (b) b (by omega) (by omega) (by omega)
      try simp only [e1, e2]
      clear e1 e2
      try simp (disch := omega) only [wid_u64, wid_i64, wid_i32, Int.tdiv_eq_ediv_of_nonneg, Int.tmod_eq_emod_of_nonneg, if_neg]
      generalize a * 256 / b = q at p ⊢
      generalize a * 256 % b = r at p ⊢
      try simp (disch := omega) only [wid_u64, wid_i64, wid_i32, Int.mul_add, Int.mul_sub, Int.mul_neg, Int.mul_one, Int.mul_zero, Int.zero_sub]
      generalize b * q = t at p ⊢
      intros
      first | omega | skip
theorem near_true8 (ρ : Nat → Value) : ∀ q, q ∈ nearR8 → q.1.holds ρ → q.2.truth ρ = true := by
  have ha := v_bounds ρ .i16 0
  have hb := v_bounds ρ .i16 1
  simp only [IntKind.min, IntKind.max, IntKind.bits, IntKind.signed] at ha hb
  simp only [nearR8, all_cons, all_nil, h_cons, h_nil, t_eql, t_lss, t_bool, t_and, t_not, n_int, n_add, n_sub, n_mul, n_conv, n_shr, n_and, n_quo, n_rem, n_max]
  generalize (SE.ivar .i16 0).num ρ = a at ha ⊢
  generalize (SE.ivar .i16 1).num ρ = b at hb ⊢
  simp at ha hb
  have c1 : IntKind.wrap .i64 a = a := wid_i64 a (by omega) (by omega)
  have c2 : IntKind.wrap .i64 b = b := wid_i64 b (by omega) (by omega)
  simp only [c1, c2, reduceIte, Bool.false_eq_true, and_true, and_imp, ne_eq]
  clear c1 c2
  by_cases hb0 : b = 0
  · clear ha hb; intros; first | (exfalso; contradiction) | omega
  by_cases hx : a < 0
  · have e1 := neg_u64 a hx (by omega)
    by_cases hy : b < 0
    · have e2 := neg_u64 b hy (by omega)
      have p := parts (256 * -a) (-b) b (by omega) (by omega) (by omega)
      try simp only [e1, e2]
      clear e1 e2
      try simp (disch := omega) only [wid_u64, wid_i64, wid_i32, Int.tdiv_eq_ediv_of_nonneg, Int.tmod_eq_emod_of_nonneg, if_neg]
      generalize 256 * -a / -b = q at p ⊢
      generalize 256 * -a % -b = r at p ⊢
      try simp (disch := omega) only [wid_u64, wid_i64, wid_i32, Int.mul_add, Int.mul_sub, Int.mul_neg, Int.mul_one, Int.mul_zero, Int.zero_sub]
      generalize b * q = t at p ⊢
      intros
      first | omega | skip
    · have e2 := wid_u64 b (by omega) (by omega)
      have p := parts (256 * -a) (b) b (by omega) (by omega) (by omega)
      try simp only [e1, e2]
      clear e1 e2
      try simp (disch := omega) only [wid_u64, wid_i64, wid_i32, Int.tdiv_eq_ediv_of_nonneg, Int.tmod_eq_emod_of_nonneg, if_neg]
      generalize 256 * -a / b = q at p ⊢
      generalize 256 * -a % b = r at p ⊢
      try simp (disch := omega) only [wid_u64, wid_i64, wid_i32, Int.mul_add, Int.mul_sub, Int.mul_neg, Int.mul_one, Int.mul_zero, Int.zero_sub]
      generalize b * q = t at p ⊢
      intros
      first | omega | skip
  · have e1 := wid_u64 a (by omega) (by omega)
    by_cases hy : b < 0
    · have e2 := neg_u64 b hy (by omega)
      have p := parts (a * 256) (-b) b (by omega) (by omega) (by omega)
      try simp only [e1, e2]
      clear e1 e2
      try simp (disch := omega) only [wid_u64, wid_i64, wid_i32, Int.tdiv_eq_ediv_of_nonneg, Int.tmod_eq_emod_of_nonneg, if_neg]
      generalize a * 256 / -b = q at p ⊢
      generalize a * 256 % -b = r at p ⊢
      try simp (disch := omega) only [wid_u64, wid_i64, wid_i32, Int.mul_add, Int.mul_sub, Int.mul_neg, Int.mul_one, Int.mul_zero, Int.zero_sub]
      generalize b * q = t at p ⊢
      intros
      first | omega | skip
    · have e2 := wid_u64 b (by omega) (by omega)
      have p := parts (a * 256) (b) b (by omega) (by omega) (by omega)
      try simp only [e1, e2]
      clear e1 e2
      try simp (disch := omega) only [wid_u64, wid_i64, wid_i32, Int.tdiv_eq_ediv_of_nonneg, Int.tmod_eq_emod_of_nonneg, if_neg]
      generalize a * 256 / b = q at p ⊢
      generalize a * 256 % b = r at p ⊢
      try simp (disch := omega) only [wid_u64, wid_i64, wid_i32, Int.mul_add, Int.mul_sub, Int.mul_neg, Int.mul_one, Int.mul_zero, Int.zero_sub]
      generalize b * q = t at p ⊢
      intros
      first | omega | skip
theorem near_true9 (ρ : Nat → Value) : ∀ q, q ∈ nearR9 → q.1.holds ρ → q.2.truth ρ = true := by
  have ha := v_bounds ρ .i16 0
  have hb := v_bounds ρ .i16 1
  simp only [IntKind.min, IntKind.max, IntKind.bits, IntKind.signed] at ha hb
  simp only [nearR9, all_cons, all_nil, h_cons, h_nil, t_eql, t_lss, t_bool, t_and, t_not, n_int, n_add, n_sub, n_mul, n_conv, n_shr, n_and, n_quo, n_rem, n_max]
  generalize (SE.ivar .i16 0).num ρ = a at ha ⊢
  generalize (SE.ivar .i16 1).num ρ = b at hb ⊢
  simp at ha hb
  have c1 : IntKind.wrap .i64 a = a := wid_i64 a (by omega) (by omega)
  have c2 : IntKind.wrap .i64 b = b := wid_i64 b (by omega) (by omega)
  simp only [c1, c2, reduceIte, Bool.false_eq_true, and_true, and_imp, ne_eq]
  clear c1 c2
  by_cases hb0 : b = 0
  · clear ha hb; intros; first | (exfalso; contradiction) | omega
  by_cases hx : a < 0
  · have e1 := neg_u64 a hx (by omega)
    by_cases hy : b < 0
    · have e2 := neg_u64 b hy (by omega)
      have p := parts (256 * -a) (-b) b (by omega) (by omega) (by omega)
      try simp only [e1, e2]
      clear e1 e2
      try simp (disch := omega) only [wid_u64, wid_i64, wid_i32, Int.tdiv_eq_ediv_of_nonneg, Int.tmod_eq_emod_of_nonneg, if_neg]
      generalize 256 * -a / -b = q at p ⊢
      generalize 256 * -a % -b = r at p ⊢
      try simp (disch := omega) only [wid_u64, wid_i64, wid_i32, Int.mul_add, Int.mul_sub, Int.mul_neg, Int.mul_one, Int.mul_zero, Int.zero_sub]
      generalize b * q = t at p ⊢
      intros
      first | omega | skip
    · have e2 := wid_u64 b (by omega) (by omega)
      have p := parts (256 * -a) (b) b (by omega) (by omega) (by omega)
      try simp only [e1, e2]
      clear e1 e2
      try simp (disch := omega) only [wid_u64, wid_i64, wid_i32, Int.tdiv_eq_ediv_of_nonneg, Int.tmod_eq_emod_of_nonneg, if_neg]
      generalize 256 * -a / b = q at p ⊢
      generalize 256 * -a % b = r at p ⊢
      try simp (disch := omega) only [wid_u64, wid_i64, wid_i32, Int.mul_add, Int.mul_sub, Int.mul_neg, Int.mul_one, Int.mul_zero, Int.zero_sub]
      generalize b * q = t at p ⊢
      intros
      first | omega | skip
  · have e1 := wid_u64 a (by omega) (by omega)
    by_cases hy : b < 0
    · have e2 := neg_u64 b hy (by omega)
      have p := parts (a * 256) (-b) b (by omega) (by omega) (by omega)
      try simp only [e1, e2]
      clear e1 e2
      try simp (disch := omega) only [wid_u64, wid_i64, wid_i32, Int.tdiv_eq_ediv_of_nonneg, Int.tmod_eq_emod_of_nonneg, if_neg]
      generalize a * 256 / -b = q at p ⊢
      generalize a * 256 % -b = r at p ⊢
      try simp (disch := omega) only [wid_u64, wid_i64, wid_i32, Int.mul_add, Int.mul_sub, Int.mul_neg, Int.mul_one, Int.mul_zero, Int.zero_sub]
      generalize b * q = t at p ⊢
      intros
      first | omega | skip
    · have e2 := wid_u64 b (by omega) (by omega)
      have p := parts (a * 256) (b) b (by omega) (by omega) (by omega)
      try simp only [e1, e2]
      clear e1 e2
      try simp (disch := omega) only [wid_u64, wid_i64, wid_i32, Int.tdiv_eq_ediv_of_nonneg, Int.tmod_eq_emod_of_nonneg, if_neg]
      generalize a * 256 / b = q at p ⊢
      generalize a * 256 % b = r at p ⊢
      try simp (disch := omega) only [wid_u64, wid_i64, wid_i32, Int.mul_add, Int.mul_sub, Int.mul_neg, Int.mul_one, Int.mul_zero, Int.zero_sub]
      generalize b * q = t at p ⊢
      intros
      first | omega | skip
theorem near_true10 (ρ : Nat → Value) : ∀ q, q ∈ nearR10 → q.1.holds ρ → q.2.truth ρ = true := by
  have ha := v_bounds ρ .i16 0
  have hb := v_bounds ρ .i16 1
  simp only [IntKind.min, IntKind.max, IntKind.bits, IntKind.signed] at ha hb
  simp only [nearR10, all_cons, all_nil, h_cons, h_nil, t_eql, t_lss, t_bool, t_and, t_not, n_int, n_add, n_sub, n_mul, n_conv, n_shr, n_and, n_quo, n_rem, n_max]
  generalize (SE.ivar .i16 0).num ρ = a at ha ⊢
  generalize (SE.ivar .i16 1).num ρ = b at hb ⊢
  simp at ha hb
  have c1 : IntKind.wrap .i64 a = a := wid_i64 a (by omega) (by omega)
  have c2 : IntKind.wrap .i64 b = b := wid_i64 b (by omega) (by omega)
  simp only [c1, c2, reduceIte, Bool.false_eq_true, and_true, and_imp, ne_eq]
  clear c1 c2
  by_cases hb0 : b = 0
  · clear ha hb; intros; first | (exfalso; contradiction) | omega
  by_cases hx : a < 0
  · have e1 := neg_u64 a hx (by omega)
    by_cases hy : b < 0
    · have e2 := neg_u64 b hy (by omega)
      have p := parts (256 * -a) (-b) b (by omega) (by omega) (by omega)
      try simp only [e1, e2]
      clear e1 e2
      try simp (disch := omega) only [wid_u64, wid_i64, wid_i32, Int.tdiv_eq_ediv_of_nonneg, Int.tmod_eq_emod_of_nonneg, if_neg]
      generalize 256 * -a / -b = q at p ⊢
      generalize 256 * -a % -b = r at p ⊢
      try simp (disch := omega) only [wid_u64, wid_i64, wid_i32, Int.mul_add, Int.mul_sub, Int.mul_neg, Int.mul_one, Int.mul_zero, Int.zero_sub]
      generalize b * q = t at p ⊢
      intros
      first | omega | skip
    · have e2 := wid_u64 b (by omega) (by omega)
      have p := parts (256 * -a) (b) b (by omega) (by omega) (by omega)
      try simp only [e1, e2]
      clear e1 e2
      try simp (disch := omega) only [wid_u64, wid_i64, wid_i32, Int.tdiv_eq_ediv_of_nonneg, Int.tmod_eq_emod_of_nonneg, if_neg]
      generalize 256 * -a / b = q at p ⊢
      generalize 256 * -a % b = r at p ⊢
      try simp (disch := omega) only [wid_u64, wid_i64, wid_i32, Int.mul_add, Int.mul_sub, Int.mul_neg, Int.mul_one, Int.mul_zero, Int.zero_sub]
      generalize b * q = t at p ⊢
      intros
      first | omega | skip
  · have e1 := wid_u64 a (by omega) (by omega)
    by_cases hy : b < 0
    · have e2 := neg_u64 b hy (by omega)
      have p := parts (a * 256) (-b) b (by omega) (by omega) (by omega)
      try simp only [e1, e2]
      clear e1 e2
      try simp (disch := omega) only [wid_u64, wid_i64, wid_i32, Int.tdiv_eq_ediv_of_nonneg, Int.tmod_eq_emod_of_nonneg, if_neg]
      generalize a * 256 / -b = q at p ⊢
      generalize a * 256 % -b = r at p ⊢
      try simp (disch := omega) only [wid_u64, wid_i64, wid_i32, Int.mul_add, Int.mul_sub, Int.mul_neg, Int.mul_one, Int.mul_zero, Int.zero_sub]
      generalize b * q = t at p ⊢
      intros
      first | omega | skip
    · have e2 := wid_u64 b (by omega) (by omega)
      have p := parts (a * 256) (b) b (by omega) (by omega) (by omega)
      try simp only [e1, e2]
      clear e1 e2
      try simp (disch := omega) only [wid_u64, wid_i64, wid_i32, Int.tdiv_eq_ediv_of_nonneg, Int.tmod_eq_emod_of_nonneg, if_neg]
      generalize a * 256 / b = q at p ⊢
      generalize a * 256 % b = r at p ⊢
      try simp (disch := omega) only [wid_u64, wid_i64, wid_i32, Int.mul_add, Int.mul_sub, Int.mul_neg, Int.mul_one, Int.mul_zero, Int.zero_sub]
      generalize b * q = t at p ⊢
      intros
      first | omega | skip
theorem near_true11 (ρ : Nat → Value) : ∀ q, q ∈ nearR11 → q.1.holds ρ → q.2.truth ρ = true := by
  have ha := v_bounds ρ .i16 0
  have hb := v_bounds ρ .i16 1
  simp only [IntKind.min, IntKind.max, IntKind.bits, IntKind.signed] at ha hb
  simp only [nearR11, all_cons, all_nil, h_cons, h_nil, t_eql, t_lss, t_bool, t_and, t_not, n_int, n_add, n_sub, n_mul, n_conv, n_shr, n_and, n_quo, n_rem, n_max]
  generalize (SE.ivar .i16 0).num ρ = a at ha ⊢
  generalize (SE.ivar .i16 1).num ρ = b at hb ⊢
  simp at ha hb
  have c1 : IntKind.wrap .i64 a = a := wid_i64 a (by omega) (by omega)
  have c2 : IntKind.wrap .i64 b = b := wid_i64 b (by omega) (by omega)
  simp only [c1, c2, reduceIte, Bool.false_eq_true, and_true, and_imp, ne_eq]
  clear c1 c2
  by_cases hb0 : b = 0
  · clear ha hb; intros; first | (exfalso; contradiction) | omega
  by_cases hx : a < 0
  · have e1 := neg_u64 a hx (by omega)
    by_cases hy : b < 0
    · have e2 := neg_u64 b hy (by omega)
      have p := parts (256 * -a) (-b) b (by omega) (by omega) (by omega)
      try simp only [e1, e2]
      clear e1 e2
      try simp (disch := omega) only [wid_u64, wid_i64, wid_i32, Int.tdiv_eq_ediv_of_nonneg, Int.tmod_eq_emod_of_nonneg, if_neg]
      generalize 256 * -a / -b = q at p ⊢
      generalize 256 * -a % -b = r at p ⊢
      try simp (disch := omega) only [wid_u64, wid_i64, wid_i32, Int.mul_add, Int.mul_sub, Int.mul_neg, Int.mul_one, Int.mul_zero, Int.zero_sub]
      generalize b * q = t at p ⊢
      intros
      first | omega | skip
    · have e2 := wid_u64 b (by omega) (by omega)
      have p := parts (256 * -a) (b) b (by omega) (by omega) (by omega)
      try simp only [e1, e2]
      clear e1 e2
      try simp (disch := omega) only [wid_u64, wid_i64, wid_i32, Int.tdiv_eq_ediv_of_nonneg, Int.tmod_eq_emod_of_nonneg, if_neg]
      generalize 256 * -a / b = q at p ⊢
      generalize 256 * -a % b = r at p ⊢
      try simp (disch := omega) only [wid_u64, wid_i64, wid_i32, Int.mul_add, Int.mul_sub, Int.mul_neg, Int.mul_one, Int.mul_zero, Int.zero_sub]
      generalize b * q = t at p ⊢
      intros
      first | omega | skip
  · have e1 := wid_u64 a (by omega) (by omega)
    by_cases hy : b < 0
    · have e2 := neg_u64 b hy (by omega)
      have p := parts (a * 256) (-b) b (by omega) (by omega) (by omega)
      try simp only [e1, e2]
      clear e1 e2
      try simp (disch := omega) only [wid_u64, wid_i64, wid_i32, Int.tdiv_eq_ediv_of_nonneg, Int.tmod_eq_emod_of_nonneg, if_neg]
      generalize a * 256 / -b = q at p ⊢
      generalize a * 256 % -b = r at p ⊢
      try simp (disch := omega) only [wid_u64, wid_i64, wid_i32, Int.mul_add, Int.mul_sub, Int.mul_neg, Int.mul_one, Int.mul_zero, Int.zero_sub]
      generalize b * q = t at p ⊢
      intros
      first | omega | skip
    · have e2 := wid_u64 b (by omega) (by omega)
      have p := parts (a * 256) (b) b (by omega) (by omega) (by omega)
      try simp only [e1, e2]
      clear e1 e2
      try simp (disch := omega) only [wid_u64, wid_i64, wid_i32, Int.tdiv_eq_ediv_of_nonneg, Int.tmod_eq_emod_of_nonneg, if_neg]
      generalize a * 256 / b = q at p ⊢
      generalize a * 256 % b = r at p ⊢
      try simp (disch := omega) only [wid_u64, wid_i64, wid_i32, Int.mul_add, Int.mul_sub, Int.mul_neg, Int.mul_one, Int.mul_zero, Int.zero_sub]
      generalize b * q = t at p ⊢
      intros
      first | omega | skip
theorem near_true12 (ρ : Nat → Value) : ∀ q, q ∈ nearR12 → q.1.holds ρ → q.2.truth ρ = true := by
  have ha := v_bounds ρ .i16 0
  have hb := v_bounds ρ .i16 1
  simp only [IntKind.min, IntKind.max, IntKind.bits, IntKind.signed] at ha hb
  simp only [nearR12, all_cons, all_nil, h_cons, h_nil, t_eql, t_lss, t_bool, t_and, t_not, n_int, n_add, n_sub, n_mul, n_conv, n_shr, n_and, n_quo, n_rem, n_max]
  generalize (SE.ivar .i16 0).num ρ = a at ha ⊢
  generalize (SE.ivar .i16 1).num ρ = b at hb ⊢
  simp at ha hb
  have c1 : IntKind.wrap .i64 a = a := wid_i64 a (by omega) (by omega)
  have c2 : IntKind.wrap .i64 b = b := wid_i64 b (by omega) (by omega)
  simp only [c1, c2, reduceIte, Bool.false_eq_true, and_true, and_imp, ne_eq]
  clear c1 c2
  by_cases hb0 : b = 0
  · clear ha hb; intros; first | (exfalso; contradiction) | omega
  by_cases hx : a < 0
  · have e1 := neg_u64 a hx (by omega)
    by_cases hy : b < 0
    · have e2 := neg_u64 b hy (by omega)
      have p := parts (256 * -a) (-b) b (by omega) (by omega) (by omega)
      try simp only [e1, e2]
      clear e1 e2
      try simp (disch := omega) only [wid_u64, wid_i64, wid_i32, Int.tdiv_eq_ediv_of_nonneg, Int.tmod_eq_emod_of_nonneg, if_neg]
      generalize 256 * -a / -b = q at p ⊢
      generalize 256 * -a % -b = r at p ⊢
      try simp (disch := omega) only [wid_u64, wid_i64, wid_i32, Int.mul_add, Int.mul_sub, Int.mul_neg, Int.mul_one, Int.mul_zero, Int.zero_sub]
      generalize b * q = t at p ⊢
      intros
      first | omega | skip
    · have e2 := wid_u64 b (by omega) (by omega)
      have p := parts (256 * -a) (b) b (by omega) (by omega) (by omega)
      try simp only [e1, e2]
      clear e1 e2
      try simp (disch := omega) only [wid_u64, wid_i64, wid_i32, Int.tdiv_eq_ediv_of_nonneg, Int.tmod_eq_emod_of_nonneg, if_neg]
      generalize 256 * -a / b = q at p ⊢
      generalize 256 * -a % b = r at p ⊢
      try simp (disch := omega) only [wid_u64, wid_i64, wid_i32, Int.mul_add, Int.mul_sub, Int.mul_neg, Int.mul_one, Int.mul_zero, Int.zero_sub]
      generalize b * q = t at p ⊢
      intros
      first | omega | skip
  · have e1 := wid_u64 a (by omega) (by omega)
    by_cases hy : b < 0
    · have e2 := neg_u64 b hy (by omega)
      have p := parts (a * 256) (-b) b (by omega) (by omega) (by omega)
      try simp only [e1, e2]
      clear e1 e2
      try simp (disch := omega) only [wid_u64, wid_i64, wid_i32, Int.tdiv_eq_ediv_of_nonneg, Int.tmod_eq_emod_of_nonneg, if_neg]
      generalize a * 256 / -b = q at p ⊢
      generalize a * 256 % -b = r at p ⊢
      try simp (disch := omega) only [wid_u64, wid_i64, wid_i32, Int.mul_add, Int.mul_sub, Int.mul_neg, Int.mul_one, Int.mul_zero, Int.zero_sub]
      generalize b * q = t at p ⊢
      intros
      first | omega | skip
    · have e2 := wid_u64 b (by omega) (by omega)
      have p := parts (a * 256) (b) b (by omega) (by omega) (by omega)
      try simp only [e1, e2]
      clear e1 e2
      try simp (disch := omega) only [wid_u64, wid_i64, wid_i32, Int.tdiv_eq_ediv_of_nonneg, Int.tmod_eq_emod_of_nonneg, if_neg]
      generalize a * 256 / b = q at p ⊢
      generalize a * 256 % b = r at p ⊢
      try simp (disch := omega) only [wid_u64, wid_i64, wid_i32, Int.mul_add, Int.mul_sub, Int.mul_neg, Int.mul_one, Int.mul_zero, Int.zero_sub]
      generalize b * q = t at p ⊢
      intros
      first | omega | skip
theorem near_true13 (ρ : Nat → Value) : ∀ q, q ∈ nearR13 → q.1.holds ρ → q.2.truth ρ = true := by
  have ha := v_bounds ρ .i16 0
  have hb := v_bounds ρ .i16 1
  simp only [IntKind.min, IntKind.max, IntKind.bits, IntKind.signed] at ha hb
  simp only [nearR13, all_cons, all_nil, h_cons, h_nil, t_eql, t_lss, t_bool, t_and, t_not, n_int, n_add, n_sub, n_mul, n_conv, n_shr, n_and, n_quo, n_rem, n_max]
  generalize (SE.ivar .i16 0).num ρ = a at ha ⊢
  generalize (SE.ivar .i16 1).num ρ = b at hb ⊢
  simp at ha hb
  have c1 : IntKind.wrap .i64 a = a := wid_i64 a (by omega) (by omega)
  have c2 : IntKind.wrap .i64 b = b := wid_i64 b (by omega) (by omega)
  simp only [c1, c2, reduceIte, Bool.false_eq_true, and_true, and_imp, ne_eq]
  clear c1 c2
  by_cases hb0 : b = 0
  · clear ha hb; intros; first | (exfalso; contradiction) | omega
  by_cases hx : a < 0
  · have e1 := neg_u64 a hx (by omega)
    by_cases hy : b < 0
    · have e2 := neg_u64 b hy (by omega)
      have p := parts (256 * -a) (-b) b (by omega) (by omega) (by omega)
      try simp only [e1, e2]
      clear e1 e2
      try simp (disch := omega) only [wid_u64, wid_i64, wid_i32, Int.tdiv_eq_ediv_of_nonneg, Int.tmod_eq_emod_of_nonneg, if_neg]
      generalize 256 * -a / -b = q at p ⊢
      generalize 256 * -a % -b = r at p ⊢
      try simp (disch := omega) only [wid_u64, wid_i64, wid_i32, Int.mul_add, Int.mul_sub, Int.mul_neg, Int.mul_one, Int.mul_zero, Int.zero_sub]
      generalize b * q = t at p ⊢
      intros
      first | omega | skip
    · have e2 := wid_u64 b (by omega) (by omega)
      have p := parts (256 * -a) (b) b (by omega) (by omega) (by omega)
      try simp only [e1, e2]
      clear e1 e2
      try simp (disch := omega) only [wid_u64, wid_i64, wid_i32, Int.tdiv_eq_ediv_of_nonneg, Int.tmod_eq_emod_of_nonneg, if_neg]
      generalize 256 * -a / b = q at p ⊢
      generalize 256 * -a % b = r at p ⊢
      try simp (disch := omega) only [wid_u64, wid_i64, wid_i32, Int.mul_add, Int.mul_sub, Int.mul_neg, Int.mul_one, Int.mul_zero, Int.zero_sub]
      generalize b * q = t at p ⊢
      intros
      first | omega | skip
  · have e1 := wid_u64 a (by omega) (by omega)
    by_cases hy : b < 0
    · have e2 := neg_u64 b hy (by omega)
      have p := parts (a * 256) (-b) b (by omega) (by omega) (by omega)
      try simp only [e1, e2]
      clear e1 e2
      try simp (disch := omega) only [wid_u64, wid_i64, wid_i32, Int.tdiv_eq_ediv_of_nonneg, Int.tmod_eq_emod_of_nonneg, if_neg]
      generalize a * 256 / -b = q at p ⊢
      generalize a * 256 % -b = r at p ⊢
      try simp (disch := omega) only [wid_u64, wid_i64, wid_i32, Int.mul_add, Int.mul_sub, Int.mul_neg, Int.mul_one, Int.mul_zero, Int.zero_sub]
      generalize b * q = t at p ⊢
      intros
      first | omega | skip
    · have e2 := wid_u64 b (by omega) (by omega)
      have p := parts (a * 256) (b) b (by omega) (by omega) (by omega)
      try simp only [e1, e2]
      clear e1 e2
      try simp (disch := omega) only [wid_u64, wid_i64, wid_i32, Int.tdiv_eq_ediv_of_nonneg, Int.tmod_eq_emod_of_nonneg, if_neg]
      generalize a * 256 / b = q at p ⊢
      generalize a * 256 % b = r at p ⊢
      try simp (disch := omega) only [wid_u64, wid_i64, wid_i32, Int.mul_add, Int.mul_sub, Int.mul_neg, Int.mul_one, Int.mul_zero, Int.zero_sub]
      generalize b * q = t at p ⊢
      intros
      first | omega | skip
theorem near_true14 (ρ : Nat → Value) : ∀ q, q ∈ nearR14 → q.1.holds ρ → q.2.truth ρ = true := by
  have ha := v_bounds ρ .i16 0
  have hb := v_bounds ρ .i16 1
  simp only [IntKind.min, IntKind.max, IntKind.bits, IntKind.signed] at ha hb
  simp only [nearR14, all_cons, all_nil, h_cons, h_nil, t_eql, t_lss, t_bool, t_and, t_not, n_int, n_add, n_sub, n_mul, n_conv, n_shr, n_and, n_quo, n_rem, n_max]
  generalize (SE.ivar .i16 0).num ρ = a at ha ⊢
  generalize (SE.ivar .i16 1).num ρ = b at hb ⊢
  simp at ha hb
  have c1 : IntKind.wrap .i64 a = a := wid_i64 a (by omega) (by omega)
  have c2 : IntKind.wrap .i64 b = b := wid_i64 b (by omega) (by omega)
  simp only [c1, c2, reduceIte, Bool.false_eq_true, and_true, and_imp, ne_eq]
  clear c1 c2
  by_cases hb0 : b = 0
  · clear ha hb; intros; first | (exfalso; contradiction) | omega
  by_cases hx : a < 0
  · have e1 := neg_u64 a hx (by omega)
    by_cases hy : b < 0
    · have e2 := neg_u64 b hy (by omega)
      have p := parts (256 * -a) (-b) b (by omega) (by omega) (by omega)
      try simp only [e1, e2]
      clear e1 e2
      try simp (disch := omega) only [wid_u64, wid_i64, wid_i32, Int.tdiv_eq_ediv_of_nonneg, Int.tmod_eq_emod_of_nonneg, if_neg]
      generalize 256 * -a / -b = q at p ⊢
      generalize 256 * -a % -b = r at p ⊢
      try simp (disch := omega) only [wid_u64, wid_i64, wid_i32, Int.mul_add, Int.mul_sub, Int.mul_neg, Int.mul_one, Int.mul_zero, Int.zero_sub]
      generalize b * q = t at p ⊢
      intros
      first | omega | skip
    · have e2 := wid_u64 b (by omega) (by omega)
      have p := parts (256 * -a) (b) b (by omega) (by omega) (by omega)
      try simp only [e1, e2]
      clear e1 e2
      try simp (disch := omega) only [wid_u64, wid_i64, wid_i32, Int.tdiv_eq_ediv_of_nonneg, Int.tmod_eq_emod_of_nonneg, if_neg]
      generalize 256 * -a / b = q at p ⊢
      generalize 256 * -a % b = r at p ⊢
      try simp (disch := omega) only [wid_u64, wid_i64, wid_i32, Int.mul_add, Int.mul_sub, Int.mul_neg, Int.mul_one, Int.mul_zero, Int.zero_sub]
      generalize b * q = t at p ⊢
      intros
      first | omega | skip
  · have e1 := wid_u64 a (by omega) (by omega)
    by_cases hy : b < 0
    · have e2 := neg_u64 b hy (by omega)
      have p := parts (a * 256) (-b) b (by omega) (by omega) (by omega)
      try simp only [e1, e2]
      clear e1 e2
      try simp (disch := omega) only [wid_u64, wid_i64, wid_i32, Int.tdiv_eq_ediv_of_nonneg, Int.tmod_eq_emod_of_nonneg, if_neg]
      generalize a * 256 / -b = q at p ⊢
      generalize a * 256 % -b = r at p ⊢
      try simp (disch := omega) only [wid_u64, wid_i64, wid_i32, Int.mul_add, Int.mul_sub, Int.mul_neg, Int.mul_one, Int.mul_zero, Int.zero_sub]
      generalize b * q = t at p ⊢
      intros
      first | omega | skip
    · have e2 := wid_u64 b (by omega) (by omega)
      have p := parts (a * 256) (b) b (by omega) (by omega) (by omega)
      try simp only [e1, e2]
      clear e1 e2
      try simp (disch := omega) only [wid_u64, wid_i64, wid_i32, Int.tdiv_eq_ediv_of_nonneg, Int.tmod_eq_emod_of_nonneg, if_neg]
      generalize a * 256 / b = q at p ⊢
      generalize a * 256 % b = r at p ⊢
      try simp (disch := omega) only [wid_u64, wid_i64, wid_i32, Int.mul_add, Int.mul_sub, Int.mul_neg, Int.mul_one, Int.mul_zero, Int.zero_sub]
      generalize b * q = t at p ⊢
      intros
      first | omega | skip
theorem near_true15 (ρ : Nat → Value) : ∀ q, q ∈ nearR15 → q.1.holds ρ → q.2.truth ρ = true := by
  have ha := v_bounds ρ .i16 0
  have hb := v_bounds ρ .i16 1
  simp only [IntKind.min, IntKind.max, IntKind.bits, IntKind.signed] at ha hb
  simp only [nearR15, all_cons, all_nil, h_cons, h_nil, t_eql, t_lss, t_bool, t_and, t_not, n_int, n_add, n_sub, n_mul, n_conv, n_shr, n_and, n_quo, n_rem, n_max]
  generalize (SE.ivar .i16 0).num ρ = a at ha ⊢
  generalize (SE.ivar .i16 1).num ρ = b at hb ⊢
  simp at ha hb
  have c1 : IntKind.wrap .i64 a = a := wid_i64 a (by omega) (by omega)
  have c2 : IntKind.wrap .i64 b = b := wid_i64 b (by omega) (by omega)
  simp only [c1, c2, reduceIte, Bool.false_eq_true, and_true, and_imp, ne_eq]
  clear c1 c2
  by_cases hb0 : b = 0
  · clear ha hb; intros; first | (exfalso; contradiction) | omega
  by_cases hx : a < 0
  · have e1 := neg_u64 a hx (by omega)
    by_cases hy : b < 0
    · have e2 := neg_u64 b hy (by omega)
      have p := parts (256 * -a) (-b) b (by omega) (by omega) (by omega)
      try simp only [e1, e2]
      clear e1 e2
      try simp (disch := omega) only [wid_u64, wid_i64, wid_i32, Int.tdiv_eq_ediv_of_nonneg, Int.tmod_eq_emod_of_nonneg, if_neg]
      generalize 256 * -a / -b = q at p ⊢
      generalize 256 * -a % -b = r at p ⊢
      try simp (disch := omega) only [wid_u64, wid_i64, wid_i32, Int.mul_add, Int.mul_sub, Int.mul_neg, Int.mul_one, Int.mul_zero, Int.zero_sub]
      generalize b * q = t at p ⊢
      intros
      first | omega | skip
    · have e2 := wid_u64 b (by omega) (by omega)
      have p := parts (256 * -a) (b) b (by omega) (by omega) (by omega)
      try simp only [e1, e2]
      clear e1 e2
      try simp (disch := omega) only [wid_u64, wid_i64, wid_i32, Int.tdiv_eq_ediv_of_nonneg, Int.tmod_eq_emod_of_nonneg, if_neg]
      generalize 256 * -a / b = q at p ⊢
      generalize 256 * -a % b = r at p ⊢
      try simp (disch := omega) only [wid_u64, wid_i64, wid_i32, Int.mul_add, Int.mul_sub, Int.mul_neg, Int.mul_one, Int.mul_zero, Int.zero_sub]
      generalize b * q = t at p ⊢
      intros
      first | omega | skip
  · have e1 := wid_u64 a (by omega) (by omega)
    by_cases hy : b < 0
    · have e2 := neg_u64 b hy (by omega)
      have p := parts (a * 256) (-b) b (by omega) (by omega) (by omega)
      try simp only [e1, e2]
      clear e1 e2
      try simp (disch := omega) only [wid_u64, wid_i64, wid_i32, Int.tdiv_eq_ediv_of_nonneg, Int.tmod_eq_emod_of_nonneg, if_neg]
      generalize a * 256 / -b = q at p ⊢
      generalize a * 256 % -b = r at p ⊢
      try simp (disch := omega) only [wid_u64, wid_i64, wid_i32, Int.mul_add, Int.mul_sub, Int.mul_neg, Int.mul_one, Int.mul_zero, Int.zero_sub]
      generalize b * q = t at p ⊢
      intros
      first | omega | skip
    · have e2 := wid_u64 b (by omega) (by omega)
      have p := parts (a * 256) (b) b (by omega) (by omega) (by omega)
      try simp only [e1, e2]
      clear e1 e2
      try simp (disch := omega) only [wid_u64, wid_i64, wid_i32, Int.tdiv_eq_ediv_of_nonneg, Int.tmod_eq_emod_of_nonneg, if_neg]
      generalize a * 256 / b = q at p ⊢
      generalize a * 256 % b = r at p ⊢
      try simp (disch := omega) only [wid_u64, wid_i64, wid_i32, Int.mul_add, Int.mul_sub, Int.mul_neg, Int.mul_one, Int.mul_zero, Int.zero_sub]
      generalize b * q = t at p ⊢
      intros
      first | omega | skip
theorem near_true16 (ρ : Nat → Value) : ∀ q, q ∈ nearR16 → q.1.holds ρ → q.2.truth ρ = true := by
  have ha := v_bounds ρ .i16 0
  have hb := v_bounds ρ .i16 1
  simp only [IntKind.min, IntKind.max, IntKind.bits, IntKind.signed] at ha hb
  simp only [nearR16, all_cons, all_nil, h_cons, h_nil, t_eql, t_lss, t_bool, t_and, t_not, n_int, n_add, n_sub, n_mul, n_conv, n_shr, n_and, n_quo, n_rem, n_max]
  generalize (SE.ivar .i16 0).num ρ = a at ha ⊢
  generalize (SE.ivar .i16 1).num ρ = b at hb ⊢
  simp at ha hb
  have c1 : IntKind.wrap .i64 a = a := wid_i64 a (by omega) (by omega)
  have c2 : IntKind.wrap .i64 b = b := wid_i64 b (by omega) (by omega)
  simp only [c1, c2, reduceIte, Bool.false_eq_true, and_true, and_imp, ne_eq]
  clear c1 c2
  by_cases hb0 : b = 0
  · clear ha hb; intros; first | (exfalso; contradiction) | omega
  by_cases hx : a < 0
  · have e1 := neg_u64 a hx (by omega)
    by_cases hy : b < 0
    · have e2 := neg_u64 b hy (by omega)
      have p := parts (256 * -a) (-b) b (by omega) (by omega) (by omega)
      try simp only [e1, e2]
      clear e1 e2
      try simp (disch := omega) only [wid_u64, wid_i64, wid_i32, Int.tdiv_eq_ediv_of_nonneg, Int.tmod_eq_emod_of_nonneg, if_neg]
      generalize 256 * -a / -b = q at p ⊢
      generalize 256 * -a % -b = r at p ⊢
      try simp (disch := omega) only [wid_u64, wid_i64, wid_i32, Int.mul_add, Int.mul_sub, Int.mul_neg, Int.mul_one, Int.mul_zero, Int.zero_sub]
      generalize b * q = t at p ⊢
      intros
      first | omega | skip
    · have e2 := wid_u64 b (by omega) (by omega)
      have p := parts (256 * -a) (b) b (by omega) (by omega) (by omega)
      try simp only [e1, e2]
      clear e1 e2
      try simp (disch := omega) only [wid_u64, wid_i64, wid_i32, Int.tdiv_eq_ediv_of_nonneg, Int.tmod_eq_emod_of_nonneg, if_neg]
      generalize 256 * -a / b = q at p ⊢
      generalize 256 * -a % b = r at p ⊢
      try simp (disch := omega) only [wid_u64, wid_i64, wid_i32, Int.mul_add, Int.mul_sub, Int.mul_neg, Int.mul_one, Int.mul_zero, Int.zero_sub]
      generalize b * q = t at p ⊢
      intros
      first | omega | skip
  · have e1 := wid_u64 a (by omega) (by omega)
    by_cases hy : b < 0
    · have e2 := neg_u64 b hy (by omega)
      have p := parts (a * 256) (-b) b (by omega) (by omega) (by omega)
      try simp only [e1, e2]
      clear e1 e2
      try simp (disch := omega) only [wid_u64, wid_i64, wid_i32, Int.tdiv_eq_ediv_of_nonneg, Int.tmod_eq_emod_of_nonneg, if_neg]
      generalize a * 256 / -b = q at p ⊢
      generalize a * 256 % -b = r at p ⊢
      try simp (disch := omega) only [wid_u64, wid_i64, wid_i32, Int.mul_add, Int.mul_sub, Int.mul_neg, Int.mul_one, Int.mul_zero, Int.zero_sub]
      generalize b * q = t at p ⊢
      intros
      first | omega | skip
    · have e2 := wid_u64 b (by omega) (by omega)
      have p := parts (a * 256) (b) b (by omega) (by omega) (by omega)
      try simp only [e1, e2]
      clear e1 e2
      try simp (disch := omega) only [wid_u64, wid_i64, wid_i32, Int.tdiv_eq_ediv_of_nonneg, Int.tmod_eq_emod_of_nonneg, if_neg]
      generalize a * 256 / b = q at p ⊢
      generalize a * 256 % b = r at p ⊢
      try simp (disch := omega) only [wid_u64, wid_i64, wid_i32, Int.mul_add, Int.mul_sub, Int.mul_neg, Int.mul_one, Int.mul_zero, Int.zero_sub]
      generalize b * q = t at p ⊢
      intros
      first | omega | skip
theorem near_true17 (ρ : Nat → Value) : ∀ q, q ∈ nearR17 → q.1.holds ρ → q.2.truth ρ = true := by
  have ha := v_bounds ρ .i16 0
  have hb := v_bounds ρ .i16 1
  simp only [IntKind.min, IntKind.max, IntKind.bits, IntKind.signed] at ha hb
  simp only [nearR17, all_cons, all_nil, h_cons, h_nil, t_eql, t_lss, t_bool, t_and, t_not, n_int, n_add, n_sub, n_mul, n_conv, n_shr, n_and, n_quo, n_rem, n_max]
  generalize (SE.ivar .i16 0).num ρ = a at ha ⊢
  generalize (SE.ivar .i16 1).num ρ = b at hb ⊢
  simp at ha hb
  have c1 : IntKind.wrap .i64 a = a := wid_i64 a (by omega) (by omega)
  have c2 : IntKind.wrap .i64 b = b := wid_i64 b (by omega) (by omega)
  simp only [c1, c2, reduceIte, Bool.false_eq_true, and_true, and_imp, ne_eq]
  clear c1 c2
  by_cases hb0 : b = 0
  · clear ha hb; intros; first | (exfalso; contradiction) | omega
  by_cases hx : a < 0
  · have e1 := neg_u64 a hx (by omega)
    by_cases hy : b < 0
    · have e2 := neg_u64 b hy (by omega)
      have p := parts (256 * -a) (-b) b (by omega) (by omega) (by omega)
      try simp only [e1, e2]
      clear e1 e2
      try simp (disch := omega) only [wid_u64, wid_i64, wid_i32, Int.tdiv_eq_ediv_of_nonneg, Int.tmod_eq_emod_of_nonneg, if_neg]
      generalize 256 * -a / -b = q at p ⊢
      generalize 256 * -a % -b = r at p ⊢
      try simp (disch := omega) only [wid_u64, wid_i64, wid_i32, Int.mul_add, Int.mul_sub, Int.mul_neg, Int.mul_one, Int.mul_zero, Int.zero_sub]
      generalize b * q = t at p ⊢
      intros
      first | omega | skip
    · have e2 := wid_u64 b (by omega) (by omega)
      have p := parts (256 * -a) (b) b (by omega) (by omega) (by omega)
      try simp only [e1, e2]
      clear e1 e2
      try simp (disch := omega) only [wid_u64, wid_i64, wid_i32, Int.tdiv_eq_ediv_of_nonneg, Int.tmod_eq_emod_of_nonneg, if_neg]
      generalize 256 * -a / b = q at p ⊢
      generalize 256 * -a % b = r at p ⊢
      try simp (disch := omega) only [wid_u64, wid_i64, wid_i32, Int.mul_add, Int.mul_sub, Int.mul_neg, Int.mul_one, Int.mul_zero, Int.zero_sub]
      generalize b * q = t at p ⊢
      intros
      first | omega | skip
  · have e1 := wid_u64 a (by omega) (by omega)
    by_cases hy : b < 0
    · have e2 := neg_u64 b hy (by omega)
      have p := parts (a * 256) (-b) b (by omega) (by omega) (by omega)
      try simp only [e1, e2]
      clear e1 e2
      try simp (disch := omega) only [wid_u64, wid_i64, wid_i32, Int.tdiv_eq_ediv_of_nonneg, Int.tmod_eq_emod_of_nonneg, if_neg]
      generalize a * 256 / -b = q at p ⊢
      generalize a * 256 % -b = r at p ⊢
      try simp (disch := omega) only [wid_u64, wid_i64, wid_i32, Int.mul_add, Int.mul_sub, Int.mul_neg, Int.mul_one, Int.mul_zero, Int.zero_sub]
      generalize b * q = t at p ⊢
      intros
      first | omega | skip
    · have e2 := wid_u64 b (by omega) (by omega)
      have p := parts (a * 256) (b) b (by omega) (by omega) (by omega)
      try simp only [e1, e2]
      clear e1 e2
      try simp (disch := omega) only [wid_u64, wid_i64, wid_i32, Int.tdiv_eq_ediv_of_nonneg, Int.tmod_eq_emod_of_nonneg, if_neg]
      generalize a * 256 / b = q at p ⊢
      generalize a * 256 % b = r at p ⊢
      try simp (disch := omega) only [wid_u64, wid_i64, wid_i32, Int.mul_add, Int.mul_sub, Int.mul_neg, Int.mul_one, Int.mul_zero, Int.zero_sub]
      generalize b * q = t at p ⊢
      intros
      first | omega | skip
theorem near_true18 (ρ : Nat → Value) : ∀ q, q ∈ nearR18 → q.1.holds ρ → q.2.truth ρ = true := by
  have ha := v_bounds ρ .i16 0
  have hb := v_bounds ρ .i16 1
  simp only [IntKind.min, IntKind.max, IntKind.bits, IntKind.signed] at ha hb
  simp only [nearR18, all_cons, all_nil, h_cons, h_nil, t_eql, t_lss, t_bool, t_and, t_not, n_int, n_add, n_sub, n_mul, n_conv, n_shr, n_and, n_quo, n_rem, n_max]
  generalize (SE.ivar .i16 0).num ρ = a at ha ⊢
  generalize (SE.ivar .i16 1).num ρ = b at hb ⊢
  simp at ha hb
  have c1 : IntKind.wrap .i64 a = a := wid_i64 a (by omega) (by omega)
  have c2 : IntKind.wrap .i64 b = b := wid_i64 b (by omega) (by omega)
  simp only [c1, c2, reduceIte, Bool.false_eq_true, and_true, and_imp, ne_eq]
  clear c1 c2
  by_cases hb0 : b = 0
  · clear ha hb; intros; first | (exfalso; contradiction) | omega
  by_cases hx : a < 0
  · have e1 := neg_u64 a hx (by omega)
    by_cases hy : b < 0
    · have e2 := neg_u64 b hy (by omega)
      have p := parts (256 * -a) (-b) b (by omega) (by omega) (by omega)
      try simp only [e1, e2]
      clear e1 e2
      try simp (disch := omega) only [wid_u64, wid_i64, wid_i32, Int.tdiv_eq_ediv_of_nonneg, Int.tmod_eq_emod_of_nonneg, if_neg]
      generalize 256 * -a / -b = q at p ⊢
      generalize 256 * -a % -b = r at p ⊢
      try simp (disch := omega) only [wid_u64, wid_i64, wid_i32, Int.mul_add, Int.mul_sub, Int.mul_neg, Int.mul_one, Int.mul_zero, Int.zero_sub]
      generalize b * q = t at p ⊢
      intros
      first | omega | skip
    · have e2 := wid_u64 b (by omega) (by omega)
      have p := parts (256 * -a) (b) b (by omega) (by omega) (by omega)
      try simp only [e1, e2]
      clear e1 e2
      try simp (disch := omega) only [wid_u64, wid_i64, wid_i32, Int.tdiv_eq_ediv_of_nonneg, Int.tmod_eq_emod_of_nonneg, if_neg]
      generalize 256 * -a / b = q at p ⊢
      generalize 256 * -a % b = r at p ⊢
      try simp (disch := omega) only [wid_u64, wid_i64, wid_i32, Int.mul_add, Int.mul_sub, Int.mul_neg, Int.mul_one, Int.mul_zero, Int.zero_sub]
      generalize b * q = t at p ⊢
      intros
      first | omega | skip
  · have e1 := wid_u64 a (by omega) (by omega)
    by_cases hy : b < 0
    · have e2 := neg_u64 b hy (by omega)
      have p := parts (a * 256) (-b) b (by omega) (by omega) (by omega)
      try simp only [e1, e2]
      clear e1 e2
      try simp (disch := omega) only [wid_u64, wid_i64, wid_i32, Int.tdiv_eq_ediv_of_nonneg, Int.tmod_eq_emod_of_nonneg, if_neg]
      generalize a * 256 / -b = q at p ⊢
      generalize a * 256 % -b = r at p ⊢
      try simp (disch := omega) only [wid_u64, wid_i64, wid_i32, Int.mul_add, Int.mul_sub, Int.mul_neg, Int.mul_one, Int.mul_zero, Int.zero_sub]
      generalize b * q = t at p ⊢
      intros
      first | omega | skip
    · have e2 := wid_u64 b (by omega) (by omega)
      have p := parts (a * 256) (b) b (by omega) (by omega) (by omega)
      try simp only [e1, e2]
      clear e1 e2
      try simp (disch := omega) only [wid_u64, wid_i64, wid_i32, Int.tdiv_eq_ediv_of_nonneg, Int.tmod_eq_emod_of_nonneg, if_neg]
      generalize a * 256 / b = q at p ⊢
      generalize a * 256 % b = r at p ⊢
      try simp (disch := omega) only [wid_u64, wid_i64, wid_i32, Int.mul_add, Int.mul_sub, Int.mul_neg, Int.mul_one, Int.mul_zero, Int.zero_sub]
      generalize b * q = t at p ⊢
      intros
      first | omega | skip
theorem near_true19 (ρ : Nat → Value) : ∀ q, q ∈ nearR19 → q.1.holds ρ → q.2.truth ρ = true := by
  have ha := v_bounds ρ .i16 0
  have hb := v_bounds ρ .i16 1
  simp only [IntKind.min, IntKind.max, IntKind.bits, IntKind.signed] at ha hb
  simp only [nearR19, all_cons, all_nil, h_cons, h_nil, t_eql, t_lss, t_bool, t_and, t_not, n_int, n_add, n_sub, n_mul, n_conv, n_shr, n_and, n_quo, n_rem, n_max]
  generalize (SE.ivar .i16 0).num ρ = a at ha ⊢
  generalize (SE.ivar .i16 1).num ρ = b at hb ⊢
  simp at ha hb
  have c1 : IntKind.wrap .i64 a = a := wid_i64 a (by omega) (by omega)
  have c2 : IntKind.wrap .i64 b = b := wid_i64 b (by omega) (by omega)
  simp only [c1, c2, reduceIte, Bool.false_eq_true, and_true, and_imp, ne_eq]
  clear c1 c2
  by_cases hb0 : b = 0
  · clear ha hb; intros; first | (exfalso; contradiction) | omega
  by_cases hx : a < 0
  · have e1 := neg_u64 a hx (by omega)
    by_cases hy : b < 0
    · have e2 := neg_u64 b hy (by omega)
      have p := parts (256 * -a) (-b) b (by omega) (by omega) (by omega)
      try simp only [e1, e2]
      clear e1 e2
      try simp (disch := omega) only [wid_u64, wid_i64, wid_i32, Int.tdiv_eq_ediv_of_nonneg, Int.tmod_eq_emod_of_nonneg, if_neg]
      generalize 256 * -a / -b = q at p ⊢
      generalize 256 * -a % -b = r at p ⊢
      try simp (disch := omega) only [wid_u64, wid_i64, wid_i32, Int.mul_add, Int.mul_sub, Int.mul_neg, Int.mul_one, Int.mul_zero, Int.zero_sub]
      generalize b * q = t at p ⊢
      intros
      first | omega | skip
    · have e2 := wid_u64 b (by omega) (by omega)
      have p := parts (256 * -a) (b) b (by omega) (by omega) (by omega)
      try simp only [e1, e2]
      clear e1 e2
      try simp (disch := omega) only [wid_u64, wid_i64, wid_i32, Int.tdiv_eq_ediv_of_nonneg, Int.tmod_eq_emod_of_nonneg, if_neg]
      generalize 256 * -a / b = q at p ⊢
      generalize 256 * -a % b = r at p ⊢
      try simp (disch := omega) only [wid_u64, wid_i64, wid_i32, Int.mul_add, Int.mul_sub, Int.mul_neg, Int.mul_one, Int.mul_zero, Int.zero_sub]
      generalize b * q = t at p ⊢
      intros
      first | omega | skip
  · have e1 := wid_u64 a (by omega) (by omega)
    by_cases hy : b < 0
    · have e2 := neg_u64 b hy (by omega)
      have p := parts (a * 256) (-b) b (by omega) (by omega) (by omega)
      try simp only [e1, e2]
      clear e1 e2
      try simp (disch := omega) only [wid_u64, wid_i64, wid_i32, Int.tdiv_eq_ediv_of_nonneg, Int.tmod_eq_emod_of_nonneg, if_neg]
      generalize a * 256 / -b = q at p ⊢
      generalize a * 256 % -b = r at p ⊢
      try simp (disch := omega) only [wid_u64, wid_i64, wid_i32, Int.mul_add, Int.mul_sub, Int.mul_neg, Int.mul_one, Int.mul_zero, Int.zero_sub]
      generalize b * q = t at p ⊢
      intros
      first | omega | skip
    · have e2 := wid_u64 b (by omega) (by omega)
      have p := parts (a * 256) (b) b (by omega) (by omega) (by omega)
      try simp only [e1, e2]
      clear e1 e2
      try simp (disch := omega) only [wid_u64, wid_i64, wid_i32, Int.tdiv_eq_ediv_of_nonneg, Int.tmod_eq_emod_of_nonneg, if_neg]
      generalize a * 256 / b = q at p ⊢
      generalize a * 256 % b = r at p ⊢
      try simp (disch := omega) only [wid_u64, wid_i64, wid_i32, Int.mul_add, Int.mul_sub, Int.mul_neg, Int.mul_one, Int.mul_zero, Int.zero_sub]
      generalize b * q = t at p ⊢
      intros
      first | omega | skip
theorem near_true20 (ρ : Nat → Value) : ∀ q, q ∈ nearR20 → q.1.holds ρ → q.2.truth ρ = true := by
  have ha := v_bounds ρ .i16 0
  have hb := v_bounds ρ .i16 1
  simp only [IntKind.min, IntKind.max, IntKind.bits, IntKind.signed] at ha hb
  simp only [nearR20, all_cons, all_nil, h_cons, h_nil, t_eql, t_lss, t_bool, t_and, t_not, n_int, n_add, n_sub, n_mul, n_conv, n_shr, n_and, n_quo, n_rem, n_max]
  generalize (SE.ivar .i16 0).num ρ = a at ha ⊢
  generalize (SE.ivar .i16 1).num ρ = b at hb ⊢
  simp at ha hb
  have c1 : IntKind.wrap .i64 a = a := wid_i64 a (by omega) (by omega)
  have c2 : IntKind.wrap .i64 b = b := wid_i64 b (by omega) (by omega)
  simp only [c1, c2, reduceIte, Bool.false_eq_true, and_true, and_imp, ne_eq]
  clear c1 c2
  by_cases hb0 : b = 0
  · clear ha hb; intros; first | (exfalso; contradiction) | omega
  by_cases hx : a < 0
  · have e1 := neg_u64 a hx (by omega)
    by_cases hy : b < 0
    · have e2 := neg_u64 b hy (by omega)
      have p := parts (256 * -a) (-b) b (by omega) (by omega) (by omega)
      try simp only [e1, e2]
      clear e1 e2
      try simp (disch := omega) only [wid_u64, wid_i64, wid_i32, Int.tdiv_eq_ediv_of_nonneg, Int.tmod_eq_emod_of_nonneg, if_neg]
      generalize 256 * -a / -b = q at p ⊢
      generalize 256 * -a % -b = r at p ⊢
      try simp (disch := omega) only [wid_u64, wid_i64, wid_i32, Int.mul_add, Int.mul_sub, Int.mul_neg, Int.mul_one, Int.mul_zero, Int.zero_sub]
      generalize b * q = t at p ⊢
      intros
      first | omega | skip
    · have e2 := wid_u64 b (by omega) (by omega)
      have p := parts (256 * -a) (b) b (by omega) (by omega) (by omega)
      try simp only [e1, e2]
      clear e1 e2
      try simp (disch := omega) only [wid_u64, wid_i64, wid_i32, Int.tdiv_eq_ediv_of_nonneg, Int.tmod_eq_emod_of_nonneg, if_neg]
      generalize 256 * -a / b = q at p ⊢
      generalize 256 * -a % b = r at p ⊢
      try simp (disch := omega) only [wid_u64, wid_i64, wid_i32, Int.mul_add, Int.mul_sub, Int.mul_neg, Int.mul_one, Int.mul_zero, Int.zero_sub]
      generalize b * q = t at p ⊢
      intros
      first | omega | skip
  · have e1 := wid_u64 a (by omega) (by omega)
    by_cases hy : b < 0
    · have e2 := neg_u64 b hy (by omega)
      have p := parts (a * 256) (-b) b (by omega) (by omega) (by omega)
      try simp only [e1, e2]
      clear e1 e2
      try simp (disch := omega) only [wid_u64, wid_i64, wid_i32, Int.tdiv_eq_ediv_of_nonneg, Int.tmod_eq_emod_of_nonneg, if_neg]
      generalize a * 256 / -b = q at p ⊢
      generalize a * 256 % -b = r at p ⊢
      try simp (disch := omega) only [wid_u64, wid_i64, wid_i32, Int.mul_add, Int.mul_sub, Int.mul_neg, Int.mul_one, Int.mul_zero, Int.zero_sub]
      generalize b * q = t at p ⊢
      intros
      first | omega | skip
    · have e2 := wid_u64 b (by omega) (by omega)
      have p := parts (a * 256) (b) b (by omega) (by omega) (by omega)
      try simp only [e1, e2]
      clear e1 e2
      try simp (disch := omega) only [wid_u64, wid_i64, wid_i32, Int.tdiv_eq_ediv_of_nonneg, Int.tmod_eq_emod_of_nonneg, if_neg]
      generalize a * 256 / b = q at p ⊢
      generalize a * 256 % b = r at p ⊢
      try simp (disch := omega) only [wid_u64, wid_i64, wid_i32, Int.mul_add, Int.mul_sub, Int.mul_neg, Int.mul_one, Int.mul_zero, Int.zero_sub]
      generalize b * q = t at p ⊢
      intros
      first | omega | skip
theorem near_true21 (ρ : Nat → Value) : ∀ q, q ∈ nearR21 → q.1.holds ρ → q.2.truth ρ = true := by
  have ha := v_bounds ρ .i16 0
  have hb := v_bounds ρ .i16 1
  simp only [IntKind.min, IntKind.max, IntKind.bits, IntKind.signed] at ha hb
  simp only [nearR21, all_cons, all_nil, h_cons, h_nil, t_eql, t_lss, t_bool, t_and, t_not, n_int, n_add, n_sub, n_mul, n_conv, n_shr, n_and, n_quo, n_rem, n_max]
  generalize (SE.ivar .i16 0).num ρ = a at ha ⊢
  generalize (SE.ivar .i16 1).num ρ = b at hb ⊢
  simp at ha hb
  have c1 : IntKind.wrap .i64 a = a := wid_i64 a (by omega) (by omega)
  have c2 : IntKind.wrap .i64 b = b := wid_i64 b (by omega) (by omega)
  simp only [c1, c2, reduceIte, Bool.false_eq_true, and_true, and_imp, ne_eq]
  clear c1 c2
  by_cases hb0 : b = 0
  · clear ha hb; intros; first | (exfalso; contradiction) | omega
  by_cases hx : a < 0
  · have e1 := neg_u64 a hx (by omega)
    by_cases hy : b < 0
    · have e2 := neg_u64 b hy (by omega)
      have p := parts (256 * -a) (-b) b (by omega) (by omega) (by omega)
      try simp only [e1, e2]
      clear e1 e2
      try simp (disch := omega) only [wid_u64, wid_i64, wid_i32, Int.tdiv_eq_ediv_of_nonneg, Int.tmod_eq_emod_of_nonneg, if_neg]
      generalize 256 * -a / -b = q at p ⊢
      generalize 256 * -a % -b = r at p ⊢
      try simp (disch := omega) only [wid_u64, wid_i64, wid_i32, Int.mul_add, Int.mul_sub, Int.mul_neg, Int.mul_one, Int.mul_zero, Int.zero_sub]
      generalize b * q = t at p ⊢
      intros
      first | omega | skip
    · have e2 := wid_u64 b (by omega) (by omega)
      have p := parts (256 * -a) (b) b (by omega) (by omega) (by omega)
      try simp only [e1, e2]
      clear e1 e2
      try simp (disch := omega) only [wid_u64, wid_i64, wid_i32, Int.tdiv_eq_ediv_of_nonneg, Int.tmod_eq_emod_of_nonneg, if_neg]
      generalize 256 * -a / b = q at p ⊢
      generalize 256 * -a % b = r at p ⊢
      try simp (disch := omega) only [wid_u64, wid_i64, wid_i32, Int.mul_add, Int.mul_sub, Int.mul_neg, Int.mul_one, Int.mul_zero, Int.zero_sub]
      generalize b * q = t at p ⊢
      intros
      first | omega | skip
  · have e1 := wid_u64 a (by omega) (by omega)
    by_cases hy : b < 0
    · have e2 := neg_u64 b hy (by omega)
      have p := parts (a * 256) (-b) b (by omega) (by omega) (by omega)
      try simp only [e1, e2]
      clear e1 e2
      try simp (disch := omega) only [wid_u64, wid_i64, wid_i32, Int.tdiv_eq_ediv_of_nonneg, Int.tmod_eq_emod_of_nonneg, if_neg]
      generalize a * 256 / -b = q at p ⊢
      generalize a * 256 % -b = r at p ⊢
      try simp (disch := omega) only [wid_u64, wid_i64, wid_i32, Int.mul_add, Int.mul_sub, Int.mul_neg, Int.mul_one, Int.mul_zero, Int.zero_sub]
      generalize b * q = t at p ⊢
      intros
      first | omega | skip
    · have e2 := wid_u64 b (by omega) (by omega)
      have p := parts (a * 256) (b) b (by omega) (by omega) (by omega)
      try simp only [e1, e2]
      clear e1 e2
      try simp (disch := omega) only [wid_u64, wid_i64, wid_i32, Int.tdiv_eq_ediv_of_nonneg, Int.tmod_eq_emod_of_nonneg, if_neg]
      generalize a * 256 / b = q at p ⊢
      generalize a * 256 % b = r at p ⊢
      try simp (disch := omega) only [wid_u64, wid_i64, wid_i32, Int.mul_add, Int.mul_sub, Int.mul_neg, Int.mul_one, Int.mul_zero, Int.zero_sub]
      generalize b * q = t at p ⊢
      intros
      first | omega | skip
theorem near_true22 (ρ : Nat → Value) : ∀ q, q ∈ nearR22 → q.1.holds ρ → q.2.truth ρ = true := by
  have ha := v_bounds ρ .i16 0
  have hb := v_bounds ρ .i16 1
  simp only [IntKind.min, IntKind.max, IntKind.bits, IntKind.signed] at ha hb
  simp only [nearR22, all_cons, all_nil, h_cons, h_nil, t_eql, t_lss, t_bool, t_and, t_not, n_int, n_add, n_sub, n_mul, n_conv, n_shr, n_and, n_quo, n_rem, n_max]
  generalize (SE.ivar .i16 0).num ρ = a at ha ⊢
  generalize (SE.ivar .i16 1).num ρ = b at hb ⊢
  simp at ha hb
  have c1 : IntKind.wrap .i64 a = a := wid_i64 a (by omega) (by omega)
  have c2 : IntKind.wrap .i64 b = b := wid_i64 b (by omega) (by omega)
  simp only [c1, c2, reduceIte, Bool.false_eq_true, and_true, and_imp, ne_eq]
  clear c1 c2
  by_cases hb0 : b = 0
  · clear ha hb; intros; first | (exfalso; contradiction) | omega
  by_cases hx : a < 0
  · have e1 := neg_u64 a hx (by omega)
    by_cases hy : b < 0
    · have e2 := neg_u64 b hy (by omega)
      have p := parts (256 * -a) (-b) b (by omega) (by omega) (by omega)
      try simp only [e1, e2]
      clear e1 e2
      try simp (disch := omega) only [wid_u64, wid_i64, wid_i32, Int.tdiv_eq_ediv_of_nonneg, Int.tmod_eq_emod_of_nonneg, if_neg]
      generalize 256 * -a / -b = q at p ⊢
      generalize 256 * -a % -b = r at p ⊢
      try simp (disch := omega) only [wid_u64, wid_i64, wid_i32, Int.mul_add, Int.mul_sub, Int.mul_neg, Int.mul_one, Int.mul_zero, Int.zero_sub]
      generalize b * q = t at p ⊢
      intros
      first | omega | skip
    · have e2 := wid_u64 b (by omega) (by omega)
      have p := parts (256 * -a) (b) b (by omega) (by omega) (by omega)
      try simp only [e1, e2]
      clear e1 e2
      try simp (disch := omega) only [wid_u64, wid_i64, wid_i32, Int.tdiv_eq_ediv_of_nonneg, Int.tmod_eq_emod_of_nonneg, if_neg]
      generalize 256 * -a / b = q at p ⊢
      generalize 256 * -a % b = r at p ⊢
      try simp (disch := omega) only [wid_u64, wid_i64, wid_i32, Int.mul_add, Int.mul_sub, Int.mul_neg, Int.mul_one, Int.mul_zero, Int.zero_sub]
      generalize b * q = t at p ⊢
      intros
      first | omega | skip
  · have e1 := wid_u64 a (by omega) (by omega)
    by_cases hy : b < 0
    · have e2 := neg_u64 b hy (by omega)
      have p := parts (a * 256) (-b) b (by omega) (by omega) (by omega)
      try simp only [e1, e2]
      clear e1 e2
      try simp (disch := omega) only [wid_u64, wid_i64, wid_i32, Int.tdiv_eq_ediv_of_nonneg, Int.tmod_eq_emod_of_nonneg, if_neg]
      generalize a * 256 / -b = q at p ⊢
      generalize a * 256 % -b = r at p ⊢
      try simp (disch := omega) only [wid_u64, wid_i64, wid_i32, Int.mul_add, Int.mul_sub, Int.mul_neg, Int.mul_one, Int.mul_zero, Int.zero_sub]
      generalize b * q = t at p ⊢
      intros
      first | omega | skip
    · have e2 := wid_u64 b (by omega) (by omega)
      have p := parts (a * 256) (b) b (by omega) (by omega) (by omega)
      try simp only [e1, e2]
      clear e1 e2
      try simp (disch := omega) only [wid_u64, wid_i64, wid_i32, Int.tdiv_eq_ediv_of_nonneg, Int.tmod_eq_emod_of_nonneg, if_neg]
      generalize a * 256 / b = q at p ⊢
      generalize a * 256 % b = r at p ⊢
      try simp (disch := omega) only [wid_u64, wid_i64, wid_i32, Int.mul_add, Int.mul_sub, Int.mul_neg, Int.mul_one, Int.mul_zero, Int.zero_sub]
      generalize b * q = t at p ⊢
      intros
      first | omega | skip
theorem near_true23 (ρ : Nat → Value) : ∀ q, q ∈ nearR23 → q.1.holds ρ → q.2.truth ρ = true := by
  have ha := v_bounds ρ .i16 0
  have hb := v_bounds ρ .i16 1
  simp only [IntKind.min, IntKind.max, IntKind.bits, IntKind.signed] at ha hb
  simp only [nearR23, all_cons, all_nil, h_cons, h_nil, t_eql, t_lss, t_bool, t_and, t_not, n_int, n_add, n_sub, n_mul, n_conv, n_shr, n_and, n_quo, n_rem, n_max]
  generalize (SE.ivar .i16 0).num ρ = a at ha ⊢
  generalize (SE.ivar .i16 1).num ρ = b at hb ⊢
  simp at ha hb
  have c1 : IntKind.wrap .i64 a = a := wid_i64 a (by omega) (by omega)
  have c2 : IntKind.wrap .i64 b = b := wid_i64 b (by omega) (by omega)
  simp only [c1, c2, reduceIte, Bool.false_eq_true, and_true, and_imp, ne_eq]
  clear c1 c2
  by_cases hb0 : b = 0
  · clear ha hb; intros; first | (exfalso; contradiction) | omega
  by_cases hx : a < 0
  · have e1 := neg_u64 a hx (by omega)
    by_cases hy : b < 0
    · have e2 := neg_u64 b hy (by omega)
      have p := parts (256 * -a) (-b) b (by omega) (by omega) (by omega)
      try simp only [e1, e2]
      clear e1 e2
      try simp (disch := omega) only [wid_u64, wid_i64, wid_i32, Int.tdiv_eq_ediv_of_nonneg, Int.tmod_eq_emod_of_nonneg, if_neg]
      generalize 256 * -a / -b = q at p ⊢
      generalize 256 * -a % -b = r at p ⊢
      try simp (disch := omega) only [wid_u64, wid_i64, wid_i32, Int.mul_add, Int.mul_sub, Int.mul_neg, Int.mul_one, Int.mul_zero, Int.zero_sub]
      generalize b * q = t at p ⊢
      intros
      first | omega | skip
    · have e2 := wid_u64 b (by omega) (by omega)
      have p := parts (256 * -a) (b) b (by omega) (by omega) (by omega)
      try simp only [e1, e2]
      clear e1 e2
      try simp (disch := omega) only [wid_u64, wid_i64, wid_i32, Int.tdiv_eq_ediv_of_nonneg, Int.tmod_eq_emod_of_nonneg, if_neg]
      generalize 256 * -a / b = q at p ⊢
      generalize 256 * -a % b = r at p ⊢
      try simp (disch := omega) only [wid_u64, wid_i64, wid_i32, Int.mul_add, Int.mul_sub, Int.mul_neg, Int.mul_one, Int.mul_zero, Int.zero_sub]
      generalize b * q = t at p ⊢
      intros
      first | omega | skip
  · have e1 := wid_u64 a (by omega) (by omega)
    by_cases hy : b < 0
    · have e2 := neg_u64 b hy (by omega)
      have p := parts (a * 256) (-b) b (by omega) (by omega) (by omega)
      try simp only [e1, e2]
      clear e1 e2
      try simp (disch := omega) only [wid_u64, wid_i64, wid_i32, Int.tdiv_eq_ediv_of_nonneg, Int.tmod_eq_emod_of_nonneg, if_neg]
      generalize a * 256 / -b = q at p ⊢
      generalize a * 256 % -b = r at p ⊢
      try simp (disch := omega) only [wid_u64, wid_i64, wid_i32, Int.mul_add, Int.mul_sub, Int.mul_neg, Int.mul_one, Int.mul_zero, Int.zero_sub]
      generalize b * q = t at p ⊢
      intros
      first | omega | skip
    · have e2 := wid_u64 b (by omega) (by omega)
      have p := parts (a * 256) (b) b (by omega) (by omega) (by omega)
      try simp only [e1, e2]
      clear e1 e2
      try simp (disch := omega) only [wid_u64, wid_i64, wid_i32, Int.tdiv_eq_ediv_of_nonneg, Int.tmod_eq_emod_of_nonneg, if_neg]
      generalize a * 256 / b = q at p ⊢
      generalize a * 256 % b = r at p ⊢
      try simp (disch := omega) only [wid_u64, wid_i64, wid_i32, Int.mul_add, Int.mul_sub, Int.mul_neg, Int.mul_one, Int.mul_zero, Int.zero_sub]
      generalize b * q = t at p ⊢
      intros
      first | omega | skip
theorem near_true24 (ρ : Nat → Value) : ∀ q, q ∈ nearR24 → q.1.holds ρ → q.2.truth ρ = true := by
  have ha := v_bounds ρ .i16 0
  have hb := v_bounds ρ .i16 1
  simp only [IntKind.min, IntKind.max, IntKind.bits, IntKind.signed] at ha hb
  simp only [nearR24, all_cons, all_nil, h_cons, h_nil, t_eql, t_lss, t_bool, t_and, t_not, n_int, n_add, n_sub, n_mul, n_conv, n_shr, n_and, n_quo, n_rem, n_max]
  generalize (SE.ivar .i16 0).num ρ = a at ha ⊢
  generalize (SE.ivar .i16 1).num ρ = b at hb ⊢
  simp at ha hb
  have c1 : IntKind.wrap .i64 a = a := wid_i64 a (by omega) (by omega)
  have c2 : IntKind.wrap .i64 b = b := wid_i64 b (by omega) (by omega)
  simp only [c1, c2, reduceIte, Bool.false_eq_true, and_true, and_imp, ne_eq]
  clear c1 c2
  by_cases hb0 : b = 0
  · clear ha hb; intros; first | (exfalso; contradiction) | omega
  by_cases hx : a < 0
  · have e1 := neg_u64 a hx (by omega)
    by_cases hy : b < 0
    · have e2 := neg_u64 b hy (by omega)
      have p := parts (256 * -a) (-b) b (by omega) (by omega) (by omega)
      try simp only [e1, e2]
      clear e1 e2
      try simp (disch := omega) only [wid_u64, wid_i64, wid_i32, Int.tdiv_eq_ediv_of_nonneg, Int.tmod_eq_emod_of_nonneg, if_neg]
      generalize 256 * -a / -b = q at p ⊢
      generalize 256 * -a % -b = r at p ⊢
      try simp (disch := omega) only [wid_u64, wid_i64, wid_i32, Int.mul_add, Int.mul_sub, Int.mul_neg, Int.mul_one, Int.mul_zero, Int.zero_sub]
      generalize b * q = t at p ⊢
      intros
      first | omega | skip
    · have e2 := wid_u64 b (by omega) (by omega)
      have p := parts (256 * -a) (b) b (by omega) (by omega) (by omega)
      try simp only [e1, e2]
      clear e1 e2
      try simp (disch := omega) only [wid_u64, wid_i64, wid_i32, Int.tdiv_eq_ediv_of_nonneg, Int.tmod_eq_emod_of_nonneg, if_neg]
      generalize 256 * -a / b = q at p ⊢
      generalize 256 * -a % b = r at p ⊢
      try simp (disch := omega) only [wid_u64, wid_i64, wid_i32, Int.mul_add, Int.mul_sub, Int.mul_neg, Int.mul_one, Int.mul_zero, Int.zero_sub]
      generalize b * q = t at p ⊢
      intros
      first | omega | skip
  · have e1 := wid_u64 a (by omega) (by omega)
    by_cases hy : b < 0
    · have e2 := neg_u64 b hy (by omega)
      have p := parts (a * 256) (-b) b (by omega) (by omega) (by omega)
      try simp only [e1, e2]
      clear e1 e2
      try simp (disch := omega) only [wid_u64, wid_i64, wid_i32, Int.tdiv_eq_ediv_of_nonneg, Int.tmod_eq_emod_of_nonneg, if_neg]
      generalize a * 256 / -b = q at p ⊢
      generalize a * 256 % -b = r at p ⊢
      try simp (disch := omega) only [wid_u64, wid_i64, wid_i32, Int.mul_add, Int.mul_sub, Int.mul_neg, Int.mul_one, Int.mul_zero, Int.zero_sub]
      generalize b * q = t at p ⊢
      intros
      first | omega | skip
    · have e2 := wid_u64 b (by omega) (by omega)
      have p := parts (a * 256) (b) b (by omega) (by omega) (by omega)
      try simp only [e1, e2]
      clear e1 e2
      try simp (disch := omega) only [wid_u64, wid_i64, wid_i32, Int.tdiv_eq_ediv_of_nonneg, Int.tmod_eq_emod_of_nonneg, if_neg]
      generalize a * 256 / b = q at p ⊢
      generalize a * 256 % b = r at p ⊢
      try simp (disch := omega) only [wid_u64, wid_i64, wid_i32, Int.mul_add, Int.mul_sub, Int.mul_neg, Int.mul_one, Int.mul_zero, Int.zero_sub]
      generalize b * q = t at p ⊢
      intros
      first | omega | skip
theorem near_true25 (ρ : Nat → Value) : ∀ q, q ∈ nearR25 → q.1.holds ρ → q.2.truth ρ = true := by
  have ha := v_bounds ρ .i16 0
  have hb := v_bounds ρ .i16 1
  simp only [IntKind.min, IntKind.max, IntKind.bits, IntKind.signed] at ha hb
  simp only [nearR25, all_cons, all_nil, h_cons, h_nil, t_eql, t_lss, t_bool, t_and, t_not, n_int, n_add, n_sub, n_mul, n_conv, n_shr, n_and, n_quo, n_rem, n_max]
  generalize (SE.ivar .i16 0).num ρ = a at ha ⊢
  generalize (SE.ivar .i16 1).num ρ = b at hb ⊢
  simp at ha hb
  have c1 : IntKind.wrap .i64 a = a := wid_i64 a (by omega) (by omega)
  have c2 : IntKind.wrap .i64 b = b := wid_i64 b (by omega) (by omega)
  simp only [c1, c2, reduceIte, Bool.false_eq_true, and_true, and_imp, ne_eq]
  clear c1 c2
  by_cases hb0 : b = 0
  · clear ha hb; intros; first | (exfalso; contradiction) | omega
  by_cases hx : a < 0
  · have e1 := neg_u64 a hx (by omega)
    by_cases hy : b < 0
    · have e2 := neg_u64 b hy (by omega)
      have p := parts (256 * -a) (-b) b (by omega) (by omega) (by omega)
      try simp only [e1, e2]
      clear e1 e2
      try simp (disch := omega) only [wid_u64, wid_i64, wid_i32, Int.tdiv_eq_ediv_of_nonneg, Int.tmod_eq_emod_of_nonneg, if_neg]
      generalize 256 * -a / -b = q at p ⊢
      generalize 256 * -a % -b = r at p ⊢
      try simp (disch := omega) only [wid_u64, wid_i64, wid_i32, Int.mul_add, Int.mul_sub, Int.mul_neg, Int.mul_one, Int.mul_zero, Int.zero_sub]
      generalize b * q = t at p ⊢
      intros
      first | omega | skip
    · have e2 := wid_u64 b (by omega) (by omega)
      have p := parts (256 * -a) (b) b (by omega) (by omega) (by omega)
      try simp only [e1, e2]
      clear e1 e2
      try simp (disch := omega) only [wid_u64, wid_i64, wid_i32, Int.tdiv_eq_ediv_of_nonneg, Int.tmod_eq_emod_of_nonneg, if_neg]
      generalize 256 * -a / b = q at p ⊢
      generalize 256 * -a % b = r at p ⊢
      try simp (disch := omega) only [wid_u64, wid_i64, wid_i32, Int.mul_add, Int.mul_sub, Int.mul_neg, Int.mul_one, Int.mul_zero, Int.zero_sub]
      generalize b * q = t at p ⊢
      intros
      first | omega | skip
  · have e1 := wid_u64 a (by omega) (by omega)
    by_cases hy : b < 0
    · have e2 := neg_u64 b hy (by omega)
      have p := parts (a * 256) (-b) b (by omega) (by omega) (by omega)
      try simp only [e1, e2]
      clear e1 e2
      try simp (disch := omega) only [wid_u64, wid_i64, wid_i32, Int.tdiv_eq_ediv_of_nonneg, Int.tmod_eq_emod_of_nonneg, if_neg]
      generalize a * 256 / -b = q at p ⊢
      generalize a * 256 % -b = r at p ⊢
      try simp (disch := omega) only [wid_u64, wid_i64, wid_i32, Int.mul_add, Int.mul_sub, Int.mul_neg, Int.mul_one, Int.mul_zero, Int.zero_sub]
      generalize b * q = t at p ⊢
      intros
      first | omega | skip
    · have e2 := wid_u64 b (by omega) (by omega)
      have p := parts (a * 256) (b) b (by omega) (by omega) (by omega)
      try simp only [e1, e2]
      clear e1 e2
      try simp (disch := omega) only [wid_u64, wid_i64, wid_i32, Int.tdiv_eq_ediv_of_nonneg, Int.tmod_eq_emod_of_nonneg, if_neg]
      generalize a * 256 / b = q at p ⊢
      generalize a * 256 % b = r at p ⊢
      try simp (disch := omega) only [wid_u64, wid_i64, wid_i32, Int.mul_add, Int.mul_sub, Int.mul_neg, Int.mul_one, Int.mul_zero, Int.zero_sub]
      generalize b * q = t at p ⊢
      intros
      first | omega | skip
theorem near_true26 (ρ : Nat → Value) : ∀ q, q ∈ nearR26 → q.1.holds ρ → q.2.truth ρ = true := by
  have ha := v_bounds ρ .i16 0
  have hb := v_bounds ρ .i16 1
  simp only [IntKind.min, IntKind.max, IntKind.bits, IntKind.signed] at ha hb
  simp only [nearR26, all_cons, all_nil, h_cons, h_nil, t_eql, t_lss, t_bool, t_and, t_not, n_int, n_add, n_sub, n_mul, n_conv, n_shr, n_and, n_quo, n_rem, n_max]
  generalize (SE.ivar .i16 0).num ρ = a at ha ⊢
  generalize (SE.ivar .i16 1).num ρ = b at hb ⊢
  simp at ha hb
  have c1 : IntKind.wrap .i64 a = a := wid_i64 a (by omega) (by omega)
  have c2 : IntKind.wrap .i64 b = b := wid_i64 b (by omega) (by omega)
  simp only [c1, c2, reduceIte, Bool.false_eq_true, and_true, and_imp, ne_eq]
  clear c1 c2
  by_cases hb0 : b = 0
  · clear ha hb; intros; first | (exfalso; contradiction) | omega
  by_cases hx : a < 0
  · have e1 := neg_u64 a hx (by omega)
    by_cases hy : b < 0
    · have e2 := neg_u64 b hy (by omega)
      have p := parts (256 * -a) (-b) b (by omega) (by omega) (by omega)
      try simp only [e1, e2]
      clear e1 e2
      try simp (disch := omega) only [wid_u64, wid_i64, wid_i32, Int.tdiv_eq_ediv_of_nonneg, Int.tmod_eq_emod_of_nonneg, if_neg]
      generalize 256 * -a / -b = q at p ⊢
      generalize 256 * -a % -b = r at p ⊢
      try simp (disch := omega) only [wid_u64, wid_i64, wid_i32, Int.mul_add, Int.mul_sub, Int.mul_neg, Int.mul_one, Int.mul_zero, Int.zero_sub]
      generalize b * q = t at p ⊢
      intros
      first | omega | skip
    · have e2 := wid_u64 b (by omega) (by omega)
      have p := parts (256 * -a) (b) b (by omega) (by omega) (by omega)
      try simp only [e1, e2]
      clear e1 e2
      try simp (disch := omega) only [wid_u64, wid_i64, wid_i32, Int.tdiv_eq_ediv_of_nonneg, Int.tmod_eq_emod_of_nonneg, if_neg]
      generalize 256 * -a / b = q at p ⊢
      generalize 256 * -a % b = r at p ⊢
      try simp (disch := omega) only [wid_u64, wid_i64, wid_i32, Int.mul_add, Int.mul_sub, Int.mul_neg, Int.mul_one, Int.mul_zero, Int.zero_sub]
      generalize b * q = t at p ⊢
      intros
      first | omega | skip
  · have e1 := wid_u64 a (by omega) (by omega)
    by_cases hy : b < 0
    · have e2 := neg_u64 b hy (by omega)
      have p := parts (a * 256) (-b) b (by omega) (by omega) (by omega)
      try simp only [e1, e2]
      clear e1 e2
      try simp (disch := omega) only [wid_u64, wid_i64, wid_i32, Int.tdiv_eq_ediv_of_nonneg, Int.tmod_eq_emod_of_nonneg, if_neg]
      generalize a * 256 / -b = q at p ⊢
      generalize a * 256 % -b = r at p ⊢
      try simp (disch := omega) only [wid_u64, wid_i64, wid_i32, Int.mul_add, Int.mul_sub, Int.mul_neg, Int.mul_one, Int.mul_zero, Int.zero_sub]
      generalize b * q = t at p ⊢
      intros
      first | omega | skip
    · have e2 := wid_u64 b (by omega) (by omega)
      have p := parts (a * 256) (b) b (by omega) (by omega) (by omega)
      try simp only [e1, e2]
      clear e1 e2
      try simp (disch := omega) only [wid_u64, wid_i64, wid_i32, Int.tdiv_eq_ediv_of_nonneg, Int.tmod_eq_emod_of_nonneg, if_neg]
      generalize a * 256 / b = q at p ⊢
      generalize a * 256 % b = r at p ⊢
      try simp (disch := omega) only [wid_u64, wid_i64, wid_i32, Int.mul_add, Int.mul_sub, Int.mul_neg, Int.mul_one, Int.mul_zero, Int.zero_sub]
      generalize b * q = t at p ⊢
      intros
      first | omega | skip
theorem near_true27 (ρ : Nat → Value) : ∀ q, q ∈ nearR27 → q.1.holds ρ → q.2.truth ρ = true := by
  have ha := v_bounds ρ .i16 0
  have hb := v_bounds ρ .i16 1
  simp only [IntKind.min, IntKind.max, IntKind.bits, IntKind.signed] at ha hb
  simp only [nearR27, all_cons, all_nil, h_cons, h_nil, t_eql, t_lss, t_bool, t_and, t_not, n_int, n_add, n_sub, n_mul, n_conv, n_shr, n_and, n_quo, n_rem, n_max]
  generalize (SE.ivar .i16 0).num ρ = a at ha ⊢
  generalize (SE.ivar .i16 1).num ρ = b at hb ⊢
  simp at ha hb
  have c1 : IntKind.wrap .i64 a = a := wid_i64 a (by omega) (by omega)
  have c2 : IntKind.wrap .i64 b = b := wid_i64 b (by omega) (by omega)
  simp only [c1, c2, reduceIte, Bool.false_eq_true, and_true, and_imp, ne_eq]
  clear c1 c2
  by_cases hb0 : b = 0
  · clear ha hb; intros; first | (exfalso; contradiction) | omega
  by_cases hx : a < 0
  · have e1 := neg_u64 a hx (by omega)
    by_cases hy : b < 0
    · have e2 := neg_u64 b hy (by omega)
      have p := parts (256 * -a) (-b) b (by omega) (by omega) (by omega)
      try simp only [e1, e2]
      clear e1 e2
      try simp (disch := omega) only [wid_u64, wid_i64, wid_i32, Int.tdiv_eq_ediv_of_nonneg, Int.tmod_eq_emod_of_nonneg, if_neg]
      generalize 256 * -a / -b = q at p ⊢
      generalize 256 * -a % -b = r at p ⊢
      try simp (disch := omega) only [wid_u64, wid_i64, wid_i32, Int.mul_add, Int.mul_sub, Int.mul_neg, Int.mul_one, Int.mul_zero, Int.zero_sub]
      generalize b * q = t at p ⊢
      intros
      first | omega | skip
    · have e2 := wid_u64 b (by omega) (by omega)
      have p := parts (256 * -a) (b) b (by omega) (by omega) (by omega)
      try simp only [e1, e2]
      clear e1 e2
      try simp (disch := omega) only [wid_u64, wid_i64, wid_i32, Int.tdiv_eq_ediv_of_nonneg, Int.tmod_eq_emod_of_nonneg, if_neg]
      generalize 256 * -a / b = q at p ⊢
      generalize 256 * -a % b = r at p ⊢
      try simp (disch := omega) only [wid_u64, wid_i64, wid_i32, Int.mul_add, Int.mul_sub, Int.mul_neg, Int.mul_one, Int.mul_zero, Int.zero_sub]
      generalize b * q = t at p ⊢
      intros
      first | omega | skip
  · have e1 := wid_u64 a (by omega) (by omega)
    by_cases hy : b < 0
    · have e2 := neg_u64 b hy (by omega)
      have p := parts (a * 256) (-b) b (by omega) (by omega) (by omega)
      try simp only [e1, e2]
      clear e1 e2
      try simp (disch := omega) only [wid_u64, wid_i64, wid_i32, Int.tdiv_eq_ediv_of_nonneg, Int.tmod_eq_emod_of_nonneg, if_neg]
      generalize a * 256 / -b = q at p ⊢
      generalize a * 256 % -b = r at p ⊢
      try simp (disch := omega) only [wid_u64, wid_i64, wid_i32, Int.mul_add, Int.mul_sub, Int.mul_neg, Int.mul_one, Int.mul_zero, Int.zero_sub]
      generalize b * q = t at p ⊢
      intros
      first | omega | skip
    · have e2 := wid_u64 b (by omega) (by omega)
      have p := parts (a * 256) (b) b (by omega) (by omega) (by omega)
      try simp only [e1, e2]
      clear e1 e2
      try simp (disch := omega) only [wid_u64, wid_i64, wid_i32, Int.tdiv_eq_ediv_of_nonneg, Int.tmod_eq_emod_of_nonneg, if_neg]
      generalize a * 256 / b = q at p ⊢
      generalize a * 256 % b = r at p ⊢
      try simp (disch := omega) only [wid_u64, wid_i64, wid_i32, Int.mul_add, Int.mul_sub, Int.mul_neg, Int.mul_one, Int.mul_zero, Int.zero_sub]
      generalize b * q = t at p ⊢
      intros
      first | omega | skip
theorem near_true28 (ρ : Nat → Value) : ∀ q, q ∈ nearR28 → q.1.holds ρ → q.2.truth ρ = true := by
  have ha := v_bounds ρ .i16 0
  have hb := v_bounds ρ .i16 1
  simp only [IntKind.min, IntKind.max, IntKind.bits, IntKind.signed] at ha hb
  simp only [nearR28, all_cons, all_nil, h_cons, h_nil, t_eql, t_lss, t_bool, t_and, t_not, n_int, n_add, n_sub, n_mul, n_conv, n_shr, n_and, n_quo, n_rem, n_max]
  generalize (SE.ivar .i16 0).num ρ = a at ha ⊢
  generalize (SE.ivar .i16 1).num ρ = b at hb ⊢
  simp at ha hb
  have c1 : IntKind.wrap .i64 a = a := wid_i64 a (by omega) (by omega)
  have c2 : IntKind.wrap .i64 b = b := wid_i64 b (by omega) (by omega)
  simp only [c1, c2, reduceIte, Bool.false_eq_true, and_true, and_imp, ne_eq]
  clear c1 c2
  by_cases hb0 : b = 0
  · clear ha hb; intros; first | (exfalso; contradiction) | omega
  by_cases hx : a < 0
  · have e1 := neg_u64 a hx (by omega)
    by_cases hy : b < 0
    · have e2 := neg_u64 b hy (by omega)
      have p := parts (256 * -a) (-b) b (by omega) (by omega) (by omega)
      try simp only [e1, e2]
      clear e1 e2
      try simp (disch := omega) only [wid_u64, wid_i64, wid_i32, Int.tdiv_eq_ediv_of_nonneg, Int.tmod_eq_emod_of_nonneg, if_neg]
      generalize 256 * -a / -b = q at p ⊢
      generalize 256 * -a % -b = r at p ⊢
      try simp (disch := omega) only [wid_u64, wid_i64, wid_i32, Int.mul_add, Int.mul_sub, Int.mul_neg, Int.mul_one, Int.mul_zero, Int.zero_sub]
      generalize b * q = t at p ⊢
      intros
      first | omega | skip
    · have e2 := wid_u64 b (by omega) (by omega)
      have p := parts (256 * -a) (b) b (by omega) (by omega) (by omega)
      try simp only [e1, e2]
      clear e1 e2
      try simp (disch := omega) only [wid_u64, wid_i64, wid_i32, Int.tdiv_eq_ediv_of_nonneg, Int.tmod_eq_emod_of_nonneg, if_neg]
      generalize 256 * -a / b = q at p ⊢
      generalize 256 * -a % b = r at p ⊢
      try simp (disch := omega) only [wid_u64, wid_i64, wid_i32, Int.mul_add, Int.mul_sub, Int.mul_neg, Int.mul_one, Int.mul_zero, Int.zero_sub]
      generalize b * q = t at p ⊢
      intros
      first | omega | skip
  · have e1 := wid_u64 a (by omega) (by omega)
    by_cases hy : b < 0
    · have e2 := neg_u64 b hy (by omega)
      have p := parts (a * 256) (-b) b (by omega) (by omega) (by omega)
      try simp only [e1, e2]
      clear e1 e2
      try simp (disch := omega) only [wid_u64, wid_i64, wid_i32, Int.tdiv_eq_ediv_of_nonneg, Int.tmod_eq_emod_of_nonneg, if_neg]
      generalize a * 256 / -b = q at p ⊢
      generalize a * 256 % -b = r at p ⊢
      try simp (disch := omega) only [wid_u64, wid_i64, wid_i32, Int.mul_add, Int.mul_sub, Int.mul_neg, Int.mul_one, Int.mul_zero, Int.zero_sub]
      generalize b * q = t at p ⊢
      intros
      first | omega | skip
    · have e2 := wid_u64 b (by omega) (by omega)
      have p := parts (a * 256) (b) b (by omega) (by omega) (by omega)
      try simp only [e1, e2]
      clear e1 e2
      try simp (disch := omega) only [wid_u64, wid_i64, wid_i32, Int.tdiv_eq_ediv_of_nonneg, Int.tmod_eq_emod_of_nonneg, if_neg]
      generalize a * 256 / b = q at p ⊢
      generalize a * 256 % b = r at p ⊢
      try simp (disch := omega) only [wid_u64, wid_i64, wid_i32, Int.mul_add, Int.mul_sub, Int.mul_neg, Int.mul_one, Int.mul_zero, Int.zero_sub]
      generalize b * q = t at p ⊢
      intros
      first | omega | skip
theorem near_true (ρ : Nat → Value) : ∀ q, q ∈ nearR → q.1.holds ρ → q.2.truth ρ = true := by
  intro q h
  simp only [nearR, List.mem_append] at h
  rcases h with h | h | h | h | h | h | h | h | h | h | h | h | h | h | h | h | h | h | h | h | h | h | h | h | h | h | h | h | h
  · exact near_true0 ρ q h
  · exact near_true1 ρ q h
  · exact near_true2 ρ q h
  · exact near_true3 ρ q h
  · exact near_true4 ρ q h
  · exact near_true5 ρ q h
  · exact near_true6 ρ q h
  · exact near_true7 ρ q h
  · exact near_true8 ρ q h
  · exact near_true9 ρ q h
  · exact near_true10 ρ q h
  · exact near_true11 ρ q h
  · exact near_true12 ρ q h
  · exact near_true13 ρ q h
  · exact near_true14 ρ q h
  · exact near_true15 ρ q h
  · exact near_true16 ρ q h
  · exact near_true17 ρ q h
  · exact near_true18 ρ q h
  · exact near_true19 ρ q h
  · exact near_true20 ρ q h
  · exact near_true21 ρ q h
  · exact near_true22 ρ q h
  · exact near_true23 ρ q h
  · exact near_true24 ρ q h
  · exact near_true25 ρ q h
  · exact near_true26 ρ q h
  · exact near_true27 ρ q h
  · exact near_true28 ρ q h
end Go.Proofs.YtdblaloadklcfabDoor
