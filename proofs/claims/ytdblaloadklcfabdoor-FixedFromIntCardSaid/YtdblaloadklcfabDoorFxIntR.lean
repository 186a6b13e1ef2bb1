/- FixedFromInt: the run and what it leaves to be shown. -/
import Derived.Test.YtdblaloadklcfabDoorFxB
import Derived.Test.YtdblaloadklcfabDoorSx26
set_option linter.unusedVariables false
set_option linter.unusedSimpArgs false
namespace Go.Proofs.YtdblaloadklcfabDoor
open Go.Sx
/-- The upper word of 256 y. -/
theorem hi_of (y : Int) (h0 : 0 ≤ y) (h1 : y ≤ 9223372036854775808) :
    ((256 * (y / 4294967296) + 256 * (y % 4294967296) % 18446744073709551616 / 4294967296) % 18446744073709551616 / 4294967296 +
      (256 * (y / 4294967296) + 256 * (y % 4294967296) % 18446744073709551616 / 4294967296) % 4294967296 % 18446744073709551616 / 4294967296) % 18446744073709551616 = y / 72057594037927936 := by
  have a0 : 256 * (y % 4294967296) % 18446744073709551616 = 256 * (y % 4294967296) := by omega
  rw [a0]
  have a1 : (256 * (y / 4294967296) + 256 * (y % 4294967296) / 4294967296) % 18446744073709551616 = 256 * (y / 4294967296) + 256 * (y % 4294967296) / 4294967296 := by omega
  rw [a1]
  have a2 : (256 * (y / 4294967296) + 256 * (y % 4294967296) / 4294967296) % 4294967296 % 18446744073709551616 / 4294967296 = 0 := by omega
  rw [a2]
  omega
def intR0 : List (PC × SE) := [
  ((((.cmp .lss (.int .u64 2147483648) (.bin .mul .u64 (.int .u64 256) (.bin .sub .u64 (.int .u64 0) (.conv .u64 (.ivar .i64 0))))), false) :: (((.cmp .lss (.int .u64 16777216) (.bin .sub .u64 (.int .u64 0) (.conv .u64 (.ivar .i64 0)))), false) :: (((.cmp .lss (.bin .add .u64 (.bin .add .u64 (.bin .mul .u64 (.int .u64 0) (.bin .shr .u64 (.bin .sub .u64 (.int .u64 0) (.conv .u64 (.ivar .i64 0))) (.int .u64 32))) (.bin .shr .u64 (.bin .add .u64 (.bin .mul .u64 (.int .u64 256) (.bin .shr .u64 (.bin .sub .u64 (.int .u64 0) (.conv .u64 (.ivar .i64 0))) (.int .u64 32))) (.bin .shr .u64 (.bin .mul .u64 (.int .u64 256) (.bin .and .u64 (.bin .sub .u64 (.int .u64 0) (.conv .u64 (.ivar .i64 0))) (.int .u64 4294967295))) (.int .u64 32))) (.int .u64 32))) (.bin .shr .u64 (.bin .add .u64 (.bin .mul .u64 (.int .u64 0) (.bin .and .u64 (.bin .sub .u64 (.int .u64 0) (.conv .u64 (.ivar .i64 0))) (.int .u64 4294967295))) (.bin .and .u64 (.bin .add .u64 (.bin .mul .u64 (.int .u64 256) (.bin .shr .u64 (.bin .sub .u64 (.int .u64 0) (.conv .u64 (.ivar .i64 0))) (.int .u64 32))) (.bin .shr .u64 (.bin .mul .u64 (.int .u64 256) (.bin .and .u64 (.bin .sub .u64 (.int .u64 0) (.conv .u64 (.ivar .i64 0))) (.int .u64 4294967295))) (.int .u64 32))) (.int .u64 4294967295))) (.int .u64 32))) (.int .u64 1)), false) :: (((.cmp .lss (.ivar .i64 0) (.int .i64 0)), true) :: [])))), (.bool false))]
def intR1 : List (PC × SE) := [
  ((((.cmp .eql (.conv .i32 (.bin .sub .i64 (.int .i64 0) (.conv .i64 (.bin .quo .u64 (.bin .mul .u64 (.int .u64 256) (.bin .sub .u64 (.int .u64 0) (.conv .u64 (.ivar .i64 0)))) (.int .u64 1))))) (.int .i32 0)), false) :: (((.cmp .lss (.int .u64 16777216) (.bin .sub .u64 (.int .u64 0) (.conv .u64 (.ivar .i64 0)))), true) :: (((.cmp .lss (.int .u64 2147483648) (.bin .quo .u64 (.bin .mul .u64 (.int .u64 256) (.bin .sub .u64 (.int .u64 0) (.conv .u64 (.ivar .i64 0)))) (.int .u64 1))), false) :: (((.cmp .lss (.bin .add .u64 (.bin .add .u64 (.bin .mul .u64 (.int .u64 0) (.bin .shr .u64 (.bin .sub .u64 (.int .u64 0) (.conv .u64 (.ivar .i64 0))) (.int .u64 32))) (.bin .shr .u64 (.bin .add .u64 (.bin .mul .u64 (.int .u64 256) (.bin .shr .u64 (.bin .sub .u64 (.int .u64 0) (.conv .u64 (.ivar .i64 0))) (.int .u64 32))) (.bin .shr .u64 (.bin .mul .u64 (.int .u64 256) (.bin .and .u64 (.bin .sub .u64 (.int .u64 0) (.conv .u64 (.ivar .i64 0))) (.int .u64 4294967295))) (.int .u64 32))) (.int .u64 32))) (.bin .shr .u64 (.bin .add .u64 (.bin .mul .u64 (.int .u64 0) (.bin .and .u64 (.bin .sub .u64 (.int .u64 0) (.conv .u64 (.ivar .i64 0))) (.int .u64 4294967295))) (.bin .and .u64 (.bin .add .u64 (.bin .mul .u64 (.int .u64 256) (.bin .shr .u64 (.bin .sub .u64 (.int .u64 0) (.conv .u64 (.ivar .i64 0))) (.int .u64 32))) (.bin .shr .u64 (.bin .mul .u64 (.int .u64 256) (.bin .and .u64 (.bin .sub .u64 (.int .u64 0) (.conv .u64 (.ivar .i64 0))) (.int .u64 4294967295))) (.int .u64 32))) (.int .u64 4294967295))) (.int .u64 32))) (.int .u64 1)), true) :: (((.cmp .lss (.ivar .i64 0) (.int .i64 0)), true) :: []))))), (.bool false))]
def intR2 : List (PC × SE) := [
  ((((.cmp .eql (.conv .i32 (.bin .sub .i64 (.int .i64 0) (.conv .i64 (.bin .quo .u64 (.bin .mul .u64 (.int .u64 256) (.bin .sub .u64 (.int .u64 0) (.conv .u64 (.ivar .i64 0)))) (.int .u64 1))))) (.int .i32 0)), true) :: (((.cmp .lss (.int .u64 16777216) (.bin .sub .u64 (.int .u64 0) (.conv .u64 (.ivar .i64 0)))), true) :: (((.cmp .lss (.int .u64 2147483648) (.bin .quo .u64 (.bin .mul .u64 (.int .u64 256) (.bin .sub .u64 (.int .u64 0) (.conv .u64 (.ivar .i64 0)))) (.int .u64 1))), false) :: (((.cmp .lss (.bin .add .u64 (.bin .add .u64 (.bin .mul .u64 (.int .u64 0) (.bin .shr .u64 (.bin .sub .u64 (.int .u64 0) (.conv .u64 (.ivar .i64 0))) (.int .u64 32))) (.bin .shr .u64 (.bin .add .u64 (.bin .mul .u64 (.int .u64 256) (.bin .shr .u64 (.bin .sub .u64 (.int .u64 0) (.conv .u64 (.ivar .i64 0))) (.int .u64 32))) (.bin .shr .u64 (.bin .mul .u64 (.int .u64 256) (.bin .and .u64 (.bin .sub .u64 (.int .u64 0) (.conv .u64 (.ivar .i64 0))) (.int .u64 4294967295))) (.int .u64 32))) (.int .u64 32))) (.bin .shr .u64 (.bin .add .u64 (.bin .mul .u64 (.int .u64 0) (.bin .and .u64 (.bin .sub .u64 (.int .u64 0) (.conv .u64 (.ivar .i64 0))) (.int .u64 4294967295))) (.bin .and .u64 (.bin .add .u64 (.bin .mul .u64 (.int .u64 256) (.bin .shr .u64 (.bin .sub .u64 (.int .u64 0) (.conv .u64 (.ivar .i64 0))) (.int .u64 32))) (.bin .shr .u64 (.bin .mul .u64 (.int .u64 256) (.bin .and .u64 (.bin .sub .u64 (.int .u64 0) (.conv .u64 (.ivar .i64 0))) (.int .u64 4294967295))) (.int .u64 32))) (.int .u64 4294967295))) (.int .u64 32))) (.int .u64 1)), true) :: (((.cmp .lss (.ivar .i64 0) (.int .i64 0)), true) :: []))))), (.bool false))]
def intR3 : List (PC × SE) := [
  ((((.cmp .lss (.int .u64 2147483648) (.bin .mul .u64 (.int .u64 256) (.bin .sub .u64 (.int .u64 0) (.conv .u64 (.ivar .i64 0))))), true) :: (((.cmp .lss (.int .u64 16777216) (.bin .sub .u64 (.int .u64 0) (.conv .u64 (.ivar .i64 0)))), false) :: (((.cmp .lss (.int .u64 2147483648) (.bin .quo .u64 (.bin .mul .u64 (.int .u64 256) (.bin .sub .u64 (.int .u64 0) (.conv .u64 (.ivar .i64 0)))) (.int .u64 1))), false) :: (((.cmp .lss (.bin .add .u64 (.bin .add .u64 (.bin .mul .u64 (.int .u64 0) (.bin .shr .u64 (.bin .sub .u64 (.int .u64 0) (.conv .u64 (.ivar .i64 0))) (.int .u64 32))) (.bin .shr .u64 (.bin .add .u64 (.bin .mul .u64 (.int .u64 256) (.bin .shr .u64 (.bin .sub .u64 (.int .u64 0) (.conv .u64 (.ivar .i64 0))) (.int .u64 32))) (.bin .shr .u64 (.bin .mul .u64 (.int .u64 256) (.bin .and .u64 (.bin .sub .u64 (.int .u64 0) (.conv .u64 (.ivar .i64 0))) (.int .u64 4294967295))) (.int .u64 32))) (.int .u64 32))) (.bin .shr .u64 (.bin .add .u64 (.bin .mul .u64 (.int .u64 0) (.bin .and .u64 (.bin .sub .u64 (.int .u64 0) (.conv .u64 (.ivar .i64 0))) (.int .u64 4294967295))) (.bin .and .u64 (.bin .add .u64 (.bin .mul .u64 (.int .u64 256) (.bin .shr .u64 (.bin .sub .u64 (.int .u64 0) (.conv .u64 (.ivar .i64 0))) (.int .u64 32))) (.bin .shr .u64 (.bin .mul .u64 (.int .u64 256) (.bin .and .u64 (.bin .sub .u64 (.int .u64 0) (.conv .u64 (.ivar .i64 0))) (.int .u64 4294967295))) (.int .u64 32))) (.int .u64 4294967295))) (.int .u64 32))) (.int .u64 1)), true) :: (((.cmp .lss (.ivar .i64 0) (.int .i64 0)), true) :: []))))), (.bool false))]
def intR4 : List (PC × SE) := [
  ((((.cmp .eql (.conv .i32 (.bin .sub .i64 (.int .i64 0) (.conv .i64 (.bin .quo .u64 (.bin .mul .u64 (.int .u64 256) (.bin .sub .u64 (.int .u64 0) (.conv .u64 (.ivar .i64 0)))) (.int .u64 1))))) (.conv .i32 (.bin .sub .i64 (.int .i64 0) (.conv .i64 (.bin .mul .u64 (.int .u64 256) (.bin .sub .u64 (.int .u64 0) (.conv .u64 (.ivar .i64 0)))))))), false) :: (((.cmp .lss (.int .u64 2147483648) (.bin .mul .u64 (.int .u64 256) (.bin .sub .u64 (.int .u64 0) (.conv .u64 (.ivar .i64 0))))), false) :: (((.cmp .lss (.int .u64 16777216) (.bin .sub .u64 (.int .u64 0) (.conv .u64 (.ivar .i64 0)))), false) :: (((.cmp .lss (.int .u64 2147483648) (.bin .quo .u64 (.bin .mul .u64 (.int .u64 256) (.bin .sub .u64 (.int .u64 0) (.conv .u64 (.ivar .i64 0)))) (.int .u64 1))), false) :: (((.cmp .lss (.bin .add .u64 (.bin .add .u64 (.bin .mul .u64 (.int .u64 0) (.bin .shr .u64 (.bin .sub .u64 (.int .u64 0) (.conv .u64 (.ivar .i64 0))) (.int .u64 32))) (.bin .shr .u64 (.bin .add .u64 (.bin .mul .u64 (.int .u64 256) (.bin .shr .u64 (.bin .sub .u64 (.int .u64 0) (.conv .u64 (.ivar .i64 0))) (.int .u64 32))) (.bin .shr .u64 (.bin .mul .u64 (.int .u64 256) (.bin .and .u64 (.bin .sub .u64 (.int .u64 0) (.conv .u64 (.ivar .i64 0))) (.int .u64 4294967295))) (.int .u64 32))) (.int .u64 32))) (.bin .shr .u64 (.bin .add .u64 (.bin .mul .u64 (.int .u64 0) (.bin .and .u64 (.bin .sub .u64 (.int .u64 0) (.conv .u64 (.ivar .i64 0))) (.int .u64 4294967295))) (.bin .and .u64 (.bin .add .u64 (.bin .mul .u64 (.int .u64 256) (.bin .shr .u64 (.bin .sub .u64 (.int .u64 0) (.conv .u64 (.ivar .i64 0))) (.int .u64 32))) (.bin .shr .u64 (.bin .mul .u64 (.int .u64 256) (.bin .and .u64 (.bin .sub .u64 (.int .u64 0) (.conv .u64 (.ivar .i64 0))) (.int .u64 4294967295))) (.int .u64 32))) (.int .u64 4294967295))) (.int .u64 32))) (.int .u64 1)), true) :: (((.cmp .lss (.ivar .i64 0) (.int .i64 0)), true) :: [])))))), (.bool false))]
def intR5 : List (PC × SE) := [
  ((((.cmp .eql (.conv .i64 (.bin .shr .i32 (.conv .i32 (.bin .sub .i64 (.int .i64 0) (.conv .i64 (.bin .quo .u64 (.bin .mul .u64 (.int .u64 256) (.bin .sub .u64 (.int .u64 0) (.conv .u64 (.ivar .i64 0)))) (.int .u64 1))))) (.int .u64 8))) (.ivar .i64 0)), false) :: (((.cmp .eql (.conv .i32 (.bin .sub .i64 (.int .i64 0) (.conv .i64 (.bin .quo .u64 (.bin .mul .u64 (.int .u64 256) (.bin .sub .u64 (.int .u64 0) (.conv .u64 (.ivar .i64 0)))) (.int .u64 1))))) (.conv .i32 (.bin .sub .i64 (.int .i64 0) (.conv .i64 (.bin .mul .u64 (.int .u64 256) (.bin .sub .u64 (.int .u64 0) (.conv .u64 (.ivar .i64 0)))))))), true) :: (((.cmp .lss (.int .u64 2147483648) (.bin .mul .u64 (.int .u64 256) (.bin .sub .u64 (.int .u64 0) (.conv .u64 (.ivar .i64 0))))), false) :: (((.cmp .lss (.int .u64 16777216) (.bin .sub .u64 (.int .u64 0) (.conv .u64 (.ivar .i64 0)))), false) :: (((.cmp .lss (.int .u64 2147483648) (.bin .quo .u64 (.bin .mul .u64 (.int .u64 256) (.bin .sub .u64 (.int .u64 0) (.conv .u64 (.ivar .i64 0)))) (.int .u64 1))), false) :: (((.cmp .lss (.bin .add .u64 (.bin .add .u64 (.bin .mul .u64 (.int .u64 0) (.bin .shr .u64 (.bin .sub .u64 (.int .u64 0) (.conv .u64 (.ivar .i64 0))) (.int .u64 32))) (.bin .shr .u64 (.bin .add .u64 (.bin .mul .u64 (.int .u64 256) (.bin .shr .u64 (.bin .sub .u64 (.int .u64 0) (.conv .u64 (.ivar .i64 0))) (.int .u64 32))) (.bin .shr .u64 (.bin .mul .u64 (.int .u64 256) (.bin .and .u64 (.bin .sub .u64 (.int .u64 0) (.conv .u64 (.ivar .i64 0))) (.int .u64 4294967295))) (.int .u64 32))) (.int .u64 32))) (.bin .shr .u64 (.bin .add .u64 (.bin .mul .u64 (.int .u64 0) (.bin .and .u64 (.bin .sub .u64 (.int .u64 0) (.conv .u64 (.ivar .i64 0))) (.int .u64 4294967295))) (.bin .and .u64 (.bin .add .u64 (.bin .mul .u64 (.int .u64 256) (.bin .shr .u64 (.bin .sub .u64 (.int .u64 0) (.conv .u64 (.ivar .i64 0))) (.int .u64 32))) (.bin .shr .u64 (.bin .mul .u64 (.int .u64 256) (.bin .and .u64 (.bin .sub .u64 (.int .u64 0) (.conv .u64 (.ivar .i64 0))) (.int .u64 4294967295))) (.int .u64 32))) (.int .u64 4294967295))) (.int .u64 32))) (.int .u64 1)), true) :: (((.cmp .lss (.ivar .i64 0) (.int .i64 0)), true) :: []))))))), (.bool false))]
def intR6 : List (PC × SE) := [
  ((((.cmp .eql (.bin .shr .i64 (.bin .add .i64 (.int .i64 128) (.conv .i64 (.conv .i32 (.bin .sub .i64 (.int .i64 0) (.conv .i64 (.bin .quo .u64 (.bin .mul .u64 (.int .u64 256) (.bin .sub .u64 (.int .u64 0) (.conv .u64 (.ivar .i64 0)))) (.int .u64 1))))))) (.int .u64 8)) (.ivar .i64 0)), false) :: (((.cmp .eql (.conv .i64 (.bin .shr .i32 (.conv .i32 (.bin .sub .i64 (.int .i64 0) (.conv .i64 (.bin .quo .u64 (.bin .mul .u64 (.int .u64 256) (.bin .sub .u64 (.int .u64 0) (.conv .u64 (.ivar .i64 0)))) (.int .u64 1))))) (.int .u64 8))) (.ivar .i64 0)), true) :: (((.cmp .eql (.conv .i32 (.bin .sub .i64 (.int .i64 0) (.conv .i64 (.bin .quo .u64 (.bin .mul .u64 (.int .u64 256) (.bin .sub .u64 (.int .u64 0) (.conv .u64 (.ivar .i64 0)))) (.int .u64 1))))) (.conv .i32 (.bin .sub .i64 (.int .i64 0) (.conv .i64 (.bin .mul .u64 (.int .u64 256) (.bin .sub .u64 (.int .u64 0) (.conv .u64 (.ivar .i64 0)))))))), true) :: (((.cmp .lss (.int .u64 2147483648) (.bin .mul .u64 (.int .u64 256) (.bin .sub .u64 (.int .u64 0) (.conv .u64 (.ivar .i64 0))))), false) :: (((.cmp .lss (.int .u64 16777216) (.bin .sub .u64 (.int .u64 0) (.conv .u64 (.ivar .i64 0)))), false) :: (((.cmp .lss (.int .u64 2147483648) (.bin .quo .u64 (.bin .mul .u64 (.int .u64 256) (.bin .sub .u64 (.int .u64 0) (.conv .u64 (.ivar .i64 0)))) (.int .u64 1))), false) :: (((.cmp .lss (.bin .add .u64 (.bin .add .u64 (.bin .mul .u64 (.int .u64 0) (.bin .shr .u64 (.bin .sub .u64 (.int .u64 0) (.conv .u64 (.ivar .i64 0))) (.int .u64 32))) (.bin .shr .u64 (.bin .add .u64 (.bin .mul .u64 (.int .u64 256) (.bin .shr .u64 (.bin .sub .u64 (.int .u64 0) (.conv .u64 (.ivar .i64 0))) (.int .u64 32))) (.bin .shr .u64 (.bin .mul .u64 (.int .u64 256) (.bin .and .u64 (.bin .sub .u64 (.int .u64 0) (.conv .u64 (.ivar .i64 0))) (.int .u64 4294967295))) (.int .u64 32))) (.int .u64 32))) (.bin .shr .u64 (.bin .add .u64 (.bin .mul .u64 (.int .u64 0) (.bin .and .u64 (.bin .sub .u64 (.int .u64 0) (.conv .u64 (.ivar .i64 0))) (.int .u64 4294967295))) (.bin .and .u64 (.bin .add .u64 (.bin .mul .u64 (.int .u64 256) (.bin .shr .u64 (.bin .sub .u64 (.int .u64 0) (.conv .u64 (.ivar .i64 0))) (.int .u64 32))) (.bin .shr .u64 (.bin .mul .u64 (.int .u64 256) (.bin .and .u64 (.bin .sub .u64 (.int .u64 0) (.conv .u64 (.ivar .i64 0))) (.int .u64 4294967295))) (.int .u64 32))) (.int .u64 4294967295))) (.int .u64 32))) (.int .u64 1)), true) :: (((.cmp .lss (.ivar .i64 0) (.int .i64 0)), true) :: [])))))))), (.bool false))]
def intR7 : List (PC × SE) := [
  ((((.cmp .lss (.int .u64 2147483648) (.bin .mul .u64 (.int .u64 256) (.bin .sub .u64 (.int .u64 0) (.conv .u64 (.ivar .i64 0))))), false) :: (((.cmp .lss (.int .u64 16777216) (.bin .sub .u64 (.int .u64 0) (.conv .u64 (.ivar .i64 0)))), false) :: (((.cmp .lss (.int .u64 2147483648) (.bin .quo .u64 (.bin .mul .u64 (.int .u64 256) (.bin .sub .u64 (.int .u64 0) (.conv .u64 (.ivar .i64 0)))) (.int .u64 1))), true) :: (((.cmp .lss (.bin .add .u64 (.bin .add .u64 (.bin .mul .u64 (.int .u64 0) (.bin .shr .u64 (.bin .sub .u64 (.int .u64 0) (.conv .u64 (.ivar .i64 0))) (.int .u64 32))) (.bin .shr .u64 (.bin .add .u64 (.bin .mul .u64 (.int .u64 256) (.bin .shr .u64 (.bin .sub .u64 (.int .u64 0) (.conv .u64 (.ivar .i64 0))) (.int .u64 32))) (.bin .shr .u64 (.bin .mul .u64 (.int .u64 256) (.bin .and .u64 (.bin .sub .u64 (.int .u64 0) (.conv .u64 (.ivar .i64 0))) (.int .u64 4294967295))) (.int .u64 32))) (.int .u64 32))) (.bin .shr .u64 (.bin .add .u64 (.bin .mul .u64 (.int .u64 0) (.bin .and .u64 (.bin .sub .u64 (.int .u64 0) (.conv .u64 (.ivar .i64 0))) (.int .u64 4294967295))) (.bin .and .u64 (.bin .add .u64 (.bin .mul .u64 (.int .u64 256) (.bin .shr .u64 (.bin .sub .u64 (.int .u64 0) (.conv .u64 (.ivar .i64 0))) (.int .u64 32))) (.bin .shr .u64 (.bin .mul .u64 (.int .u64 256) (.bin .and .u64 (.bin .sub .u64 (.int .u64 0) (.conv .u64 (.ivar .i64 0))) (.int .u64 4294967295))) (.int .u64 32))) (.int .u64 4294967295))) (.int .u64 32))) (.int .u64 1)), true) :: (((.cmp .lss (.ivar .i64 0) (.int .i64 0)), true) :: []))))), (.bool false))]
def intR8 : List (PC × SE) := [
  ((((.cmp .eql (.int .i32 0) (.conv .i32 (.bin .mul .u64 (.conv .u64 (.ivar .i64 0)) (.int .u64 256)))), false) :: (((.cmp .lss (.int .u64 2147483647) (.bin .mul .u64 (.conv .u64 (.ivar .i64 0)) (.int .u64 256))), false) :: (((.cmp .lss (.int .u64 16777216) (.conv .u64 (.ivar .i64 0))), false) :: (((.cmp .lss (.bin .add .u64 (.bin .add .u64 (.bin .mul .u64 (.int .u64 0) (.bin .shr .u64 (.conv .u64 (.ivar .i64 0)) (.int .u64 32))) (.bin .shr .u64 (.bin .add .u64 (.bin .mul .u64 (.int .u64 256) (.bin .shr .u64 (.conv .u64 (.ivar .i64 0)) (.int .u64 32))) (.bin .shr .u64 (.bin .mul .u64 (.int .u64 256) (.bin .and .u64 (.conv .u64 (.ivar .i64 0)) (.int .u64 4294967295))) (.int .u64 32))) (.int .u64 32))) (.bin .shr .u64 (.bin .add .u64 (.bin .mul .u64 (.int .u64 0) (.bin .and .u64 (.conv .u64 (.ivar .i64 0)) (.int .u64 4294967295))) (.bin .and .u64 (.bin .add .u64 (.bin .mul .u64 (.int .u64 256) (.bin .shr .u64 (.conv .u64 (.ivar .i64 0)) (.int .u64 32))) (.bin .shr .u64 (.bin .mul .u64 (.int .u64 256) (.bin .and .u64 (.conv .u64 (.ivar .i64 0)) (.int .u64 4294967295))) (.int .u64 32))) (.int .u64 4294967295))) (.int .u64 32))) (.int .u64 1)), false) :: (((.cmp .lss (.ivar .i64 0) (.int .i64 0)), false) :: []))))), (.bool false))]
def intR9 : List (PC × SE) := [
  ((((.cmp .eql (.int .i32 0) (.conv .i32 (.bin .mul .u64 (.conv .u64 (.ivar .i64 0)) (.int .u64 256)))), true) :: (((.cmp .lss (.int .u64 2147483647) (.bin .mul .u64 (.conv .u64 (.ivar .i64 0)) (.int .u64 256))), false) :: (((.cmp .lss (.int .u64 16777216) (.conv .u64 (.ivar .i64 0))), false) :: (((.cmp .lss (.bin .add .u64 (.bin .add .u64 (.bin .mul .u64 (.int .u64 0) (.bin .shr .u64 (.conv .u64 (.ivar .i64 0)) (.int .u64 32))) (.bin .shr .u64 (.bin .add .u64 (.bin .mul .u64 (.int .u64 256) (.bin .shr .u64 (.conv .u64 (.ivar .i64 0)) (.int .u64 32))) (.bin .shr .u64 (.bin .mul .u64 (.int .u64 256) (.bin .and .u64 (.conv .u64 (.ivar .i64 0)) (.int .u64 4294967295))) (.int .u64 32))) (.int .u64 32))) (.bin .shr .u64 (.bin .add .u64 (.bin .mul .u64 (.int .u64 0) (.bin .and .u64 (.conv .u64 (.ivar .i64 0)) (.int .u64 4294967295))) (.bin .and .u64 (.bin .add .u64 (.bin .mul .u64 (.int .u64 256) (.bin .shr .u64 (.conv .u64 (.ivar .i64 0)) (.int .u64 32))) (.bin .shr .u64 (.bin .mul .u64 (.int .u64 256) (.bin .and .u64 (.conv .u64 (.ivar .i64 0)) (.int .u64 4294967295))) (.int .u64 32))) (.int .u64 4294967295))) (.int .u64 32))) (.int .u64 1)), false) :: (((.cmp .lss (.ivar .i64 0) (.int .i64 0)), false) :: []))))), (.bool false))]
def intR10 : List (PC × SE) := [
  ((((.cmp .eql (.conv .i32 (.bin .quo .u64 (.bin .mul .u64 (.conv .u64 (.ivar .i64 0)) (.int .u64 256)) (.int .u64 1))) (.int .i32 0)), false) :: (((.cmp .lss (.int .u64 16777216) (.conv .u64 (.ivar .i64 0))), true) :: (((.cmp .lss (.int .u64 2147483647) (.bin .quo .u64 (.bin .mul .u64 (.conv .u64 (.ivar .i64 0)) (.int .u64 256)) (.int .u64 1))), false) :: (((.cmp .lss (.bin .add .u64 (.bin .add .u64 (.bin .mul .u64 (.int .u64 0) (.bin .shr .u64 (.conv .u64 (.ivar .i64 0)) (.int .u64 32))) (.bin .shr .u64 (.bin .add .u64 (.bin .mul .u64 (.int .u64 256) (.bin .shr .u64 (.conv .u64 (.ivar .i64 0)) (.int .u64 32))) (.bin .shr .u64 (.bin .mul .u64 (.int .u64 256) (.bin .and .u64 (.conv .u64 (.ivar .i64 0)) (.int .u64 4294967295))) (.int .u64 32))) (.int .u64 32))) (.bin .shr .u64 (.bin .add .u64 (.bin .mul .u64 (.int .u64 0) (.bin .and .u64 (.conv .u64 (.ivar .i64 0)) (.int .u64 4294967295))) (.bin .and .u64 (.bin .add .u64 (.bin .mul .u64 (.int .u64 256) (.bin .shr .u64 (.conv .u64 (.ivar .i64 0)) (.int .u64 32))) (.bin .shr .u64 (.bin .mul .u64 (.int .u64 256) (.bin .and .u64 (.conv .u64 (.ivar .i64 0)) (.int .u64 4294967295))) (.int .u64 32))) (.int .u64 4294967295))) (.int .u64 32))) (.int .u64 1)), true) :: (((.cmp .lss (.ivar .i64 0) (.int .i64 0)), false) :: []))))), (.bool false))]
def intR11 : List (PC × SE) := [
  ((((.cmp .eql (.conv .i32 (.bin .quo .u64 (.bin .mul .u64 (.conv .u64 (.ivar .i64 0)) (.int .u64 256)) (.int .u64 1))) (.int .i32 0)), true) :: (((.cmp .lss (.int .u64 16777216) (.conv .u64 (.ivar .i64 0))), true) :: (((.cmp .lss (.int .u64 2147483647) (.bin .quo .u64 (.bin .mul .u64 (.conv .u64 (.ivar .i64 0)) (.int .u64 256)) (.int .u64 1))), false) :: (((.cmp .lss (.bin .add .u64 (.bin .add .u64 (.bin .mul .u64 (.int .u64 0) (.bin .shr .u64 (.conv .u64 (.ivar .i64 0)) (.int .u64 32))) (.bin .shr .u64 (.bin .add .u64 (.bin .mul .u64 (.int .u64 256) (.bin .shr .u64 (.conv .u64 (.ivar .i64 0)) (.int .u64 32))) (.bin .shr .u64 (.bin .mul .u64 (.int .u64 256) (.bin .and .u64 (.conv .u64 (.ivar .i64 0)) (.int .u64 4294967295))) (.int .u64 32))) (.int .u64 32))) (.bin .shr .u64 (.bin .add .u64 (.bin .mul .u64 (.int .u64 0) (.bin .and .u64 (.conv .u64 (.ivar .i64 0)) (.int .u64 4294967295))) (.bin .and .u64 (.bin .add .u64 (.bin .mul .u64 (.int .u64 256) (.bin .shr .u64 (.conv .u64 (.ivar .i64 0)) (.int .u64 32))) (.bin .shr .u64 (.bin .mul .u64 (.int .u64 256) (.bin .and .u64 (.conv .u64 (.ivar .i64 0)) (.int .u64 4294967295))) (.int .u64 32))) (.int .u64 4294967295))) (.int .u64 32))) (.int .u64 1)), true) :: (((.cmp .lss (.ivar .i64 0) (.int .i64 0)), false) :: []))))), (.bool false))]
def intR12 : List (PC × SE) := [
  ((((.cmp .lss (.int .u64 2147483647) (.bin .mul .u64 (.conv .u64 (.ivar .i64 0)) (.int .u64 256))), true) :: (((.cmp .lss (.int .u64 16777216) (.conv .u64 (.ivar .i64 0))), false) :: (((.cmp .lss (.int .u64 2147483647) (.bin .quo .u64 (.bin .mul .u64 (.conv .u64 (.ivar .i64 0)) (.int .u64 256)) (.int .u64 1))), false) :: (((.cmp .lss (.bin .add .u64 (.bin .add .u64 (.bin .mul .u64 (.int .u64 0) (.bin .shr .u64 (.conv .u64 (.ivar .i64 0)) (.int .u64 32))) (.bin .shr .u64 (.bin .add .u64 (.bin .mul .u64 (.int .u64 256) (.bin .shr .u64 (.conv .u64 (.ivar .i64 0)) (.int .u64 32))) (.bin .shr .u64 (.bin .mul .u64 (.int .u64 256) (.bin .and .u64 (.conv .u64 (.ivar .i64 0)) (.int .u64 4294967295))) (.int .u64 32))) (.int .u64 32))) (.bin .shr .u64 (.bin .add .u64 (.bin .mul .u64 (.int .u64 0) (.bin .and .u64 (.conv .u64 (.ivar .i64 0)) (.int .u64 4294967295))) (.bin .and .u64 (.bin .add .u64 (.bin .mul .u64 (.int .u64 256) (.bin .shr .u64 (.conv .u64 (.ivar .i64 0)) (.int .u64 32))) (.bin .shr .u64 (.bin .mul .u64 (.int .u64 256) (.bin .and .u64 (.conv .u64 (.ivar .i64 0)) (.int .u64 4294967295))) (.int .u64 32))) (.int .u64 4294967295))) (.int .u64 32))) (.int .u64 1)), true) :: (((.cmp .lss (.ivar .i64 0) (.int .i64 0)), false) :: []))))), (.bool false))]
def intR13 : List (PC × SE) := [
  ((((.cmp .eql (.conv .i32 (.bin .quo .u64 (.bin .mul .u64 (.conv .u64 (.ivar .i64 0)) (.int .u64 256)) (.int .u64 1))) (.conv .i32 (.bin .mul .u64 (.conv .u64 (.ivar .i64 0)) (.int .u64 256)))), false) :: (((.cmp .lss (.int .u64 2147483647) (.bin .mul .u64 (.conv .u64 (.ivar .i64 0)) (.int .u64 256))), false) :: (((.cmp .lss (.int .u64 16777216) (.conv .u64 (.ivar .i64 0))), false) :: (((.cmp .lss (.int .u64 2147483647) (.bin .quo .u64 (.bin .mul .u64 (.conv .u64 (.ivar .i64 0)) (.int .u64 256)) (.int .u64 1))), false) :: (((.cmp .lss (.bin .add .u64 (.bin .add .u64 (.bin .mul .u64 (.int .u64 0) (.bin .shr .u64 (.conv .u64 (.ivar .i64 0)) (.int .u64 32))) (.bin .shr .u64 (.bin .add .u64 (.bin .mul .u64 (.int .u64 256) (.bin .shr .u64 (.conv .u64 (.ivar .i64 0)) (.int .u64 32))) (.bin .shr .u64 (.bin .mul .u64 (.int .u64 256) (.bin .and .u64 (.conv .u64 (.ivar .i64 0)) (.int .u64 4294967295))) (.int .u64 32))) (.int .u64 32))) (.bin .shr .u64 (.bin .add .u64 (.bin .mul .u64 (.int .u64 0) (.bin .and .u64 (.conv .u64 (.ivar .i64 0)) (.int .u64 4294967295))) (.bin .and .u64 (.bin .add .u64 (.bin .mul .u64 (.int .u64 256) (.bin .shr .u64 (.conv .u64 (.ivar .i64 0)) (.int .u64 32))) (.bin .shr .u64 (.bin .mul .u64 (.int .u64 256) (.bin .and .u64 (.conv .u64 (.ivar .i64 0)) (.int .u64 4294967295))) (.int .u64 32))) (.int .u64 4294967295))) (.int .u64 32))) (.int .u64 1)), true) :: (((.cmp .lss (.ivar .i64 0) (.int .i64 0)), false) :: [])))))), (.bool false))]
def intR14 : List (PC × SE) := [
  ((((.cmp .eql (.conv .i64 (.bin .shr .i32 (.conv .i32 (.bin .quo .u64 (.bin .mul .u64 (.conv .u64 (.ivar .i64 0)) (.int .u64 256)) (.int .u64 1))) (.int .u64 8))) (.ivar .i64 0)), false) :: (((.cmp .eql (.conv .i32 (.bin .quo .u64 (.bin .mul .u64 (.conv .u64 (.ivar .i64 0)) (.int .u64 256)) (.int .u64 1))) (.conv .i32 (.bin .mul .u64 (.conv .u64 (.ivar .i64 0)) (.int .u64 256)))), true) :: (((.cmp .lss (.int .u64 2147483647) (.bin .mul .u64 (.conv .u64 (.ivar .i64 0)) (.int .u64 256))), false) :: (((.cmp .lss (.int .u64 16777216) (.conv .u64 (.ivar .i64 0))), false) :: (((.cmp .lss (.int .u64 2147483647) (.bin .quo .u64 (.bin .mul .u64 (.conv .u64 (.ivar .i64 0)) (.int .u64 256)) (.int .u64 1))), false) :: (((.cmp .lss (.bin .add .u64 (.bin .add .u64 (.bin .mul .u64 (.int .u64 0) (.bin .shr .u64 (.conv .u64 (.ivar .i64 0)) (.int .u64 32))) (.bin .shr .u64 (.bin .add .u64 (.bin .mul .u64 (.int .u64 256) (.bin .shr .u64 (.conv .u64 (.ivar .i64 0)) (.int .u64 32))) (.bin .shr .u64 (.bin .mul .u64 (.int .u64 256) (.bin .and .u64 (.conv .u64 (.ivar .i64 0)) (.int .u64 4294967295))) (.int .u64 32))) (.int .u64 32))) (.bin .shr .u64 (.bin .add .u64 (.bin .mul .u64 (.int .u64 0) (.bin .and .u64 (.conv .u64 (.ivar .i64 0)) (.int .u64 4294967295))) (.bin .and .u64 (.bin .add .u64 (.bin .mul .u64 (.int .u64 256) (.bin .shr .u64 (.conv .u64 (.ivar .i64 0)) (.int .u64 32))) (.bin .shr .u64 (.bin .mul .u64 (.int .u64 256) (.bin .and .u64 (.conv .u64 (.ivar .i64 0)) (.int .u64 4294967295))) (.int .u64 32))) (.int .u64 4294967295))) (.int .u64 32))) (.int .u64 1)), true) :: (((.cmp .lss (.ivar .i64 0) (.int .i64 0)), false) :: []))))))), (.bool false))]
def intR15 : List (PC × SE) := [
  ((((.cmp .eql (.bin .shr .i64 (.bin .add .i64 (.int .i64 128) (.conv .i64 (.conv .i32 (.bin .quo .u64 (.bin .mul .u64 (.conv .u64 (.ivar .i64 0)) (.int .u64 256)) (.int .u64 1))))) (.int .u64 8)) (.ivar .i64 0)), false) :: (((.cmp .eql (.conv .i64 (.bin .shr .i32 (.conv .i32 (.bin .quo .u64 (.bin .mul .u64 (.conv .u64 (.ivar .i64 0)) (.int .u64 256)) (.int .u64 1))) (.int .u64 8))) (.ivar .i64 0)), true) :: (((.cmp .eql (.conv .i32 (.bin .quo .u64 (.bin .mul .u64 (.conv .u64 (.ivar .i64 0)) (.int .u64 256)) (.int .u64 1))) (.conv .i32 (.bin .mul .u64 (.conv .u64 (.ivar .i64 0)) (.int .u64 256)))), true) :: (((.cmp .lss (.int .u64 2147483647) (.bin .mul .u64 (.conv .u64 (.ivar .i64 0)) (.int .u64 256))), false) :: (((.cmp .lss (.int .u64 16777216) (.conv .u64 (.ivar .i64 0))), false) :: (((.cmp .lss (.int .u64 2147483647) (.bin .quo .u64 (.bin .mul .u64 (.conv .u64 (.ivar .i64 0)) (.int .u64 256)) (.int .u64 1))), false) :: (((.cmp .lss (.bin .add .u64 (.bin .add .u64 (.bin .mul .u64 (.int .u64 0) (.bin .shr .u64 (.conv .u64 (.ivar .i64 0)) (.int .u64 32))) (.bin .shr .u64 (.bin .add .u64 (.bin .mul .u64 (.int .u64 256) (.bin .shr .u64 (.conv .u64 (.ivar .i64 0)) (.int .u64 32))) (.bin .shr .u64 (.bin .mul .u64 (.int .u64 256) (.bin .and .u64 (.conv .u64 (.ivar .i64 0)) (.int .u64 4294967295))) (.int .u64 32))) (.int .u64 32))) (.bin .shr .u64 (.bin .add .u64 (.bin .mul .u64 (.int .u64 0) (.bin .and .u64 (.conv .u64 (.ivar .i64 0)) (.int .u64 4294967295))) (.bin .and .u64 (.bin .add .u64 (.bin .mul .u64 (.int .u64 256) (.bin .shr .u64 (.conv .u64 (.ivar .i64 0)) (.int .u64 32))) (.bin .shr .u64 (.bin .mul .u64 (.int .u64 256) (.bin .and .u64 (.conv .u64 (.ivar .i64 0)) (.int .u64 4294967295))) (.int .u64 32))) (.int .u64 4294967295))) (.int .u64 32))) (.int .u64 1)), true) :: (((.cmp .lss (.ivar .i64 0) (.int .i64 0)), false) :: [])))))))), (.bool false))]
def intR16 : List (PC × SE) := [
  ((((.cmp .eql (.int .i32 0) (.conv .i32 (.bin .mul .u64 (.conv .u64 (.ivar .i64 0)) (.int .u64 256)))), false) :: (((.cmp .lss (.int .u64 2147483647) (.bin .mul .u64 (.conv .u64 (.ivar .i64 0)) (.int .u64 256))), false) :: (((.cmp .lss (.int .u64 16777216) (.conv .u64 (.ivar .i64 0))), false) :: (((.cmp .lss (.int .u64 2147483647) (.bin .quo .u64 (.bin .mul .u64 (.conv .u64 (.ivar .i64 0)) (.int .u64 256)) (.int .u64 1))), true) :: (((.cmp .lss (.bin .add .u64 (.bin .add .u64 (.bin .mul .u64 (.int .u64 0) (.bin .shr .u64 (.conv .u64 (.ivar .i64 0)) (.int .u64 32))) (.bin .shr .u64 (.bin .add .u64 (.bin .mul .u64 (.int .u64 256) (.bin .shr .u64 (.conv .u64 (.ivar .i64 0)) (.int .u64 32))) (.bin .shr .u64 (.bin .mul .u64 (.int .u64 256) (.bin .and .u64 (.conv .u64 (.ivar .i64 0)) (.int .u64 4294967295))) (.int .u64 32))) (.int .u64 32))) (.bin .shr .u64 (.bin .add .u64 (.bin .mul .u64 (.int .u64 0) (.bin .and .u64 (.conv .u64 (.ivar .i64 0)) (.int .u64 4294967295))) (.bin .and .u64 (.bin .add .u64 (.bin .mul .u64 (.int .u64 256) (.bin .shr .u64 (.conv .u64 (.ivar .i64 0)) (.int .u64 32))) (.bin .shr .u64 (.bin .mul .u64 (.int .u64 256) (.bin .and .u64 (.conv .u64 (.ivar .i64 0)) (.int .u64 4294967295))) (.int .u64 32))) (.int .u64 4294967295))) (.int .u64 32))) (.int .u64 1)), true) :: (((.cmp .lss (.ivar .i64 0) (.int .i64 0)), false) :: [])))))), (.bool false))]
def intR17 : List (PC × SE) := [
  ((((.cmp .eql (.int .i32 0) (.conv .i32 (.bin .mul .u64 (.conv .u64 (.ivar .i64 0)) (.int .u64 256)))), true) :: (((.cmp .lss (.int .u64 2147483647) (.bin .mul .u64 (.conv .u64 (.ivar .i64 0)) (.int .u64 256))), false) :: (((.cmp .lss (.int .u64 16777216) (.conv .u64 (.ivar .i64 0))), false) :: (((.cmp .lss (.int .u64 2147483647) (.bin .quo .u64 (.bin .mul .u64 (.conv .u64 (.ivar .i64 0)) (.int .u64 256)) (.int .u64 1))), true) :: (((.cmp .lss (.bin .add .u64 (.bin .add .u64 (.bin .mul .u64 (.int .u64 0) (.bin .shr .u64 (.conv .u64 (.ivar .i64 0)) (.int .u64 32))) (.bin .shr .u64 (.bin .add .u64 (.bin .mul .u64 (.int .u64 256) (.bin .shr .u64 (.conv .u64 (.ivar .i64 0)) (.int .u64 32))) (.bin .shr .u64 (.bin .mul .u64 (.int .u64 256) (.bin .and .u64 (.conv .u64 (.ivar .i64 0)) (.int .u64 4294967295))) (.int .u64 32))) (.int .u64 32))) (.bin .shr .u64 (.bin .add .u64 (.bin .mul .u64 (.int .u64 0) (.bin .and .u64 (.conv .u64 (.ivar .i64 0)) (.int .u64 4294967295))) (.bin .and .u64 (.bin .add .u64 (.bin .mul .u64 (.int .u64 256) (.bin .shr .u64 (.conv .u64 (.ivar .i64 0)) (.int .u64 32))) (.bin .shr .u64 (.bin .mul .u64 (.int .u64 256) (.bin .and .u64 (.conv .u64 (.ivar .i64 0)) (.int .u64 4294967295))) (.int .u64 32))) (.int .u64 4294967295))) (.int .u64 32))) (.int .u64 1)), true) :: (((.cmp .lss (.ivar .i64 0) (.int .i64 0)), false) :: [])))))), (.bool false))]
def intR : List (PC × SE) := intR0 ++ (intR1 ++ (intR2 ++ (intR3 ++ (intR4 ++ (intR5 ++ (intR6 ++ (intR7 ++ (intR8 ++ (intR9 ++ (intR10 ++ (intR11 ++ (intR12 ++ (intR13 ++ (intR14 ++ (intR15 ++ (intR16 ++ (intR17)))))))))))))))))
theorem int_rest (ρ : Nat → Value) : restOf (callF kn Tryd.prog (tb.at ρ) 300 300 [] 5 [.sym (.int .i64) (.ivar .i64 0)] H0) = some intR := by kernel_rfl
theorem int_true0 (ρ : Nat → Value) : ∀ q, q ∈ intR0 → q.1.holds ρ → q.2.truth ρ = true := by
  have hb := v_bounds ρ .i64 0
  simp only [IntKind.min, IntKind.max, IntKind.bits, IntKind.signed] at hb
  simp only [intR0, all_cons, all_nil, h_cons, h_nil, t_eql, t_lss, t_bool, t_and, t_not, n_int, n_add, n_sub, n_mul, n_conv, n_shr, n_and, n_quo, n_rem, m_32, w_u64, w_i64, w_i32]
  generalize (SE.ivar .i64 0).num ρ = x at hb ⊢
  simp at hb
  by_cases hx : x < 0
  · have e1 : (0 - x % 18446744073709551616) % 18446744073709551616 = -x := by omega
    have e2 := hi_of (-x) (by omega) (by omega)
    try simp only [e1]
    simp [IntKind.bits]
    try simp only [e2]
    try clear e1 e2
    try first | (intros; exact hx) | (intros; exact Int.not_lt.1 hx) | (intros; omega)
  · have e1 : x % 18446744073709551616 = x := by omega
    have e2 := hi_of x (by omega) (by omega)
    try simp only [e1]
    simp [IntKind.bits]
    try simp only [e2]
    try clear e1 e2
    try first | (intros; exact hx) | (intros; exact Int.not_lt.1 hx) | (intros; omega)
theorem int_true1 (ρ : Nat → Value) : ∀ q, q ∈ intR1 → q.1.holds ρ → q.2.truth ρ = true := by
  have hb := v_bounds ρ .i64 0
  simp only [IntKind.min, IntKind.max, IntKind.bits, IntKind.signed] at hb
  simp only [intR1, all_cons, all_nil, h_cons, h_nil, t_eql, t_lss, t_bool, t_and, t_not, n_int, n_add, n_sub, n_mul, n_conv, n_shr, n_and, n_quo, n_rem, m_32, w_u64, w_i64, w_i32]
  generalize (SE.ivar .i64 0).num ρ = x at hb ⊢
  simp at hb
  by_cases hx : x < 0
  · have e1 : (0 - x % 18446744073709551616) % 18446744073709551616 = -x := by omega
    have e2 := hi_of (-x) (by omega) (by omega)
    try simp only [e1]
    simp [IntKind.bits]
    try simp only [e2]
    try clear e1 e2
    try first | (intros; exact hx) | (intros; exact Int.not_lt.1 hx) | (intros; omega)
  · have e1 : x % 18446744073709551616 = x := by omega
    have e2 := hi_of x (by omega) (by omega)
    try simp only [e1]
    simp [IntKind.bits]
    try simp only [e2]
    try clear e1 e2
    try first | (intros; exact hx) | (intros; exact Int.not_lt.1 hx) | (intros; omega)
theorem int_true2 (ρ : Nat → Value) : ∀ q, q ∈ intR2 → q.1.holds ρ → q.2.truth ρ = true := by
  have hb := v_bounds ρ .i64 0
  simp only [IntKind.min, IntKind.max, IntKind.bits, IntKind.signed] at hb
  simp only [intR2, all_cons, all_nil, h_cons, h_nil, t_eql, t_lss, t_bool, t_and, t_not, n_int, n_add, n_sub, n_mul, n_conv, n_shr, n_and, n_quo, n_rem, m_32, w_u64, w_i64, w_i32]
  generalize (SE.ivar .i64 0).num ρ = x at hb ⊢
  simp at hb
  by_cases hx : x < 0
  · have e1 : (0 - x % 18446744073709551616) % 18446744073709551616 = -x := by omega
    have e2 := hi_of (-x) (by omega) (by omega)
    try simp only [e1]
    simp [IntKind.bits]
    try simp only [e2]
    try clear e1 e2
    try first | (intros; exact hx) | (intros; exact Int.not_lt.1 hx) | (intros; omega)
  · have e1 : x % 18446744073709551616 = x := by omega
    have e2 := hi_of x (by omega) (by omega)
    try simp only [e1]
    simp [IntKind.bits]
    try simp only [e2]
    try clear e1 e2
    try first | (intros; exact hx) | (intros; exact Int.not_lt.1 hx) | (intros; omega)
theorem int_true3 (ρ : Nat → Value) : ∀ q, q ∈ intR3 → q.1.holds ρ → q.2.truth ρ = true := by
  have hb := v_bounds ρ .i64 0
  simp only [IntKind.min, IntKind.max, IntKind.bits, IntKind.signed] at hb
  simp only [intR3, all_cons, all_nil, h_cons, h_nil, t_eql, t_lss, t_bool, t_and, t_not, n_int, n_add, n_sub, n_mul, n_conv, n_shr, n_and, n_quo, n_rem, m_32, w_u64, w_i64, w_i32]
  generalize (SE.ivar .i64 0).num ρ = x at hb ⊢
  simp at hb
  by_cases hx : x < 0
  · have e1 : (0 - x % 18446744073709551616) % 18446744073709551616 = -x := by omega
    have e2 := hi_of (-x) (by omega) (by omega)
    try simp only [e1]
    simp [IntKind.bits]
    try simp only [e2]
    try clear e1 e2
    try first | (intros; exact hx) | (intros; exact Int.not_lt.1 hx) | (intros; omega)
  · have e1 : x % 18446744073709551616 = x := by omega
    have e2 := hi_of x (by omega) (by omega)
    try simp only [e1]
    simp [IntKind.bits]
    try simp only [e2]
    try clear e1 e2
    try first | (intros; exact hx) | (intros; exact Int.not_lt.1 hx) | (intros; omega)
theorem int_true4 (ρ : Nat → Value) : ∀ q, q ∈ intR4 → q.1.holds ρ → q.2.truth ρ = true := by
  have hb := v_bounds ρ .i64 0
  simp only [IntKind.min, IntKind.max, IntKind.bits, IntKind.signed] at hb
  simp only [intR4, all_cons, all_nil, h_cons, h_nil, t_eql, t_lss, t_bool, t_and, t_not, n_int, n_add, n_sub, n_mul, n_conv, n_shr, n_and, n_quo, n_rem, m_32, w_u64, w_i64, w_i32]
  generalize (SE.ivar .i64 0).num ρ = x at hb ⊢
  simp at hb
  by_cases hx : x < 0
  · have e1 : (0 - x % 18446744073709551616) % 18446744073709551616 = -x := by omega
    have e2 := hi_of (-x) (by omega) (by omega)
    try simp only [e1]
    simp [IntKind.bits]
    try simp only [e2]
    try clear e1 e2
    try first | (intros; exact hx) | (intros; exact Int.not_lt.1 hx) | (intros; omega)
  · have e1 : x % 18446744073709551616 = x := by omega
    have e2 := hi_of x (by omega) (by omega)
    try simp only [e1]
    simp [IntKind.bits]
    try simp only [e2]
    try clear e1 e2
    try first | (intros; exact hx) | (intros; exact Int.not_lt.1 hx) | (intros; omega)
theorem int_true5 (ρ : Nat → Value) : ∀ q, q ∈ intR5 → q.1.holds ρ → q.2.truth ρ = true := by
  have hb := v_bounds ρ .i64 0
  simp only [IntKind.min, IntKind.max, IntKind.bits, IntKind.signed] at hb
  simp only [intR5, all_cons, all_nil, h_cons, h_nil, t_eql, t_lss, t_bool, t_and, t_not, n_int, n_add, n_sub, n_mul, n_conv, n_shr, n_and, n_quo, n_rem, m_32, w_u64, w_i64, w_i32]
  generalize (SE.ivar .i64 0).num ρ = x at hb ⊢
  simp at hb
  by_cases hx : x < 0
  · have e1 : (0 - x % 18446744073709551616) % 18446744073709551616 = -x := by omega
    have e2 := hi_of (-x) (by omega) (by omega)
    try simp only [e1]
    simp [IntKind.bits]
    try simp only [e2]
    try clear e1 e2
    try first | (intros; exact hx) | (intros; exact Int.not_lt.1 hx) | (intros; omega)
  · have e1 : x % 18446744073709551616 = x := by omega
    have e2 := hi_of x (by omega) (by omega)
    try simp only [e1]
    simp [IntKind.bits]
    try simp only [e2]
    try clear e1 e2
    try first | (intros; exact hx) | (intros; exact Int.not_lt.1 hx) | (intros; omega)
theorem int_true6 (ρ : Nat → Value) : ∀ q, q ∈ intR6 → q.1.holds ρ → q.2.truth ρ = true := by
  have hb := v_bounds ρ .i64 0
  simp only [IntKind.min, IntKind.max, IntKind.bits, IntKind.signed] at hb
  simp only [intR6, all_cons, all_nil, h_cons, h_nil, t_eql, t_lss, t_bool, t_and, t_not, n_int, n_add, n_sub, n_mul, n_conv, n_shr, n_and, n_quo, n_rem, m_32, w_u64, w_i64, w_i32]
  generalize (SE.ivar .i64 0).num ρ = x at hb ⊢
  simp at hb
  by_cases hx : x < 0
  · have e1 : (0 - x % 18446744073709551616) % 18446744073709551616 = -x := by omega
    have e2 := hi_of (-x) (by omega) (by omega)
    try simp only [e1]
    simp [IntKind.bits]
    try simp only [e2]
    try clear e1 e2
    try first | (intros; exact hx) | (intros; exact Int.not_lt.1 hx) | (intros; omega)
  · have e1 : x % 18446744073709551616 = x := by omega
    have e2 := hi_of x (by omega) (by omega)
    try simp only [e1]
    simp [IntKind.bits]
    try simp only [e2]
    try clear e1 e2
    try first | (intros; exact hx) | (intros; exact Int.not_lt.1 hx) | (intros; omega)
theorem int_true7 (ρ : Nat → Value) : ∀ q, q ∈ intR7 → q.1.holds ρ → q.2.truth ρ = true := by
  have hb := v_bounds ρ .i64 0
  simp only [IntKind.min, IntKind.max, IntKind.bits, IntKind.signed] at hb
  simp only [intR7, all_cons, all_nil, h_cons, h_nil, t_eql, t_lss, t_bool, t_and, t_not, n_int, n_add, n_sub, n_mul, n_conv, n_shr, n_and, n_quo, n_rem, m_32, w_u64, w_i64, w_i32]
  generalize (SE.ivar .i64 0).num ρ = x at hb ⊢
  simp at hb
  by_cases hx : x < 0
  · have e1 : (0 - x % 18446744073709551616) % 18446744073709551616 = -x := by omega
    have e2 := hi_of (-x) (by omega) (by omega)
    try simp only [e1]
    simp [IntKind.bits]
    try simp only [e2]
    try clear e1 e2
    try first | (intros; exact hx) | (intros; exact Int.not_lt.1 hx) | (intros; omega)
  · have e1 : x % 18446744073709551616 = x := by omega
    have e2 := hi_of x (by omega) (by omega)
    try simp only [e1]
    simp [IntKind.bits]
    try simp only [e2]
    try clear e1 e2
    try first | (intros; exact hx) | (intros; exact Int.not_lt.1 hx) | (intros; omega)
theorem int_true8 (ρ : Nat → Value) : ∀ q, q ∈ intR8 → q.1.holds ρ → q.2.truth ρ = true := by
  have hb := v_bounds ρ .i64 0
  simp only [IntKind.min, IntKind.max, IntKind.bits, IntKind.signed] at hb
  simp only [intR8, all_cons, all_nil, h_cons, h_nil, t_eql, t_lss, t_bool, t_and, t_not, n_int, n_add, n_sub, n_mul, n_conv, n_shr, n_and, n_quo, n_rem, m_32, w_u64, w_i64, w_i32]
  generalize (SE.ivar .i64 0).num ρ = x at hb ⊢
  simp at hb
  by_cases hx : x < 0
  · have e1 : (0 - x % 18446744073709551616) % 18446744073709551616 = -x := by omega
    have e2 := hi_of (-x) (by omega) (by omega)
    try simp only [e1]
    simp [IntKind.bits]
    try simp only [e2]
    try clear e1 e2
    try first | (intros; exact hx) | (intros; exact Int.not_lt.1 hx) | (intros; omega)
  · have e1 : x % 18446744073709551616 = x := by omega
    have e2 := hi_of x (by omega) (by omega)
    try simp only [e1]
    simp [IntKind.bits]
    try simp only [e2]
    try clear e1 e2
    try first | (intros; exact hx) | (intros; exact Int.not_lt.1 hx) | (intros; omega)
theorem int_true9 (ρ : Nat → Value) : ∀ q, q ∈ intR9 → q.1.holds ρ → q.2.truth ρ = true := by
  have hb := v_bounds ρ .i64 0
  simp only [IntKind.min, IntKind.max, IntKind.bits, IntKind.signed] at hb
  simp only [intR9, all_cons, all_nil, h_cons, h_nil, t_eql, t_lss, t_bool, t_and, t_not, n_int, n_add, n_sub, n_mul, n_conv, n_shr, n_and, n_quo, n_rem, m_32, w_u64, w_i64, w_i32]
  generalize (SE.ivar .i64 0).num ρ = x at hb ⊢
  simp at hb
  by_cases hx : x < 0
  · have e1 : (0 - x % 18446744073709551616) % 18446744073709551616 = -x := by omega
    have e2 := hi_of (-x) (by omega) (by omega)
    try simp only [e1]
    simp [IntKind.bits]
    try simp only [e2]
    try clear e1 e2
    try first | (intros; exact hx) | (intros; exact Int.not_lt.1 hx) | (intros; omega)
  · have e1 : x % 18446744073709551616 = x := by omega
    have e2 := hi_of x (by omega) (by omega)
    try simp only [e1]
    simp [IntKind.bits]
    try simp only [e2]
    try clear e1 e2
    try first | (intros; exact hx) | (intros; exact Int.not_lt.1 hx) | (intros; omega)
theorem int_true10 (ρ : Nat → Value) : ∀ q, q ∈ intR10 → q.1.holds ρ → q.2.truth ρ = true := by
  have hb := v_bounds ρ .i64 0
  simp only [IntKind.min, IntKind.max, IntKind.bits, IntKind.signed] at hb
  simp only [intR10, all_cons, all_nil, h_cons, h_nil, t_eql, t_lss, t_bool, t_and, t_not, n_int, n_add, n_sub, n_mul, n_conv, n_shr, n_and, n_quo, n_rem, m_32, w_u64, w_i64, w_i32]
  generalize (SE.ivar .i64 0).num ρ = x at hb ⊢
  simp at hb
  by_cases hx : x < 0
  · have e1 : (0 - x % 18446744073709551616) % 18446744073709551616 = -x := by omega
    have e2 := hi_of (-x) (by omega) (by omega)
    try simp only [e1]
    simp [IntKind.bits]
    try simp only [e2]
    try clear e1 e2
    try first | (intros; exact hx) | (intros; exact Int.not_lt.1 hx) | (intros; omega)
  · have e1 : x % 18446744073709551616 = x := by omega
    have e2 := hi_of x (by omega) (by omega)
    try simp only [e1]
    simp [IntKind.bits]
    try simp only [e2]
    try clear e1 e2
    try first | (intros; exact hx) | (intros; exact Int.not_lt.1 hx) | (intros; omega)
theorem int_true11 (ρ : Nat → Value) : ∀ q, q ∈ intR11 → q.1.holds ρ → q.2.truth ρ = true := by
  have hb := v_bounds ρ .i64 0
  simp only [IntKind.min, IntKind.max, IntKind.bits, IntKind.signed] at hb
  simp only [intR11, all_cons, all_nil, h_cons, h_nil, t_eql, t_lss, t_bool, t_and, t_not, n_int, n_add, n_sub, n_mul, n_conv, n_shr, n_and, n_quo, n_rem, m_32, w_u64, w_i64, w_i32]
  generalize (SE.ivar .i64 0).num ρ = x at hb ⊢
  simp at hb
  by_cases hx : x < 0
  · have e1 : (0 - x % 18446744073709551616) % 18446744073709551616 = -x := by omega
    have e2 := hi_of (-x) (by omega) (by omega)
    try simp only [e1]
    simp [IntKind.bits]
    try simp only [e2]
    try clear e1 e2
    try first | (intros; exact hx) | (intros; exact Int.not_lt.1 hx) | (intros; omega)
  · have e1 : x % 18446744073709551616 = x := by omega
    have e2 := hi_of x (by omega) (by omega)
    try simp only [e1]
    simp [IntKind.bits]
    try simp only [e2]
    try clear e1 e2
    try first | (intros; exact hx) | (intros; exact Int.not_lt.1 hx) | (intros; omega)
theorem int_true12 (ρ : Nat → Value) : ∀ q, q ∈ intR12 → q.1.holds ρ → q.2.truth ρ = true := by
  have hb := v_bounds ρ .i64 0
  simp only [IntKind.min, IntKind.max, IntKind.bits, IntKind.signed] at hb
  simp only [intR12, all_cons, all_nil, h_cons, h_nil, t_eql, t_lss, t_bool, t_and, t_not, n_int, n_add, n_sub, n_mul, n_conv, n_shr, n_and, n_quo, n_rem, m_32, w_u64, w_i64, w_i32]
  generalize (SE.ivar .i64 0).num ρ = x at hb ⊢
  simp at hb
  by_cases hx : x < 0
  · have e1 : (0 - x % 18446744073709551616) % 18446744073709551616 = -x := by omega
    have e2 := hi_of (-x) (by omega) (by omega)
    try simp only [e1]
    simp [IntKind.bits]
    try simp only [e2]
    try clear e1 e2
    try first | (intros; exact hx) | (intros; exact Int.not_lt.1 hx) | (intros; omega)
  · have e1 : x % 18446744073709551616 = x := by omega
    have e2 := hi_of x (by omega) (by omega)
    try simp only [e1]
    simp [IntKind.bits]
    try simp only [e2]
    try clear e1 e2
    try first | (intros; exact hx) | (intros; exact Int.not_lt.1 hx) | (intros; omega)
theorem int_true13 (ρ : Nat → Value) : ∀ q, q ∈ intR13 → q.1.holds ρ → q.2.truth ρ = true := by
  have hb := v_bounds ρ .i64 0
  simp only [IntKind.min, IntKind.max, IntKind.bits, IntKind.signed] at hb
  simp only [intR13, all_cons, all_nil, h_cons, h_nil, t_eql, t_lss, t_bool, t_and, t_not, n_int, n_add, n_sub, n_mul, n_conv, n_shr, n_and, n_quo, n_rem, m_32, w_u64, w_i64, w_i32]
  generalize (SE.ivar .i64 0).num ρ = x at hb ⊢
  simp at hb
  by_cases hx : x < 0
  · have e1 : (0 - x % 18446744073709551616) % 18446744073709551616 = -x := by omega
    have e2 := hi_of (-x) (by omega) (by omega)
    try simp only [e1]
    simp [IntKind.bits]
    try simp only [e2]
    try clear e1 e2
    try first | (intros; exact hx) | (intros; exact Int.not_lt.1 hx) | (intros; omega)
  · have e1 : x % 18446744073709551616 = x := by omega
    have e2 := hi_of x (by omega) (by omega)
    try simp only [e1]
    simp [IntKind.bits]
    try simp only [e2]
    try clear e1 e2
    try first | (intros; exact hx) | (intros; exact Int.not_lt.1 hx) | (intros; omega)
theorem int_true14 (ρ : Nat → Value) : ∀ q, q ∈ intR14 → q.1.holds ρ → q.2.truth ρ = true := by
  have hb := v_bounds ρ .i64 0
  simp only [IntKind.min, IntKind.max, IntKind.bits, IntKind.signed] at hb
  simp only [intR14, all_cons, all_nil, h_cons, h_nil, t_eql, t_lss, t_bool, t_and, t_not, n_int, n_add, n_sub, n_mul, n_conv, n_shr, n_and, n_quo, n_rem, m_32, w_u64, w_i64, w_i32]
  generalize (SE.ivar .i64 0).num ρ = x at hb ⊢
  simp at hb
  by_cases hx : x < 0
  · have e1 : (0 - x % 18446744073709551616) % 18446744073709551616 = -x := by omega
    have e2 := hi_of (-x) (by omega) (by omega)
    try simp only [e1]
    simp [IntKind.bits]
    try simp only [e2]
    try clear e1 e2
    try first | (intros; exact hx) | (intros; exact Int.not_lt.1 hx) | (intros; omega)
  · have e1 : x % 18446744073709551616 = x := by omega
    have e2 := hi_of x (by omega) (by omega)
    try simp only [e1]
    simp [IntKind.bits]
    try simp only [e2]
    try clear e1 e2
    try first | (intros; exact hx) | (intros; exact Int.not_lt.1 hx) | (intros; omega)
theorem int_true15 (ρ : Nat → Value) : ∀ q, q ∈ intR15 → q.1.holds ρ → q.2.truth ρ = true := by
  have hb := v_bounds ρ .i64 0
  simp only [IntKind.min, IntKind.max, IntKind.bits, IntKind.signed] at hb
  simp only [intR15, all_cons, all_nil, h_cons, h_nil, t_eql, t_lss, t_bool, t_and, t_not, n_int, n_add, n_sub, n_mul, n_conv, n_shr, n_and, n_quo, n_rem, m_32, w_u64, w_i64, w_i32]
  generalize (SE.ivar .i64 0).num ρ = x at hb ⊢
  simp at hb
  by_cases hx : x < 0
  · have e1 : (0 - x % 18446744073709551616) % 18446744073709551616 = -x := by omega
    have e2 := hi_of (-x) (by omega) (by omega)
    try simp only [e1]
    simp [IntKind.bits]
    try simp only [e2]
    try clear e1 e2
    try first | (intros; exact hx) | (intros; exact Int.not_lt.1 hx) | (intros; omega)
  · have e1 : x % 18446744073709551616 = x := by omega
    have e2 := hi_of x (by omega) (by omega)
    try simp only [e1]
    simp [IntKind.bits]
    try simp only [e2]
    try clear e1 e2
    try first | (intros; exact hx) | (intros; exact Int.not_lt.1 hx) | (intros; omega)
theorem int_true16 (ρ : Nat → Value) : ∀ q, q ∈ intR16 → q.1.holds ρ → q.2.truth ρ = true := by
  have hb := v_bounds ρ .i64 0
  simp only [IntKind.min, IntKind.max, IntKind.bits, IntKind.signed] at hb
  simp only [intR16, all_cons, all_nil, h_cons, h_nil, t_eql, t_lss, t_bool, t_and, t_not, n_int, n_add, n_sub, n_mul, n_conv, n_shr, n_and, n_quo, n_rem, m_32, w_u64, w_i64, w_i32]
  generalize (SE.ivar .i64 0).num ρ = x at hb ⊢
  simp at hb
  by_cases hx : x < 0
  · have e1 : (0 - x % 18446744073709551616) % 18446744073709551616 = -x := by omega
    have e2 := hi_of (-x) (by omega) (by omega)
    try simp only [e1]
    simp [IntKind.bits]
    try simp only [e2]
    try clear e1 e2
    try first | (intros; exact hx) | (intros; exact Int.not_lt.1 hx) | (intros; omega)
  · have e1 : x % 18446744073709551616 = x := by omega
    have e2 := hi_of x (by omega) (by omega)
    try simp only [e1]
    simp [IntKind.bits]
    try simp only [e2]
    try clear e1 e2
    try first | (intros; exact hx) | (intros; exact Int.not_lt.1 hx) | (intros; omega)
theorem int_true17 (ρ : Nat → Value) : ∀ q, q ∈ intR17 → q.1.holds ρ → q.2.truth ρ = true := by
  have hb := v_bounds ρ .i64 0
  simp only [IntKind.min, IntKind.max, IntKind.bits, IntKind.signed] at hb
  simp only [intR17, all_cons, all_nil, h_cons, h_nil, t_eql, t_lss, t_bool, t_and, t_not, n_int, n_add, n_sub, n_mul, n_conv, n_shr, n_and, n_quo, n_rem, m_32, w_u64, w_i64, w_i32]
  generalize (SE.ivar .i64 0).num ρ = x at hb ⊢
  simp at hb
  by_cases hx : x < 0
  · have e1 : (0 - x % 18446744073709551616) % 18446744073709551616 = -x := by omega
    have e2 := hi_of (-x) (by omega) (by omega)
    try simp only [e1]
    simp [IntKind.bits]
    try simp only [e2]
    try clear e1 e2
    try first | (intros; exact hx) | (intros; exact Int.not_lt.1 hx) | (intros; omega)
  · have e1 : x % 18446744073709551616 = x := by omega
    have e2 := hi_of x (by omega) (by omega)
    try simp only [e1]
    simp [IntKind.bits]
    try simp only [e2]
    try clear e1 e2
    try first | (intros; exact hx) | (intros; exact Int.not_lt.1 hx) | (intros; omega)
theorem int_true (ρ : Nat → Value) : ∀ q, q ∈ intR → q.1.holds ρ → q.2.truth ρ = true := by
  intro q h
  simp only [intR, List.mem_append] at h
  rcases h with h | h | h | h | h | h | h | h | h | h | h | h | h | h | h | h | h | h
  · exact int_true0 ρ q h
  · exact int_true1 ρ q h
  · exact int_true2 ρ q h
  · exact int_true3 ρ q h
  · exact int_true4 ρ q h
  · exact int_true5 ρ q h
  · exact int_true6 ρ q h
  · exact int_true7 ρ q h
  · exact int_true8 ρ q h
  · exact int_true9 ρ q h
  · exact int_true10 ρ q h
  · exact int_true11 ρ q h
  · exact int_true12 ρ q h
  · exact int_true13 ρ q h
  · exact int_true14 ρ q h
  · exact int_true15 ρ q h
  · exact int_true16 ρ q h
  · exact int_true17 ρ q h
end Go.Proofs.YtdblaloadklcfabDoor
