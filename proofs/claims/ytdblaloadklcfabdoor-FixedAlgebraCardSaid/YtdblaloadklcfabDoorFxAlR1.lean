/- FixedAlgebra: a run and what it leaves to be shown. -/
import Derived.Test.YtdblaloadklcfabDoorFxAlB
set_option linter.unusedVariables false
set_option linter.unusedSimpArgs false
namespace Go.Proofs.YtdblaloadklcfabDoor
open Go.Sx
def al1R0 : List (PC × SE) := [
  ((((.cmp .eql (.conv .i32 (.bin .quo .u64 (.bin .mul .u64 (.conv .u64 (.conv .i64 (.ivar .i32 0))) (.int .u64 256)) (.int .u64 256))) (.ivar .i32 0)), false) :: (((.cmp .eql (.conv .i32 (.bin .quo .u64 (.bin .mul .u64 (.int .u64 1) (.conv .u64 (.bin .mul .i64 (.conv .i64 (.ivar .i32 0)) (.int .i64 256)))) (.int .u64 256))) (.ivar .i32 0)), true) :: (((.cmp .eql (.conv .i32 (.bin .quo .u64 (.bin .mul .u64 (.int .u64 1) (.conv .u64 (.bin .add .i64 (.conv .i64 (.ivar .i32 0)) (.int .i64 0)))) (.int .u64 1))) (.ivar .i32 0)), true) :: (((.cmp .lss (.int .u64 2147483647) (.bin .add .u64 (.int .u64 1) (.bin .quo .u64 (.bin .mul .u64 (.conv .u64 (.bin .mul .i64 (.conv .i64 (.ivar .i32 0)) (.conv .i64 (.ivar .i32 1)))) (.int .u64 1)) (.int .u64 256)))), false) :: (((.cmp .lss (.bin .rem .u64 (.bin .mul .u64 (.conv .u64 (.bin .mul .i64 (.conv .i64 (.ivar .i32 0)) (.conv .i64 (.ivar .i32 1)))) (.int .u64 1)) (.int .u64 256)) (.bin .sub .u64 (.int .u64 256) (.bin .rem .u64 (.bin .mul .u64 (.conv .u64 (.bin .mul .i64 (.conv .i64 (.ivar .i32 0)) (.conv .i64 (.ivar .i32 1)))) (.int .u64 1)) (.int .u64 256)))), false) :: (((.cmp .lss (.int .u64 2147483647) (.bin .quo .u64 (.bin .mul .u64 (.conv .u64 (.bin .add .i64 (.conv .i64 (.ivar .i32 0)) (.conv .i64 (.ivar .i32 1)))) (.int .u64 1)) (.int .u64 1))), false) :: (((.cmp .lss (.conv .i64 (.ivar .i32 0)) (.int .i64 0)), false) :: (((.cmp .lss (.conv .i64 (.ivar .i32 1)) (.int .i64 0)), false) :: [])))))))), (.bool false))]
def al1R1 : List (PC × SE) := [
  ((((.cmp .eql (.conv .i32 (.bin .quo .u64 (.bin .mul .u64 (.int .u64 1) (.conv .u64 (.bin .mul .i64 (.conv .i64 (.ivar .i32 0)) (.int .i64 256)))) (.int .u64 256))) (.ivar .i32 0)), false) :: (((.cmp .eql (.conv .i32 (.bin .quo .u64 (.bin .mul .u64 (.int .u64 1) (.conv .u64 (.bin .add .i64 (.conv .i64 (.ivar .i32 0)) (.int .i64 0)))) (.int .u64 1))) (.ivar .i32 0)), true) :: (((.cmp .lss (.int .u64 2147483647) (.bin .add .u64 (.int .u64 1) (.bin .quo .u64 (.bin .mul .u64 (.conv .u64 (.bin .mul .i64 (.conv .i64 (.ivar .i32 0)) (.conv .i64 (.ivar .i32 1)))) (.int .u64 1)) (.int .u64 256)))), false) :: (((.cmp .lss (.bin .rem .u64 (.bin .mul .u64 (.conv .u64 (.bin .mul .i64 (.conv .i64 (.ivar .i32 0)) (.conv .i64 (.ivar .i32 1)))) (.int .u64 1)) (.int .u64 256)) (.bin .sub .u64 (.int .u64 256) (.bin .rem .u64 (.bin .mul .u64 (.conv .u64 (.bin .mul .i64 (.conv .i64 (.ivar .i32 0)) (.conv .i64 (.ivar .i32 1)))) (.int .u64 1)) (.int .u64 256)))), false) :: (((.cmp .lss (.int .u64 2147483647) (.bin .quo .u64 (.bin .mul .u64 (.conv .u64 (.bin .add .i64 (.conv .i64 (.ivar .i32 0)) (.conv .i64 (.ivar .i32 1)))) (.int .u64 1)) (.int .u64 1))), false) :: (((.cmp .lss (.conv .i64 (.ivar .i32 0)) (.int .i64 0)), false) :: (((.cmp .lss (.conv .i64 (.ivar .i32 1)) (.int .i64 0)), false) :: []))))))), (.bool false))]
def al1R2 : List (PC × SE) := [
  ((((.cmp .eql (.conv .i32 (.bin .quo .u64 (.bin .mul .u64 (.int .u64 1) (.conv .u64 (.bin .add .i64 (.conv .i64 (.ivar .i32 0)) (.int .i64 0)))) (.int .u64 1))) (.ivar .i32 0)), false) :: (((.cmp .lss (.int .u64 2147483647) (.bin .add .u64 (.int .u64 1) (.bin .quo .u64 (.bin .mul .u64 (.conv .u64 (.bin .mul .i64 (.conv .i64 (.ivar .i32 0)) (.conv .i64 (.ivar .i32 1)))) (.int .u64 1)) (.int .u64 256)))), false) :: (((.cmp .lss (.bin .rem .u64 (.bin .mul .u64 (.conv .u64 (.bin .mul .i64 (.conv .i64 (.ivar .i32 0)) (.conv .i64 (.ivar .i32 1)))) (.int .u64 1)) (.int .u64 256)) (.bin .sub .u64 (.int .u64 256) (.bin .rem .u64 (.bin .mul .u64 (.conv .u64 (.bin .mul .i64 (.conv .i64 (.ivar .i32 0)) (.conv .i64 (.ivar .i32 1)))) (.int .u64 1)) (.int .u64 256)))), false) :: (((.cmp .lss (.int .u64 2147483647) (.bin .quo .u64 (.bin .mul .u64 (.conv .u64 (.bin .add .i64 (.conv .i64 (.ivar .i32 0)) (.conv .i64 (.ivar .i32 1)))) (.int .u64 1)) (.int .u64 1))), false) :: (((.cmp .lss (.conv .i64 (.ivar .i32 0)) (.int .i64 0)), false) :: (((.cmp .lss (.conv .i64 (.ivar .i32 1)) (.int .i64 0)), false) :: [])))))), (.bool false))]
def al1R3 : List (PC × SE) := [
  ((((.cmp .eql (.conv .i32 (.bin .quo .u64 (.bin .mul .u64 (.conv .u64 (.conv .i64 (.ivar .i32 0))) (.int .u64 256)) (.int .u64 256))) (.ivar .i32 0)), false) :: (((.cmp .eql (.conv .i32 (.bin .quo .u64 (.bin .mul .u64 (.int .u64 1) (.conv .u64 (.bin .mul .i64 (.conv .i64 (.ivar .i32 0)) (.int .i64 256)))) (.int .u64 256))) (.ivar .i32 0)), true) :: (((.cmp .eql (.conv .i32 (.bin .quo .u64 (.bin .mul .u64 (.int .u64 1) (.conv .u64 (.bin .add .i64 (.conv .i64 (.ivar .i32 0)) (.int .i64 0)))) (.int .u64 1))) (.ivar .i32 0)), true) :: (((.cmp .lss (.int .u64 2147483647) (.bin .add .u64 (.int .u64 1) (.bin .quo .u64 (.bin .mul .u64 (.conv .u64 (.bin .mul .i64 (.conv .i64 (.ivar .i32 0)) (.conv .i64 (.ivar .i32 1)))) (.int .u64 1)) (.int .u64 256)))), true) :: (((.cmp .lss (.bin .rem .u64 (.bin .mul .u64 (.conv .u64 (.bin .mul .i64 (.conv .i64 (.ivar .i32 0)) (.conv .i64 (.ivar .i32 1)))) (.int .u64 1)) (.int .u64 256)) (.bin .sub .u64 (.int .u64 256) (.bin .rem .u64 (.bin .mul .u64 (.conv .u64 (.bin .mul .i64 (.conv .i64 (.ivar .i32 0)) (.conv .i64 (.ivar .i32 1)))) (.int .u64 1)) (.int .u64 256)))), false) :: (((.cmp .lss (.int .u64 2147483647) (.bin .quo .u64 (.bin .mul .u64 (.conv .u64 (.bin .add .i64 (.conv .i64 (.ivar .i32 0)) (.conv .i64 (.ivar .i32 1)))) (.int .u64 1)) (.int .u64 1))), false) :: (((.cmp .lss (.conv .i64 (.ivar .i32 0)) (.int .i64 0)), false) :: (((.cmp .lss (.conv .i64 (.ivar .i32 1)) (.int .i64 0)), false) :: [])))))))), (.bool false))]
def al1R4 : List (PC × SE) := [
  ((((.cmp .eql (.conv .i32 (.bin .quo .u64 (.bin .mul .u64 (.int .u64 1) (.conv .u64 (.bin .mul .i64 (.conv .i64 (.ivar .i32 0)) (.int .i64 256)))) (.int .u64 256))) (.ivar .i32 0)), false) :: (((.cmp .eql (.conv .i32 (.bin .quo .u64 (.bin .mul .u64 (.int .u64 1) (.conv .u64 (.bin .add .i64 (.conv .i64 (.ivar .i32 0)) (.int .i64 0)))) (.int .u64 1))) (.ivar .i32 0)), true) :: (((.cmp .lss (.int .u64 2147483647) (.bin .add .u64 (.int .u64 1) (.bin .quo .u64 (.bin .mul .u64 (.conv .u64 (.bin .mul .i64 (.conv .i64 (.ivar .i32 0)) (.conv .i64 (.ivar .i32 1)))) (.int .u64 1)) (.int .u64 256)))), true) :: (((.cmp .lss (.bin .rem .u64 (.bin .mul .u64 (.conv .u64 (.bin .mul .i64 (.conv .i64 (.ivar .i32 0)) (.conv .i64 (.ivar .i32 1)))) (.int .u64 1)) (.int .u64 256)) (.bin .sub .u64 (.int .u64 256) (.bin .rem .u64 (.bin .mul .u64 (.conv .u64 (.bin .mul .i64 (.conv .i64 (.ivar .i32 0)) (.conv .i64 (.ivar .i32 1)))) (.int .u64 1)) (.int .u64 256)))), false) :: (((.cmp .lss (.int .u64 2147483647) (.bin .quo .u64 (.bin .mul .u64 (.conv .u64 (.bin .add .i64 (.conv .i64 (.ivar .i32 0)) (.conv .i64 (.ivar .i32 1)))) (.int .u64 1)) (.int .u64 1))), false) :: (((.cmp .lss (.conv .i64 (.ivar .i32 0)) (.int .i64 0)), false) :: (((.cmp .lss (.conv .i64 (.ivar .i32 1)) (.int .i64 0)), false) :: []))))))), (.bool false))]
def al1R5 : List (PC × SE) := [
  ((((.cmp .eql (.conv .i32 (.bin .quo .u64 (.bin .mul .u64 (.int .u64 1) (.conv .u64 (.bin .add .i64 (.conv .i64 (.ivar .i32 0)) (.int .i64 0)))) (.int .u64 1))) (.ivar .i32 0)), false) :: (((.cmp .lss (.int .u64 2147483647) (.bin .add .u64 (.int .u64 1) (.bin .quo .u64 (.bin .mul .u64 (.conv .u64 (.bin .mul .i64 (.conv .i64 (.ivar .i32 0)) (.conv .i64 (.ivar .i32 1)))) (.int .u64 1)) (.int .u64 256)))), true) :: (((.cmp .lss (.bin .rem .u64 (.bin .mul .u64 (.conv .u64 (.bin .mul .i64 (.conv .i64 (.ivar .i32 0)) (.conv .i64 (.ivar .i32 1)))) (.int .u64 1)) (.int .u64 256)) (.bin .sub .u64 (.int .u64 256) (.bin .rem .u64 (.bin .mul .u64 (.conv .u64 (.bin .mul .i64 (.conv .i64 (.ivar .i32 0)) (.conv .i64 (.ivar .i32 1)))) (.int .u64 1)) (.int .u64 256)))), false) :: (((.cmp .lss (.int .u64 2147483647) (.bin .quo .u64 (.bin .mul .u64 (.conv .u64 (.bin .add .i64 (.conv .i64 (.ivar .i32 0)) (.conv .i64 (.ivar .i32 1)))) (.int .u64 1)) (.int .u64 1))), false) :: (((.cmp .lss (.conv .i64 (.ivar .i32 0)) (.int .i64 0)), false) :: (((.cmp .lss (.conv .i64 (.ivar .i32 1)) (.int .i64 0)), false) :: [])))))), (.bool false))]
def al1R6 : List (PC × SE) := [
  ((((.cmp .eql (.conv .i32 (.bin .quo .u64 (.bin .mul .u64 (.conv .u64 (.conv .i64 (.ivar .i32 0))) (.int .u64 256)) (.int .u64 256))) (.ivar .i32 0)), false) :: (((.cmp .eql (.conv .i32 (.bin .quo .u64 (.bin .mul .u64 (.int .u64 1) (.conv .u64 (.bin .mul .i64 (.conv .i64 (.ivar .i32 0)) (.int .i64 256)))) (.int .u64 256))) (.ivar .i32 0)), true) :: (((.cmp .eql (.conv .i32 (.bin .quo .u64 (.bin .mul .u64 (.int .u64 1) (.conv .u64 (.bin .add .i64 (.conv .i64 (.ivar .i32 0)) (.int .i64 0)))) (.int .u64 1))) (.ivar .i32 0)), true) :: (((.cmp .lss (.int .u64 2147483647) (.bin .quo .u64 (.bin .mul .u64 (.conv .u64 (.bin .mul .i64 (.conv .i64 (.ivar .i32 0)) (.conv .i64 (.ivar .i32 1)))) (.int .u64 1)) (.int .u64 256))), false) :: (((.cmp .lss (.bin .rem .u64 (.bin .mul .u64 (.conv .u64 (.bin .mul .i64 (.conv .i64 (.ivar .i32 0)) (.conv .i64 (.ivar .i32 1)))) (.int .u64 1)) (.int .u64 256)) (.bin .sub .u64 (.int .u64 256) (.bin .rem .u64 (.bin .mul .u64 (.conv .u64 (.bin .mul .i64 (.conv .i64 (.ivar .i32 0)) (.conv .i64 (.ivar .i32 1)))) (.int .u64 1)) (.int .u64 256)))), true) :: (((.cmp .lss (.int .u64 2147483647) (.bin .quo .u64 (.bin .mul .u64 (.conv .u64 (.bin .add .i64 (.conv .i64 (.ivar .i32 0)) (.conv .i64 (.ivar .i32 1)))) (.int .u64 1)) (.int .u64 1))), false) :: (((.cmp .lss (.conv .i64 (.ivar .i32 0)) (.int .i64 0)), false) :: (((.cmp .lss (.conv .i64 (.ivar .i32 1)) (.int .i64 0)), false) :: [])))))))), (.bool false))]
def al1R7 : List (PC × SE) := [
  ((((.cmp .eql (.conv .i32 (.bin .quo .u64 (.bin .mul .u64 (.int .u64 1) (.conv .u64 (.bin .mul .i64 (.conv .i64 (.ivar .i32 0)) (.int .i64 256)))) (.int .u64 256))) (.ivar .i32 0)), false) :: (((.cmp .eql (.conv .i32 (.bin .quo .u64 (.bin .mul .u64 (.int .u64 1) (.conv .u64 (.bin .add .i64 (.conv .i64 (.ivar .i32 0)) (.int .i64 0)))) (.int .u64 1))) (.ivar .i32 0)), true) :: (((.cmp .lss (.int .u64 2147483647) (.bin .quo .u64 (.bin .mul .u64 (.conv .u64 (.bin .mul .i64 (.conv .i64 (.ivar .i32 0)) (.conv .i64 (.ivar .i32 1)))) (.int .u64 1)) (.int .u64 256))), false) :: (((.cmp .lss (.bin .rem .u64 (.bin .mul .u64 (.conv .u64 (.bin .mul .i64 (.conv .i64 (.ivar .i32 0)) (.conv .i64 (.ivar .i32 1)))) (.int .u64 1)) (.int .u64 256)) (.bin .sub .u64 (.int .u64 256) (.bin .rem .u64 (.bin .mul .u64 (.conv .u64 (.bin .mul .i64 (.conv .i64 (.ivar .i32 0)) (.conv .i64 (.ivar .i32 1)))) (.int .u64 1)) (.int .u64 256)))), true) :: (((.cmp .lss (.int .u64 2147483647) (.bin .quo .u64 (.bin .mul .u64 (.conv .u64 (.bin .add .i64 (.conv .i64 (.ivar .i32 0)) (.conv .i64 (.ivar .i32 1)))) (.int .u64 1)) (.int .u64 1))), false) :: (((.cmp .lss (.conv .i64 (.ivar .i32 0)) (.int .i64 0)), false) :: (((.cmp .lss (.conv .i64 (.ivar .i32 1)) (.int .i64 0)), false) :: []))))))), (.bool false))]
def al1R8 : List (PC × SE) := [
  ((((.cmp .eql (.conv .i32 (.bin .quo .u64 (.bin .mul .u64 (.int .u64 1) (.conv .u64 (.bin .add .i64 (.conv .i64 (.ivar .i32 0)) (.int .i64 0)))) (.int .u64 1))) (.ivar .i32 0)), false) :: (((.cmp .lss (.int .u64 2147483647) (.bin .quo .u64 (.bin .mul .u64 (.conv .u64 (.bin .mul .i64 (.conv .i64 (.ivar .i32 0)) (.conv .i64 (.ivar .i32 1)))) (.int .u64 1)) (.int .u64 256))), false) :: (((.cmp .lss (.bin .rem .u64 (.bin .mul .u64 (.conv .u64 (.bin .mul .i64 (.conv .i64 (.ivar .i32 0)) (.conv .i64 (.ivar .i32 1)))) (.int .u64 1)) (.int .u64 256)) (.bin .sub .u64 (.int .u64 256) (.bin .rem .u64 (.bin .mul .u64 (.conv .u64 (.bin .mul .i64 (.conv .i64 (.ivar .i32 0)) (.conv .i64 (.ivar .i32 1)))) (.int .u64 1)) (.int .u64 256)))), true) :: (((.cmp .lss (.int .u64 2147483647) (.bin .quo .u64 (.bin .mul .u64 (.conv .u64 (.bin .add .i64 (.conv .i64 (.ivar .i32 0)) (.conv .i64 (.ivar .i32 1)))) (.int .u64 1)) (.int .u64 1))), false) :: (((.cmp .lss (.conv .i64 (.ivar .i32 0)) (.int .i64 0)), false) :: (((.cmp .lss (.conv .i64 (.ivar .i32 1)) (.int .i64 0)), false) :: [])))))), (.bool false))]
def al1R9 : List (PC × SE) := [
  ((((.cmp .eql (.conv .i32 (.bin .quo .u64 (.bin .mul .u64 (.conv .u64 (.conv .i64 (.ivar .i32 0))) (.int .u64 256)) (.int .u64 256))) (.ivar .i32 0)), false) :: (((.cmp .eql (.conv .i32 (.bin .quo .u64 (.bin .mul .u64 (.int .u64 1) (.conv .u64 (.bin .mul .i64 (.conv .i64 (.ivar .i32 0)) (.int .i64 256)))) (.int .u64 256))) (.ivar .i32 0)), true) :: (((.cmp .eql (.conv .i32 (.bin .quo .u64 (.bin .mul .u64 (.int .u64 1) (.conv .u64 (.bin .add .i64 (.conv .i64 (.ivar .i32 0)) (.int .i64 0)))) (.int .u64 1))) (.ivar .i32 0)), true) :: (((.cmp .lss (.int .u64 2147483647) (.bin .quo .u64 (.bin .mul .u64 (.conv .u64 (.bin .mul .i64 (.conv .i64 (.ivar .i32 0)) (.conv .i64 (.ivar .i32 1)))) (.int .u64 1)) (.int .u64 256))), true) :: (((.cmp .lss (.bin .rem .u64 (.bin .mul .u64 (.conv .u64 (.bin .mul .i64 (.conv .i64 (.ivar .i32 0)) (.conv .i64 (.ivar .i32 1)))) (.int .u64 1)) (.int .u64 256)) (.bin .sub .u64 (.int .u64 256) (.bin .rem .u64 (.bin .mul .u64 (.conv .u64 (.bin .mul .i64 (.conv .i64 (.ivar .i32 0)) (.conv .i64 (.ivar .i32 1)))) (.int .u64 1)) (.int .u64 256)))), true) :: (((.cmp .lss (.int .u64 2147483647) (.bin .quo .u64 (.bin .mul .u64 (.conv .u64 (.bin .add .i64 (.conv .i64 (.ivar .i32 0)) (.conv .i64 (.ivar .i32 1)))) (.int .u64 1)) (.int .u64 1))), false) :: (((.cmp .lss (.conv .i64 (.ivar .i32 0)) (.int .i64 0)), false) :: (((.cmp .lss (.conv .i64 (.ivar .i32 1)) (.int .i64 0)), false) :: [])))))))), (.bool false))]
def al1R10 : List (PC × SE) := [
  ((((.cmp .eql (.conv .i32 (.bin .quo .u64 (.bin .mul .u64 (.int .u64 1) (.conv .u64 (.bin .mul .i64 (.conv .i64 (.ivar .i32 0)) (.int .i64 256)))) (.int .u64 256))) (.ivar .i32 0)), false) :: (((.cmp .eql (.conv .i32 (.bin .quo .u64 (.bin .mul .u64 (.int .u64 1) (.conv .u64 (.bin .add .i64 (.conv .i64 (.ivar .i32 0)) (.int .i64 0)))) (.int .u64 1))) (.ivar .i32 0)), true) :: (((.cmp .lss (.int .u64 2147483647) (.bin .quo .u64 (.bin .mul .u64 (.conv .u64 (.bin .mul .i64 (.conv .i64 (.ivar .i32 0)) (.conv .i64 (.ivar .i32 1)))) (.int .u64 1)) (.int .u64 256))), true) :: (((.cmp .lss (.bin .rem .u64 (.bin .mul .u64 (.conv .u64 (.bin .mul .i64 (.conv .i64 (.ivar .i32 0)) (.conv .i64 (.ivar .i32 1)))) (.int .u64 1)) (.int .u64 256)) (.bin .sub .u64 (.int .u64 256) (.bin .rem .u64 (.bin .mul .u64 (.conv .u64 (.bin .mul .i64 (.conv .i64 (.ivar .i32 0)) (.conv .i64 (.ivar .i32 1)))) (.int .u64 1)) (.int .u64 256)))), true) :: (((.cmp .lss (.int .u64 2147483647) (.bin .quo .u64 (.bin .mul .u64 (.conv .u64 (.bin .add .i64 (.conv .i64 (.ivar .i32 0)) (.conv .i64 (.ivar .i32 1)))) (.int .u64 1)) (.int .u64 1))), false) :: (((.cmp .lss (.conv .i64 (.ivar .i32 0)) (.int .i64 0)), false) :: (((.cmp .lss (.conv .i64 (.ivar .i32 1)) (.int .i64 0)), false) :: []))))))), (.bool false))]
def al1R11 : List (PC × SE) := [
  ((((.cmp .eql (.conv .i32 (.bin .quo .u64 (.bin .mul .u64 (.int .u64 1) (.conv .u64 (.bin .add .i64 (.conv .i64 (.ivar .i32 0)) (.int .i64 0)))) (.int .u64 1))) (.ivar .i32 0)), false) :: (((.cmp .lss (.int .u64 2147483647) (.bin .quo .u64 (.bin .mul .u64 (.conv .u64 (.bin .mul .i64 (.conv .i64 (.ivar .i32 0)) (.conv .i64 (.ivar .i32 1)))) (.int .u64 1)) (.int .u64 256))), true) :: (((.cmp .lss (.bin .rem .u64 (.bin .mul .u64 (.conv .u64 (.bin .mul .i64 (.conv .i64 (.ivar .i32 0)) (.conv .i64 (.ivar .i32 1)))) (.int .u64 1)) (.int .u64 256)) (.bin .sub .u64 (.int .u64 256) (.bin .rem .u64 (.bin .mul .u64 (.conv .u64 (.bin .mul .i64 (.conv .i64 (.ivar .i32 0)) (.conv .i64 (.ivar .i32 1)))) (.int .u64 1)) (.int .u64 256)))), true) :: (((.cmp .lss (.int .u64 2147483647) (.bin .quo .u64 (.bin .mul .u64 (.conv .u64 (.bin .add .i64 (.conv .i64 (.ivar .i32 0)) (.conv .i64 (.ivar .i32 1)))) (.int .u64 1)) (.int .u64 1))), false) :: (((.cmp .lss (.conv .i64 (.ivar .i32 0)) (.int .i64 0)), false) :: (((.cmp .lss (.conv .i64 (.ivar .i32 1)) (.int .i64 0)), false) :: [])))))), (.bool false))]
def al1R12 : List (PC × SE) := [
  ((((.cmp .eql (.conv .i32 (.bin .quo .u64 (.bin .mul .u64 (.conv .u64 (.conv .i64 (.ivar .i32 0))) (.int .u64 256)) (.int .u64 256))) (.ivar .i32 0)), false) :: (((.cmp .eql (.conv .i32 (.bin .quo .u64 (.bin .mul .u64 (.int .u64 1) (.conv .u64 (.bin .mul .i64 (.conv .i64 (.ivar .i32 0)) (.int .i64 256)))) (.int .u64 256))) (.ivar .i32 0)), true) :: (((.cmp .eql (.conv .i32 (.bin .quo .u64 (.bin .mul .u64 (.int .u64 1) (.conv .u64 (.bin .add .i64 (.conv .i64 (.ivar .i32 0)) (.int .i64 0)))) (.int .u64 1))) (.ivar .i32 0)), true) :: (((.cmp .lss (.int .u64 2147483647) (.bin .add .u64 (.int .u64 1) (.bin .quo .u64 (.bin .mul .u64 (.conv .u64 (.bin .mul .i64 (.conv .i64 (.ivar .i32 0)) (.conv .i64 (.ivar .i32 1)))) (.int .u64 1)) (.int .u64 256)))), false) :: (((.cmp .lss (.bin .rem .u64 (.bin .mul .u64 (.conv .u64 (.bin .mul .i64 (.conv .i64 (.ivar .i32 0)) (.conv .i64 (.ivar .i32 1)))) (.int .u64 1)) (.int .u64 256)) (.bin .sub .u64 (.int .u64 256) (.bin .rem .u64 (.bin .mul .u64 (.conv .u64 (.bin .mul .i64 (.conv .i64 (.ivar .i32 0)) (.conv .i64 (.ivar .i32 1)))) (.int .u64 1)) (.int .u64 256)))), false) :: (((.cmp .lss (.int .u64 2147483647) (.bin .quo .u64 (.bin .mul .u64 (.conv .u64 (.bin .add .i64 (.conv .i64 (.ivar .i32 0)) (.conv .i64 (.ivar .i32 1)))) (.int .u64 1)) (.int .u64 1))), true) :: (((.cmp .lss (.conv .i64 (.ivar .i32 0)) (.int .i64 0)), false) :: (((.cmp .lss (.conv .i64 (.ivar .i32 1)) (.int .i64 0)), false) :: [])))))))), (.bool false))]
def al1R13 : List (PC × SE) := [
  ((((.cmp .eql (.conv .i32 (.bin .quo .u64 (.bin .mul .u64 (.int .u64 1) (.conv .u64 (.bin .mul .i64 (.conv .i64 (.ivar .i32 0)) (.int .i64 256)))) (.int .u64 256))) (.ivar .i32 0)), false) :: (((.cmp .eql (.conv .i32 (.bin .quo .u64 (.bin .mul .u64 (.int .u64 1) (.conv .u64 (.bin .add .i64 (.conv .i64 (.ivar .i32 0)) (.int .i64 0)))) (.int .u64 1))) (.ivar .i32 0)), true) :: (((.cmp .lss (.int .u64 2147483647) (.bin .add .u64 (.int .u64 1) (.bin .quo .u64 (.bin .mul .u64 (.conv .u64 (.bin .mul .i64 (.conv .i64 (.ivar .i32 0)) (.conv .i64 (.ivar .i32 1)))) (.int .u64 1)) (.int .u64 256)))), false) :: (((.cmp .lss (.bin .rem .u64 (.bin .mul .u64 (.conv .u64 (.bin .mul .i64 (.conv .i64 (.ivar .i32 0)) (.conv .i64 (.ivar .i32 1)))) (.int .u64 1)) (.int .u64 256)) (.bin .sub .u64 (.int .u64 256) (.bin .rem .u64 (.bin .mul .u64 (.conv .u64 (.bin .mul .i64 (.conv .i64 (.ivar .i32 0)) (.conv .i64 (.ivar .i32 1)))) (.int .u64 1)) (.int .u64 256)))), false) :: (((.cmp .lss (.int .u64 2147483647) (.bin .quo .u64 (.bin .mul .u64 (.conv .u64 (.bin .add .i64 (.conv .i64 (.ivar .i32 0)) (.conv .i64 (.ivar .i32 1)))) (.int .u64 1)) (.int .u64 1))), true) :: (((.cmp .lss (.conv .i64 (.ivar .i32 0)) (.int .i64 0)), false) :: (((.cmp .lss (.conv .i64 (.ivar .i32 1)) (.int .i64 0)), false) :: []))))))), (.bool false))]
def al1R14 : List (PC × SE) := [
  ((((.cmp .eql (.conv .i32 (.bin .quo .u64 (.bin .mul .u64 (.int .u64 1) (.conv .u64 (.bin .add .i64 (.conv .i64 (.ivar .i32 0)) (.int .i64 0)))) (.int .u64 1))) (.ivar .i32 0)), false) :: (((.cmp .lss (.int .u64 2147483647) (.bin .add .u64 (.int .u64 1) (.bin .quo .u64 (.bin .mul .u64 (.conv .u64 (.bin .mul .i64 (.conv .i64 (.ivar .i32 0)) (.conv .i64 (.ivar .i32 1)))) (.int .u64 1)) (.int .u64 256)))), false) :: (((.cmp .lss (.bin .rem .u64 (.bin .mul .u64 (.conv .u64 (.bin .mul .i64 (.conv .i64 (.ivar .i32 0)) (.conv .i64 (.ivar .i32 1)))) (.int .u64 1)) (.int .u64 256)) (.bin .sub .u64 (.int .u64 256) (.bin .rem .u64 (.bin .mul .u64 (.conv .u64 (.bin .mul .i64 (.conv .i64 (.ivar .i32 0)) (.conv .i64 (.ivar .i32 1)))) (.int .u64 1)) (.int .u64 256)))), false) :: (((.cmp .lss (.int .u64 2147483647) (.bin .quo .u64 (.bin .mul .u64 (.conv .u64 (.bin .add .i64 (.conv .i64 (.ivar .i32 0)) (.conv .i64 (.ivar .i32 1)))) (.int .u64 1)) (.int .u64 1))), true) :: (((.cmp .lss (.conv .i64 (.ivar .i32 0)) (.int .i64 0)), false) :: (((.cmp .lss (.conv .i64 (.ivar .i32 1)) (.int .i64 0)), false) :: [])))))), (.bool false))]
def al1R15 : List (PC × SE) := [
  ((((.cmp .eql (.conv .i32 (.bin .quo .u64 (.bin .mul .u64 (.conv .u64 (.conv .i64 (.ivar .i32 0))) (.int .u64 256)) (.int .u64 256))) (.ivar .i32 0)), false) :: (((.cmp .eql (.conv .i32 (.bin .quo .u64 (.bin .mul .u64 (.int .u64 1) (.conv .u64 (.bin .mul .i64 (.conv .i64 (.ivar .i32 0)) (.int .i64 256)))) (.int .u64 256))) (.ivar .i32 0)), true) :: (((.cmp .eql (.conv .i32 (.bin .quo .u64 (.bin .mul .u64 (.int .u64 1) (.conv .u64 (.bin .add .i64 (.conv .i64 (.ivar .i32 0)) (.int .i64 0)))) (.int .u64 1))) (.ivar .i32 0)), true) :: (((.cmp .lss (.int .u64 2147483647) (.bin .add .u64 (.int .u64 1) (.bin .quo .u64 (.bin .mul .u64 (.conv .u64 (.bin .mul .i64 (.conv .i64 (.ivar .i32 0)) (.conv .i64 (.ivar .i32 1)))) (.int .u64 1)) (.int .u64 256)))), true) :: (((.cmp .lss (.bin .rem .u64 (.bin .mul .u64 (.conv .u64 (.bin .mul .i64 (.conv .i64 (.ivar .i32 0)) (.conv .i64 (.ivar .i32 1)))) (.int .u64 1)) (.int .u64 256)) (.bin .sub .u64 (.int .u64 256) (.bin .rem .u64 (.bin .mul .u64 (.conv .u64 (.bin .mul .i64 (.conv .i64 (.ivar .i32 0)) (.conv .i64 (.ivar .i32 1)))) (.int .u64 1)) (.int .u64 256)))), false) :: (((.cmp .lss (.int .u64 2147483647) (.bin .quo .u64 (.bin .mul .u64 (.conv .u64 (.bin .add .i64 (.conv .i64 (.ivar .i32 0)) (.conv .i64 (.ivar .i32 1)))) (.int .u64 1)) (.int .u64 1))), true) :: (((.cmp .lss (.conv .i64 (.ivar .i32 0)) (.int .i64 0)), false) :: (((.cmp .lss (.conv .i64 (.ivar .i32 1)) (.int .i64 0)), false) :: [])))))))), (.bool false))]
def al1R16 : List (PC × SE) := [
  ((((.cmp .eql (.conv .i32 (.bin .quo .u64 (.bin .mul .u64 (.int .u64 1) (.conv .u64 (.bin .mul .i64 (.conv .i64 (.ivar .i32 0)) (.int .i64 256)))) (.int .u64 256))) (.ivar .i32 0)), false) :: (((.cmp .eql (.conv .i32 (.bin .quo .u64 (.bin .mul .u64 (.int .u64 1) (.conv .u64 (.bin .add .i64 (.conv .i64 (.ivar .i32 0)) (.int .i64 0)))) (.int .u64 1))) (.ivar .i32 0)), true) :: (((.cmp .lss (.int .u64 2147483647) (.bin .add .u64 (.int .u64 1) (.bin .quo .u64 (.bin .mul .u64 (.conv .u64 (.bin .mul .i64 (.conv .i64 (.ivar .i32 0)) (.conv .i64 (.ivar .i32 1)))) (.int .u64 1)) (.int .u64 256)))), true) :: (((.cmp .lss (.bin .rem .u64 (.bin .mul .u64 (.conv .u64 (.bin .mul .i64 (.conv .i64 (.ivar .i32 0)) (.conv .i64 (.ivar .i32 1)))) (.int .u64 1)) (.int .u64 256)) (.bin .sub .u64 (.int .u64 256) (.bin .rem .u64 (.bin .mul .u64 (.conv .u64 (.bin .mul .i64 (.conv .i64 (.ivar .i32 0)) (.conv .i64 (.ivar .i32 1)))) (.int .u64 1)) (.int .u64 256)))), false) :: (((.cmp .lss (.int .u64 2147483647) (.bin .quo .u64 (.bin .mul .u64 (.conv .u64 (.bin .add .i64 (.conv .i64 (.ivar .i32 0)) (.conv .i64 (.ivar .i32 1)))) (.int .u64 1)) (.int .u64 1))), true) :: (((.cmp .lss (.conv .i64 (.ivar .i32 0)) (.int .i64 0)), false) :: (((.cmp .lss (.conv .i64 (.ivar .i32 1)) (.int .i64 0)), false) :: []))))))), (.bool false))]
def al1R17 : List (PC × SE) := [
  ((((.cmp .eql (.conv .i32 (.bin .quo .u64 (.bin .mul .u64 (.int .u64 1) (.conv .u64 (.bin .add .i64 (.conv .i64 (.ivar .i32 0)) (.int .i64 0)))) (.int .u64 1))) (.ivar .i32 0)), false) :: (((.cmp .lss (.int .u64 2147483647) (.bin .add .u64 (.int .u64 1) (.bin .quo .u64 (.bin .mul .u64 (.conv .u64 (.bin .mul .i64 (.conv .i64 (.ivar .i32 0)) (.conv .i64 (.ivar .i32 1)))) (.int .u64 1)) (.int .u64 256)))), true) :: (((.cmp .lss (.bin .rem .u64 (.bin .mul .u64 (.conv .u64 (.bin .mul .i64 (.conv .i64 (.ivar .i32 0)) (.conv .i64 (.ivar .i32 1)))) (.int .u64 1)) (.int .u64 256)) (.bin .sub .u64 (.int .u64 256) (.bin .rem .u64 (.bin .mul .u64 (.conv .u64 (.bin .mul .i64 (.conv .i64 (.ivar .i32 0)) (.conv .i64 (.ivar .i32 1)))) (.int .u64 1)) (.int .u64 256)))), false) :: (((.cmp .lss (.int .u64 2147483647) (.bin .quo .u64 (.bin .mul .u64 (.conv .u64 (.bin .add .i64 (.conv .i64 (.ivar .i32 0)) (.conv .i64 (.ivar .i32 1)))) (.int .u64 1)) (.int .u64 1))), true) :: (((.cmp .lss (.conv .i64 (.ivar .i32 0)) (.int .i64 0)), false) :: (((.cmp .lss (.conv .i64 (.ivar .i32 1)) (.int .i64 0)), false) :: [])))))), (.bool false))]
def al1R18 : List (PC × SE) := [
  ((((.cmp .eql (.conv .i32 (.bin .quo .u64 (.bin .mul .u64 (.conv .u64 (.conv .i64 (.ivar .i32 0))) (.int .u64 256)) (.int .u64 256))) (.ivar .i32 0)), false) :: (((.cmp .eql (.conv .i32 (.bin .quo .u64 (.bin .mul .u64 (.int .u64 1) (.conv .u64 (.bin .mul .i64 (.conv .i64 (.ivar .i32 0)) (.int .i64 256)))) (.int .u64 256))) (.ivar .i32 0)), true) :: (((.cmp .eql (.conv .i32 (.bin .quo .u64 (.bin .mul .u64 (.int .u64 1) (.conv .u64 (.bin .add .i64 (.conv .i64 (.ivar .i32 0)) (.int .i64 0)))) (.int .u64 1))) (.ivar .i32 0)), true) :: (((.cmp .lss (.int .u64 2147483647) (.bin .quo .u64 (.bin .mul .u64 (.conv .u64 (.bin .mul .i64 (.conv .i64 (.ivar .i32 0)) (.conv .i64 (.ivar .i32 1)))) (.int .u64 1)) (.int .u64 256))), false) :: (((.cmp .lss (.bin .rem .u64 (.bin .mul .u64 (.conv .u64 (.bin .mul .i64 (.conv .i64 (.ivar .i32 0)) (.conv .i64 (.ivar .i32 1)))) (.int .u64 1)) (.int .u64 256)) (.bin .sub .u64 (.int .u64 256) (.bin .rem .u64 (.bin .mul .u64 (.conv .u64 (.bin .mul .i64 (.conv .i64 (.ivar .i32 0)) (.conv .i64 (.ivar .i32 1)))) (.int .u64 1)) (.int .u64 256)))), true) :: (((.cmp .lss (.int .u64 2147483647) (.bin .quo .u64 (.bin .mul .u64 (.conv .u64 (.bin .add .i64 (.conv .i64 (.ivar .i32 0)) (.conv .i64 (.ivar .i32 1)))) (.int .u64 1)) (.int .u64 1))), true) :: (((.cmp .lss (.conv .i64 (.ivar .i32 0)) (.int .i64 0)), false) :: (((.cmp .lss (.conv .i64 (.ivar .i32 1)) (.int .i64 0)), false) :: [])))))))), (.bool false))]
def al1R19 : List (PC × SE) := [
  ((((.cmp .eql (.conv .i32 (.bin .quo .u64 (.bin .mul .u64 (.int .u64 1) (.conv .u64 (.bin .mul .i64 (.conv .i64 (.ivar .i32 0)) (.int .i64 256)))) (.int .u64 256))) (.ivar .i32 0)), false) :: (((.cmp .eql (.conv .i32 (.bin .quo .u64 (.bin .mul .u64 (.int .u64 1) (.conv .u64 (.bin .add .i64 (.conv .i64 (.ivar .i32 0)) (.int .i64 0)))) (.int .u64 1))) (.ivar .i32 0)), true) :: (((.cmp .lss (.int .u64 2147483647) (.bin .quo .u64 (.bin .mul .u64 (.conv .u64 (.bin .mul .i64 (.conv .i64 (.ivar .i32 0)) (.conv .i64 (.ivar .i32 1)))) (.int .u64 1)) (.int .u64 256))), false) :: (((.cmp .lss (.bin .rem .u64 (.bin .mul .u64 (.conv .u64 (.bin .mul .i64 (.conv .i64 (.ivar .i32 0)) (.conv .i64 (.ivar .i32 1)))) (.int .u64 1)) (.int .u64 256)) (.bin .sub .u64 (.int .u64 256) (.bin .rem .u64 (.bin .mul .u64 (.conv .u64 (.bin .mul .i64 (.conv .i64 (.ivar .i32 0)) (.conv .i64 (.ivar .i32 1)))) (.int .u64 1)) (.int .u64 256)))), true) :: (((.cmp .lss (.int .u64 2147483647) (.bin .quo .u64 (.bin .mul .u64 (.conv .u64 (.bin .add .i64 (.conv .i64 (.ivar .i32 0)) (.conv .i64 (.ivar .i32 1)))) (.int .u64 1)) (.int .u64 1))), true) :: (((.cmp .lss (.conv .i64 (.ivar .i32 0)) (.int .i64 0)), false) :: (((.cmp .lss (.conv .i64 (.ivar .i32 1)) (.int .i64 0)), false) :: []))))))), (.bool false))]
def al1R20 : List (PC × SE) := [
  ((((.cmp .eql (.conv .i32 (.bin .quo .u64 (.bin .mul .u64 (.int .u64 1) (.conv .u64 (.bin .add .i64 (.conv .i64 (.ivar .i32 0)) (.int .i64 0)))) (.int .u64 1))) (.ivar .i32 0)), false) :: (((.cmp .lss (.int .u64 2147483647) (.bin .quo .u64 (.bin .mul .u64 (.conv .u64 (.bin .mul .i64 (.conv .i64 (.ivar .i32 0)) (.conv .i64 (.ivar .i32 1)))) (.int .u64 1)) (.int .u64 256))), false) :: (((.cmp .lss (.bin .rem .u64 (.bin .mul .u64 (.conv .u64 (.bin .mul .i64 (.conv .i64 (.ivar .i32 0)) (.conv .i64 (.ivar .i32 1)))) (.int .u64 1)) (.int .u64 256)) (.bin .sub .u64 (.int .u64 256) (.bin .rem .u64 (.bin .mul .u64 (.conv .u64 (.bin .mul .i64 (.conv .i64 (.ivar .i32 0)) (.conv .i64 (.ivar .i32 1)))) (.int .u64 1)) (.int .u64 256)))), true) :: (((.cmp .lss (.int .u64 2147483647) (.bin .quo .u64 (.bin .mul .u64 (.conv .u64 (.bin .add .i64 (.conv .i64 (.ivar .i32 0)) (.conv .i64 (.ivar .i32 1)))) (.int .u64 1)) (.int .u64 1))), true) :: (((.cmp .lss (.conv .i64 (.ivar .i32 0)) (.int .i64 0)), false) :: (((.cmp .lss (.conv .i64 (.ivar .i32 1)) (.int .i64 0)), false) :: [])))))), (.bool false))]
def al1R21 : List (PC × SE) := [
  ((((.cmp .eql (.conv .i32 (.bin .quo .u64 (.bin .mul .u64 (.conv .u64 (.conv .i64 (.ivar .i32 0))) (.int .u64 256)) (.int .u64 256))) (.ivar .i32 0)), false) :: (((.cmp .eql (.conv .i32 (.bin .quo .u64 (.bin .mul .u64 (.int .u64 1) (.conv .u64 (.bin .mul .i64 (.conv .i64 (.ivar .i32 0)) (.int .i64 256)))) (.int .u64 256))) (.ivar .i32 0)), true) :: (((.cmp .eql (.conv .i32 (.bin .quo .u64 (.bin .mul .u64 (.int .u64 1) (.conv .u64 (.bin .add .i64 (.conv .i64 (.ivar .i32 0)) (.int .i64 0)))) (.int .u64 1))) (.ivar .i32 0)), true) :: (((.cmp .lss (.int .u64 2147483647) (.bin .quo .u64 (.bin .mul .u64 (.conv .u64 (.bin .mul .i64 (.conv .i64 (.ivar .i32 0)) (.conv .i64 (.ivar .i32 1)))) (.int .u64 1)) (.int .u64 256))), true) :: (((.cmp .lss (.bin .rem .u64 (.bin .mul .u64 (.conv .u64 (.bin .mul .i64 (.conv .i64 (.ivar .i32 0)) (.conv .i64 (.ivar .i32 1)))) (.int .u64 1)) (.int .u64 256)) (.bin .sub .u64 (.int .u64 256) (.bin .rem .u64 (.bin .mul .u64 (.conv .u64 (.bin .mul .i64 (.conv .i64 (.ivar .i32 0)) (.conv .i64 (.ivar .i32 1)))) (.int .u64 1)) (.int .u64 256)))), true) :: (((.cmp .lss (.int .u64 2147483647) (.bin .quo .u64 (.bin .mul .u64 (.conv .u64 (.bin .add .i64 (.conv .i64 (.ivar .i32 0)) (.conv .i64 (.ivar .i32 1)))) (.int .u64 1)) (.int .u64 1))), true) :: (((.cmp .lss (.conv .i64 (.ivar .i32 0)) (.int .i64 0)), false) :: (((.cmp .lss (.conv .i64 (.ivar .i32 1)) (.int .i64 0)), false) :: [])))))))), (.bool false))]
def al1R22 : List (PC × SE) := [
  ((((.cmp .eql (.conv .i32 (.bin .quo .u64 (.bin .mul .u64 (.int .u64 1) (.conv .u64 (.bin .mul .i64 (.conv .i64 (.ivar .i32 0)) (.int .i64 256)))) (.int .u64 256))) (.ivar .i32 0)), false) :: (((.cmp .eql (.conv .i32 (.bin .quo .u64 (.bin .mul .u64 (.int .u64 1) (.conv .u64 (.bin .add .i64 (.conv .i64 (.ivar .i32 0)) (.int .i64 0)))) (.int .u64 1))) (.ivar .i32 0)), true) :: (((.cmp .lss (.int .u64 2147483647) (.bin .quo .u64 (.bin .mul .u64 (.conv .u64 (.bin .mul .i64 (.conv .i64 (.ivar .i32 0)) (.conv .i64 (.ivar .i32 1)))) (.int .u64 1)) (.int .u64 256))), true) :: (((.cmp .lss (.bin .rem .u64 (.bin .mul .u64 (.conv .u64 (.bin .mul .i64 (.conv .i64 (.ivar .i32 0)) (.conv .i64 (.ivar .i32 1)))) (.int .u64 1)) (.int .u64 256)) (.bin .sub .u64 (.int .u64 256) (.bin .rem .u64 (.bin .mul .u64 (.conv .u64 (.bin .mul .i64 (.conv .i64 (.ivar .i32 0)) (.conv .i64 (.ivar .i32 1)))) (.int .u64 1)) (.int .u64 256)))), true) :: (((.cmp .lss (.int .u64 2147483647) (.bin .quo .u64 (.bin .mul .u64 (.conv .u64 (.bin .add .i64 (.conv .i64 (.ivar .i32 0)) (.conv .i64 (.ivar .i32 1)))) (.int .u64 1)) (.int .u64 1))), true) :: (((.cmp .lss (.conv .i64 (.ivar .i32 0)) (.int .i64 0)), false) :: (((.cmp .lss (.conv .i64 (.ivar .i32 1)) (.int .i64 0)), false) :: []))))))), (.bool false))]
def al1R23 : List (PC × SE) := [
  ((((.cmp .eql (.conv .i32 (.bin .quo .u64 (.bin .mul .u64 (.int .u64 1) (.conv .u64 (.bin .add .i64 (.conv .i64 (.ivar .i32 0)) (.int .i64 0)))) (.int .u64 1))) (.ivar .i32 0)), false) :: (((.cmp .lss (.int .u64 2147483647) (.bin .quo .u64 (.bin .mul .u64 (.conv .u64 (.bin .mul .i64 (.conv .i64 (.ivar .i32 0)) (.conv .i64 (.ivar .i32 1)))) (.int .u64 1)) (.int .u64 256))), true) :: (((.cmp .lss (.bin .rem .u64 (.bin .mul .u64 (.conv .u64 (.bin .mul .i64 (.conv .i64 (.ivar .i32 0)) (.conv .i64 (.ivar .i32 1)))) (.int .u64 1)) (.int .u64 256)) (.bin .sub .u64 (.int .u64 256) (.bin .rem .u64 (.bin .mul .u64 (.conv .u64 (.bin .mul .i64 (.conv .i64 (.ivar .i32 0)) (.conv .i64 (.ivar .i32 1)))) (.int .u64 1)) (.int .u64 256)))), true) :: (((.cmp .lss (.int .u64 2147483647) (.bin .quo .u64 (.bin .mul .u64 (.conv .u64 (.bin .add .i64 (.conv .i64 (.ivar .i32 0)) (.conv .i64 (.ivar .i32 1)))) (.int .u64 1)) (.int .u64 1))), true) :: (((.cmp .lss (.conv .i64 (.ivar .i32 0)) (.int .i64 0)), false) :: (((.cmp .lss (.conv .i64 (.ivar .i32 1)) (.int .i64 0)), false) :: [])))))), (.bool false))]
def al1R : List (PC × SE) := al1R0 ++ (al1R1 ++ (al1R2 ++ (al1R3 ++ (al1R4 ++ (al1R5 ++ (al1R6 ++ (al1R7 ++ (al1R8 ++ (al1R9 ++ (al1R10 ++ (al1R11 ++ (al1R12 ++ (al1R13 ++ (al1R14 ++ (al1R15 ++ (al1R16 ++ (al1R17 ++ (al1R18 ++ (al1R19 ++ (al1R20 ++ (al1R21 ++ (al1R22 ++ (al1R23)))))))))))))))))))))))
theorem al1_rest (ρ : Nat → Value) : restOf (callF kn Tryd.prog (tb.at ρ) 300 300 (pcAl false false) 10 ys2 H0) = some al1R := by kernel_rfl
theorem al1_true0 (ρ : Nat → Value) : ∀ q, q ∈ al1R0 → q.1.holds ρ → q.2.truth ρ = true := by
  have ha := v_bounds ρ .i32 0
  have hb := v_bounds ρ .i32 1
  simp only [IntKind.min, IntKind.max, IntKind.bits, IntKind.signed] at ha hb
  simp only [al1R0, all_cons, all_nil, h_cons, h_nil, t_eql, t_lss, t_bool, t_and, t_not, n_int, n_add, n_sub, n_mul, n_conv, n_shr, n_and, n_quo, n_rem, n_max]
  generalize (SE.ivar .i32 0).num ρ = a at ha ⊢
  generalize (SE.ivar .i32 1).num ρ = b at hb ⊢
  simp at ha hb
  have c1 : IntKind.wrap .i64 a = a := wid_i64 a (by omega) (by omega)
  have c2 : IntKind.wrap .i64 b = b := wid_i64 b (by omega) (by omega)
  have hp := prod a b ha hb
  simp only [c1, c2, reduceIte, Bool.false_eq_true, and_true, and_imp, ne_eq]
  clear c1 c2
  generalize a * b = t at hp ⊢
  simp (disch := omega) only [wid_u64, wid_i64, Int.add_zero, Int.one_mul, Int.mul_one]
  by_cases hx : a < 0
  · have e1 := neg_u64 a hx (by omega)
    have e2 := neg_u64 (a * 256) (by omega) (by omega)
    try simp only [e1, e2]
    clear e1 e2
    try simp (disch := omega) only [wid_u64, wid_i64, wid_i32, Int.tdiv_eq_ediv_of_nonneg, Int.tmod_eq_emod_of_nonneg, if_neg, Int.one_mul]
    try simp (disch := omega) only [wid_u64, wid_i64, wid_i32, Int.tdiv_eq_ediv_of_nonneg, Int.tmod_eq_emod_of_nonneg, if_neg, Int.one_mul]
    intros
    first | omega | skip
  · try simp (disch := omega) only [wid_u64, wid_i64, wid_i32, Int.tdiv_eq_ediv_of_nonneg, Int.tmod_eq_emod_of_nonneg, if_neg, Int.one_mul]
    try simp (disch := omega) only [wid_u64, wid_i64, wid_i32, Int.tdiv_eq_ediv_of_nonneg, Int.tmod_eq_emod_of_nonneg, if_neg, Int.one_mul]
    intros
    first | omega | skip
theorem al1_true1 (ρ : Nat → Value) : ∀ q, q ∈ al1R1 → q.1.holds ρ → q.2.truth ρ = true := by
  have ha := v_bounds ρ .i32 0
  have hb := v_bounds ρ .i32 1
  simp only [IntKind.min, IntKind.max, IntKind.bits, IntKind.signed] at ha hb
  simp only [al1R1, all_cons, all_nil, h_cons, h_nil, t_eql, t_lss, t_bool, t_and, t_not, n_int, n_add, n_sub, n_mul, n_conv, n_shr, n_and, n_quo, n_rem, n_max]
  generalize (SE.ivar .i32 0).num ρ = a at ha ⊢
  generalize (SE.ivar .i32 1).num ρ = b at hb ⊢
  simp at ha hb
  have c1 : IntKind.wrap .i64 a = a := wid_i64 a (by omega) (by omega)
  have c2 : IntKind.wrap .i64 b = b := wid_i64 b (by omega) (by omega)
  have hp := prod a b ha hb
  simp only [c1, c2, reduceIte, Bool.false_eq_true, and_true, and_imp, ne_eq]
  clear c1 c2
  generalize a * b = t at hp ⊢
  simp (disch := omega) only [wid_u64, wid_i64, Int.add_zero, Int.one_mul, Int.mul_one]
  by_cases hx : a < 0
  · have e1 := neg_u64 a hx (by omega)
    have e2 := neg_u64 (a * 256) (by omega) (by omega)
    try simp only [e1, e2]
    clear e1 e2
    try simp (disch := omega) only [wid_u64, wid_i64, wid_i32, Int.tdiv_eq_ediv_of_nonneg, Int.tmod_eq_emod_of_nonneg, if_neg, Int.one_mul]
    try simp (disch := omega) only [wid_u64, wid_i64, wid_i32, Int.tdiv_eq_ediv_of_nonneg, Int.tmod_eq_emod_of_nonneg, if_neg, Int.one_mul]
    intros
    first | omega | skip
  · try simp (disch := omega) only [wid_u64, wid_i64, wid_i32, Int.tdiv_eq_ediv_of_nonneg, Int.tmod_eq_emod_of_nonneg, if_neg, Int.one_mul]
    try simp (disch := omega) only [wid_u64, wid_i64, wid_i32, Int.tdiv_eq_ediv_of_nonneg, Int.tmod_eq_emod_of_nonneg, if_neg, Int.one_mul]
    intros
    first | omega | skip
theorem al1_true2 (ρ : Nat → Value) : ∀ q, q ∈ al1R2 → q.1.holds ρ → q.2.truth ρ = true := by
  have ha := v_bounds ρ .i32 0
  have hb := v_bounds ρ .i32 1
  simp only [IntKind.min, IntKind.max, IntKind.bits, IntKind.signed] at ha hb
  simp only [al1R2, all_cons, all_nil, h_cons, h_nil, t_eql, t_lss, t_bool, t_and, t_not, n_int, n_add, n_sub, n_mul, n_conv, n_shr, n_and, n_quo, n_rem, n_max]
  generalize (SE.ivar .i32 0).num ρ = a at ha ⊢
  generalize (SE.ivar .i32 1).num ρ = b at hb ⊢
  simp at ha hb
  have c1 : IntKind.wrap .i64 a = a := wid_i64 a (by omega) (by omega)
  have c2 : IntKind.wrap .i64 b = b := wid_i64 b (by omega) (by omega)
  have hp := prod a b ha hb
  simp only [c1, c2, reduceIte, Bool.false_eq_true, and_true, and_imp, ne_eq]
  clear c1 c2
  generalize a * b = t at hp ⊢
  simp (disch := omega) only [wid_u64, wid_i64, Int.add_zero, Int.one_mul, Int.mul_one]
  by_cases hx : a < 0
  · have e1 := neg_u64 a hx (by omega)
    have e2 := neg_u64 (a * 256) (by omega) (by omega)
    try simp only [e1, e2]
    clear e1 e2
    try simp (disch := omega) only [wid_u64, wid_i64, wid_i32, Int.tdiv_eq_ediv_of_nonneg, Int.tmod_eq_emod_of_nonneg, if_neg, Int.one_mul]
    try simp (disch := omega) only [wid_u64, wid_i64, wid_i32, Int.tdiv_eq_ediv_of_nonneg, Int.tmod_eq_emod_of_nonneg, if_neg, Int.one_mul]
    intros
    first | omega | skip
  · try simp (disch := omega) only [wid_u64, wid_i64, wid_i32, Int.tdiv_eq_ediv_of_nonneg, Int.tmod_eq_emod_of_nonneg, if_neg, Int.one_mul]
    try simp (disch := omega) only [wid_u64, wid_i64, wid_i32, Int.tdiv_eq_ediv_of_nonneg, Int.tmod_eq_emod_of_nonneg, if_neg, Int.one_mul]
    intros
    first | omega | skip
theorem al1_true3 (ρ : Nat → Value) : ∀ q, q ∈ al1R3 → q.1.holds ρ → q.2.truth ρ = true := by
  have ha := v_bounds ρ .i32 0
  have hb := v_bounds ρ .i32 1
  simp only [IntKind.min, IntKind.max, IntKind.bits, IntKind.signed] at ha hb
  simp only [al1R3, all_cons, all_nil, h_cons, h_nil, t_eql, t_lss, t_bool, t_and, t_not, n_int, n_add, n_sub, n_mul, n_conv, n_shr, n_and, n_quo, n_rem, n_max]
  generalize (SE.ivar .i32 0).num ρ = a at ha ⊢
  generalize (SE.ivar .i32 1).num ρ = b at hb ⊢
  simp at ha hb
  have c1 : IntKind.wrap .i64 a = a := wid_i64 a (by omega) (by omega)
  have c2 : IntKind.wrap .i64 b = b := wid_i64 b (by omega) (by omega)
  have hp := prod a b ha hb
  simp only [c1, c2, reduceIte, Bool.false_eq_true, and_true, and_imp, ne_eq]
  clear c1 c2
  generalize a * b = t at hp ⊢
  simp (disch := omega) only [wid_u64, wid_i64, Int.add_zero, Int.one_mul, Int.mul_one]
  by_cases hx : a < 0
  · have e1 := neg_u64 a hx (by omega)
    have e2 := neg_u64 (a * 256) (by omega) (by omega)
    try simp only [e1, e2]
    clear e1 e2
    try simp (disch := omega) only [wid_u64, wid_i64, wid_i32, Int.tdiv_eq_ediv_of_nonneg, Int.tmod_eq_emod_of_nonneg, if_neg, Int.one_mul]
    try simp (disch := omega) only [wid_u64, wid_i64, wid_i32, Int.tdiv_eq_ediv_of_nonneg, Int.tmod_eq_emod_of_nonneg, if_neg, Int.one_mul]
    intros
    first | omega | skip
  · try simp (disch := omega) only [wid_u64, wid_i64, wid_i32, Int.tdiv_eq_ediv_of_nonneg, Int.tmod_eq_emod_of_nonneg, if_neg, Int.one_mul]
    try simp (disch := omega) only [wid_u64, wid_i64, wid_i32, Int.tdiv_eq_ediv_of_nonneg, Int.tmod_eq_emod_of_nonneg, if_neg, Int.one_mul]
    intros
    first | omega | skip
theorem al1_true4 (ρ : Nat → Value) : ∀ q, q ∈ al1R4 → q.1.holds ρ → q.2.truth ρ = true := by
  have ha := v_bounds ρ .i32 0
  have hb := v_bounds ρ .i32 1
  simp only [IntKind.min, IntKind.max, IntKind.bits, IntKind.signed] at ha hb
  simp only [al1R4, all_cons, all_nil, h_cons, h_nil, t_eql, t_lss, t_bool, t_and, t_not, n_int, n_add, n_sub, n_mul, n_conv, n_shr, n_and, n_quo, n_rem, n_max]
  generalize (SE.ivar .i32 0).num ρ = a at ha ⊢
  generalize (SE.ivar .i32 1).num ρ = b at hb ⊢
  simp at ha hb
  have c1 : IntKind.wrap .i64 a = a := wid_i64 a (by omega) (by omega)
  have c2 : IntKind.wrap .i64 b = b := wid_i64 b (by omega) (by omega)
  have hp := prod a b ha hb
  simp only [c1, c2, reduceIte, Bool.false_eq_true, and_true, and_imp, ne_eq]
  clear c1 c2
  generalize a * b = t at hp ⊢
  simp (disch := omega) only [wid_u64, wid_i64, Int.add_zero, Int.one_mul, Int.mul_one]
  by_cases hx : a < 0
  · have e1 := neg_u64 a hx (by omega)
    have e2 := neg_u64 (a * 256) (by omega) (by omega)
    try simp only [e1, e2]
    clear e1 e2
    try simp (disch := omega) only [wid_u64, wid_i64, wid_i32, Int.tdiv_eq_ediv_of_nonneg, Int.tmod_eq_emod_of_nonneg, if_neg, Int.one_mul]
    try simp (disch := omega) only [wid_u64, wid_i64, wid_i32, Int.tdiv_eq_ediv_of_nonneg, Int.tmod_eq_emod_of_nonneg, if_neg, Int.one_mul]
    intros
    first | omega | skip
  · try simp (disch := omega) only [wid_u64, wid_i64, wid_i32, Int.tdiv_eq_ediv_of_nonneg, Int.tmod_eq_emod_of_nonneg, if_neg, Int.one_mul]
    try simp (disch := omega) only [wid_u64, wid_i64, wid_i32, Int.tdiv_eq_ediv_of_nonneg, Int.tmod_eq_emod_of_nonneg, if_neg, Int.one_mul]
    intros
    first | omega | skip
theorem al1_true5 (ρ : Nat → Value) : ∀ q, q ∈ al1R5 → q.1.holds ρ → q.2.truth ρ = true := by
  have ha := v_bounds ρ .i32 0
  have hb := v_bounds ρ .i32 1
  simp only [IntKind.min, IntKind.max, IntKind.bits, IntKind.signed] at ha hb
  simp only [al1R5, all_cons, all_nil, h_cons, h_nil, t_eql, t_lss, t_bool, t_and, t_not, n_int, n_add, n_sub, n_mul, n_conv, n_shr, n_and, n_quo, n_rem, n_max]
  generalize (SE.ivar .i32 0).num ρ = a at ha ⊢
  generalize (SE.ivar .i32 1).num ρ = b at hb ⊢
  simp at ha hb
  have c1 : IntKind.wrap .i64 a = a := wid_i64 a (by omega) (by omega)
  have c2 : IntKind.wrap .i64 b = b := wid_i64 b (by omega) (by omega)
  have hp := prod a b ha hb
  simp only [c1, c2, reduceIte, Bool.false_eq_true, and_true, and_imp, ne_eq]
  clear c1 c2
  generalize a * b = t at hp ⊢
  simp (disch := omega) only [wid_u64, wid_i64, Int.add_zero, Int.one_mul, Int.mul_one]
  by_cases hx : a < 0
  · have e1 := neg_u64 a hx (by omega)
    have e2 := neg_u64 (a * 256) (by omega) (by omega)
    try simp only [e1, e2]
    clear e1 e2
    try simp (disch := omega) only [wid_u64, wid_i64, wid_i32, Int.tdiv_eq_ediv_of_nonneg, Int.tmod_eq_emod_of_nonneg, if_neg, Int.one_mul]
    try simp (disch := omega) only [wid_u64, wid_i64, wid_i32, Int.tdiv_eq_ediv_of_nonneg, Int.tmod_eq_emod_of_nonneg, if_neg, Int.one_mul]
    intros
    first | omega | skip
  · try simp (disch := omega) only [wid_u64, wid_i64, wid_i32, Int.tdiv_eq_ediv_of_nonneg, Int.tmod_eq_emod_of_nonneg, if_neg, Int.one_mul]
    try simp (disch := omega) only [wid_u64, wid_i64, wid_i32, Int.tdiv_eq_ediv_of_nonneg, Int.tmod_eq_emod_of_nonneg, if_neg, Int.one_mul]
    intros
    first | omega | skip
theorem al1_true6 (ρ : Nat → Value) : ∀ q, q ∈ al1R6 → q.1.holds ρ → q.2.truth ρ = true := by
  have ha := v_bounds ρ .i32 0
  have hb := v_bounds ρ .i32 1
  simp only [IntKind.min, IntKind.max, IntKind.bits, IntKind.signed] at ha hb
  simp only [al1R6, all_cons, all_nil, h_cons, h_nil, t_eql, t_lss, t_bool, t_and, t_not, n_int, n_add, n_sub, n_mul, n_conv, n_shr, n_and, n_quo, n_rem, n_max]
  generalize (SE.ivar .i32 0).num ρ = a at ha ⊢
  generalize (SE.ivar .i32 1).num ρ = b at hb ⊢
  simp at ha hb
  have c1 : IntKind.wrap .i64 a = a := wid_i64 a (by omega) (by omega)
  have c2 : IntKind.wrap .i64 b = b := wid_i64 b (by omega) (by omega)
  have hp := prod a b ha hb
  simp only [c1, c2, reduceIte, Bool.false_eq_true, and_true, and_imp, ne_eq]
  clear c1 c2
  generalize a * b = t at hp ⊢
  simp (disch := omega) only [wid_u64, wid_i64, Int.add_zero, Int.one_mul, Int.mul_one]
  by_cases hx : a < 0
  · have e1 := neg_u64 a hx (by omega)
    have e2 := neg_u64 (a * 256) (by omega) (by omega)
    try simp only [e1, e2]
    clear e1 e2
    try simp (disch := omega) only [wid_u64, wid_i64, wid_i32, Int.tdiv_eq_ediv_of_nonneg, Int.tmod_eq_emod_of_nonneg, if_neg, Int.one_mul]
    try simp (disch := omega) only [wid_u64, wid_i64, wid_i32, Int.tdiv_eq_ediv_of_nonneg, Int.tmod_eq_emod_of_nonneg, if_neg, Int.one_mul]
    intros
    first | omega | skip
  · try simp (disch := omega) only [wid_u64, wid_i64, wid_i32, Int.tdiv_eq_ediv_of_nonneg, Int.tmod_eq_emod_of_nonneg, if_neg, Int.one_mul]
    try simp (disch := omega) only [wid_u64, wid_i64, wid_i32, Int.tdiv_eq_ediv_of_nonneg, Int.tmod_eq_emod_of_nonneg, if_neg, Int.one_mul]
    intros
    first | omega | skip
theorem al1_true7 (ρ : Nat → Value) : ∀ q, q ∈ al1R7 → q.1.holds ρ → q.2.truth ρ = true := by
  have ha := v_bounds ρ .i32 0
  have hb := v_bounds ρ .i32 1
  simp only [IntKind.min, IntKind.max, IntKind.bits, IntKind.signed] at ha hb
  simp only [al1R7, all_cons, all_nil, h_cons, h_nil, t_eql, t_lss, t_bool, t_and, t_not, n_int, n_add, n_sub, n_mul, n_conv, n_shr, n_and, n_quo, n_rem, n_max]
  generalize (SE.ivar .i32 0).num ρ = a at ha ⊢
  generalize (SE.ivar .i32 1).num ρ = b at hb ⊢
  simp at ha hb
  have c1 : IntKind.wrap .i64 a = a := wid_i64 a (by omega) (by omega)
  have c2 : IntKind.wrap .i64 b = b := wid_i64 b (by omega) (by omega)
  have hp := prod a b ha hb
  simp only [c1, c2, reduceIte, Bool.false_eq_true, and_true, and_imp, ne_eq]
  clear c1 c2
  generalize a * b = t at hp ⊢
  simp (disch := omega) only [wid_u64, wid_i64, Int.add_zero, Int.one_mul, Int.mul_one]
  by_cases hx : a < 0
  · have e1 := neg_u64 a hx (by omega)
    have e2 := neg_u64 (a * 256) (by omega) (by omega)
    try simp only [e1, e2]
    clear e1 e2
    try simp (disch := omega) only [wid_u64, wid_i64, wid_i32, Int.tdiv_eq_ediv_of_nonneg, Int.tmod_eq_emod_of_nonneg, if_neg, Int.one_mul]
    try simp (disch := omega) only [wid_u64, wid_i64, wid_i32, Int.tdiv_eq_ediv_of_nonneg, Int.tmod_eq_emod_of_nonneg, if_neg, Int.one_mul]
    intros
    first | omega | skip
  · try simp (disch := omega) only [wid_u64, wid_i64, wid_i32, Int.tdiv_eq_ediv_of_nonneg, Int.tmod_eq_emod_of_nonneg, if_neg, Int.one_mul]
    try simp (disch := omega) only [wid_u64, wid_i64, wid_i32, Int.tdiv_eq_ediv_of_nonneg, Int.tmod_eq_emod_of_nonneg, if_neg, Int.one_mul]
    intros
    first | omega | skip
theorem al1_true8 (ρ : Nat → Value) : ∀ q, q ∈ al1R8 → q.1.holds ρ → q.2.truth ρ = true := by
  have ha := v_bounds ρ .i32 0
  have hb := v_bounds ρ .i32 1
  simp only [IntKind.min, IntKind.max, IntKind.bits, IntKind.signed] at ha hb
  simp only [al1R8, all_cons, all_nil, h_cons, h_nil, t_eql, t_lss, t_bool, t_and, t_not, n_int, n_add, n_sub, n_mul, n_conv, n_shr, n_and, n_quo, n_rem, n_max]
  generalize (SE.ivar .i32 0).num ρ = a at ha ⊢
  generalize (SE.ivar .i32 1).num ρ = b at hb ⊢
  simp at ha hb
  have c1 : IntKind.wrap .i64 a = a := wid_i64 a (by omega) (by omega)
  have c2 : IntKind.wrap .i64 b = b := wid_i64 b (by omega) (by omega)
  have hp := prod a b ha hb
  simp only [c1, c2, reduceIte, Bool.false_eq_true, and_true, and_imp, ne_eq]
  clear c1 c2
  generalize a * b = t at hp ⊢
  simp (disch := omega) only [wid_u64, wid_i64, Int.add_zero, Int.one_mul, Int.mul_one]
  by_cases hx : a < 0
  · have e1 := neg_u64 a hx (by omega)
    have e2 := neg_u64 (a * 256) (by omega) (by omega)
    try simp only [e1, e2]
    clear e1 e2
    try simp (disch := omega) only [wid_u64, wid_i64, wid_i32, Int.tdiv_eq_ediv_of_nonneg, Int.tmod_eq_emod_of_nonneg, if_neg, Int.one_mul]
    try simp (disch := omega) only [wid_u64, wid_i64, wid_i32, Int.tdiv_eq_ediv_of_nonneg, Int.tmod_eq_emod_of_nonneg, if_neg, Int.one_mul]
    intros
    first | omega | skip
  · try simp (disch := omega) only [wid_u64, wid_i64, wid_i32, Int.tdiv_eq_ediv_of_nonneg, Int.tmod_eq_emod_of_nonneg, if_neg, Int.one_mul]
    try simp (disch := omega) only [wid_u64, wid_i64, wid_i32, Int.tdiv_eq_ediv_of_nonneg, Int.tmod_eq_emod_of_nonneg, if_neg, Int.one_mul]
    intros
    first | omega | skip
theorem al1_true9 (ρ : Nat → Value) : ∀ q, q ∈ al1R9 → q.1.holds ρ → q.2.truth ρ = true := by
  have ha := v_bounds ρ .i32 0
  have hb := v_bounds ρ .i32 1
  simp only [IntKind.min, IntKind.max, IntKind.bits, IntKind.signed] at ha hb
  simp only [al1R9, all_cons, all_nil, h_cons, h_nil, t_eql, t_lss, t_bool, t_and, t_not, n_int, n_add, n_sub, n_mul, n_conv, n_shr, n_and, n_quo, n_rem, n_max]
  generalize (SE.ivar .i32 0).num ρ = a at ha ⊢
  generalize (SE.ivar .i32 1).num ρ = b at hb ⊢
  simp at ha hb
  have c1 : IntKind.wrap .i64 a = a := wid_i64 a (by omega) (by omega)
  have c2 : IntKind.wrap .i64 b = b := wid_i64 b (by omega) (by omega)
  have hp := prod a b ha hb
  simp only [c1, c2, reduceIte, Bool.false_eq_true, and_true, and_imp, ne_eq]
  clear c1 c2
  generalize a * b = t at hp ⊢
  simp (disch := omega) only [wid_u64, wid_i64, Int.add_zero, Int.one_mul, Int.mul_one]
  by_cases hx : a < 0
  · have e1 := neg_u64 a hx (by omega)
    have e2 := neg_u64 (a * 256) (by omega) (by omega)
    try simp only [e1, e2]
    clear e1 e2
    try simp (disch := omega) only [wid_u64, wid_i64, wid_i32, Int.tdiv_eq_ediv_of_nonneg, Int.tmod_eq_emod_of_nonneg, if_neg, Int.one_mul]
    try simp (disch := omega) only [wid_u64, wid_i64, wid_i32, Int.tdiv_eq_ediv_of_nonneg, Int.tmod_eq_emod_of_nonneg, if_neg, Int.one_mul]
    intros
    first | omega | skip
  · try simp (disch := omega) only [wid_u64, wid_i64, wid_i32, Int.tdiv_eq_ediv_of_nonneg, Int.tmod_eq_emod_of_nonneg, if_neg, Int.one_mul]
    try simp (disch := omega) only [wid_u64, wid_i64, wid_i32, Int.tdiv_eq_ediv_of_nonneg, Int.tmod_eq_emod_of_nonneg, if_neg, Int.one_mul]
    intros
    first | omega | skip
theorem al1_true10 (ρ : Nat → Value) : ∀ q, q ∈ al1R10 → q.1.holds ρ → q.2.truth ρ = true := by
  have ha := v_bounds ρ .i32 0
  have hb := v_bounds ρ .i32 1
  simp only [IntKind.min, IntKind.max, IntKind.bits, IntKind.signed] at ha hb
  simp only [al1R10, all_cons, all_nil, h_cons, h_nil, t_eql, t_lss, t_bool, t_and, t_not, n_int, n_add, n_sub, n_mul, n_conv, n_shr, n_and, n_quo, n_rem, n_max]
  generalize (SE.ivar .i32 0).num ρ = a at ha ⊢
  generalize (SE.ivar .i32 1).num ρ = b at hb ⊢
  simp at ha hb
  have c1 : IntKind.wrap .i64 a = a := wid_i64 a (by omega) (by omega)
  have c2 : IntKind.wrap .i64 b = b := wid_i64 b (by omega) (by omega)
  have hp := prod a b ha hb
  simp only [c1, c2, reduceIte, Bool.false_eq_true, and_true, and_imp, ne_eq]
  clear c1 c2
  generalize a * b = t at hp ⊢
  simp (disch := omega) only [wid_u64, wid_i64, Int.add_zero, Int.one_mul, Int.mul_one]
  by_cases hx : a < 0
  · have e1 := neg_u64 a hx (by omega)
    have e2 := neg_u64 (a * 256) (by omega) (by omega)
    try simp only [e1, e2]
    clear e1 e2
    try simp (disch := omega) only [wid_u64, wid_i64, wid_i32, Int.tdiv_eq_ediv_of_nonneg, Int.tmod_eq_emod_of_nonneg, if_neg, Int.one_mul]
    try simp (disch := omega) only [wid_u64, wid_i64, wid_i32, Int.tdiv_eq_ediv_of_nonneg, Int.tmod_eq_emod_of_nonneg, if_neg, Int.one_mul]
    intros
    first | omega | skip
  · try simp (disch := omega) only [wid_u64, wid_i64, wid_i32, Int.tdiv_eq_ediv_of_nonneg, Int.tmod_eq_emod_of_nonneg, if_neg, Int.one_mul]
    try simp (disch := omega) only [wid_u64, wid_i64, wid_i32, Int.tdiv_eq_ediv_of_nonneg, Int.tmod_eq_emod_of_nonneg, if_neg, Int.one_mul]
    intros
    first | omega | skip
theorem al1_true11 (ρ : Nat → Value) : ∀ q, q ∈ al1R11 → q.1.holds ρ → q.2.truth ρ = true := by
  have ha := v_bounds ρ .i32 0
  have hb := v_bounds ρ .i32 1
  simp only [IntKind.min, IntKind.max, IntKind.bits, IntKind.signed] at ha hb
  simp only [al1R11, all_cons, all_nil, h_cons, h_nil, t_eql, t_lss, t_bool, t_and, t_not, n_int, n_add, n_sub, n_mul, n_conv, n_shr, n_and, n_quo, n_rem, n_max]
  generalize (SE.ivar .i32 0).num ρ = a at ha ⊢
  generalize (SE.ivar .i32 1).num ρ = b at hb ⊢
  simp at ha hb
  have c1 : IntKind.wrap .i64 a = a := wid_i64 a (by omega) (by omega)
  have c2 : IntKind.wrap .i64 b = b := wid_i64 b (by omega) (by omega)
  have hp := prod a b ha hb
  simp only [c1, c2, reduceIte, Bool.false_eq_true, and_true, and_imp, ne_eq]
  clear c1 c2
  generalize a * b = t at hp ⊢
  simp (disch := omega) only [wid_u64, wid_i64, Int.add_zero, Int.one_mul, Int.mul_one]
  by_cases hx : a < 0
  · have e1 := neg_u64 a hx (by omega)
    have e2 := neg_u64 (a * 256) (by omega) (by omega)
    try simp only [e1, e2]
    clear e1 e2
    try simp (disch := omega) only [wid_u64, wid_i64, wid_i32, Int.tdiv_eq_ediv_of_nonneg, Int.tmod_eq_emod_of_nonneg, if_neg, Int.one_mul]
    try simp (disch := omega) only [wid_u64, wid_i64, wid_i32, Int.tdiv_eq_ediv_of_nonneg, Int.tmod_eq_emod_of_nonneg, if_neg, Int.one_mul]
    intros
    first | omega | skip
  · try simp (disch := omega) only [wid_u64, wid_i64, wid_i32, Int.tdiv_eq_ediv_of_nonneg, Int.tmod_eq_emod_of_nonneg, if_neg, Int.one_mul]
    try simp (disch := omega) only [wid_u64, wid_i64, wid_i32, Int.tdiv_eq_ediv_of_nonneg, Int.tmod_eq_emod_of_nonneg, if_neg, Int.one_mul]
    intros
    first | omega | skip
theorem al1_true12 (ρ : Nat → Value) : ∀ q, q ∈ al1R12 → q.1.holds ρ → q.2.truth ρ = true := by
  have ha := v_bounds ρ .i32 0
  have hb := v_bounds ρ .i32 1
  simp only [IntKind.min, IntKind.max, IntKind.bits, IntKind.signed] at ha hb
  simp only [al1R12, all_cons, all_nil, h_cons, h_nil, t_eql, t_lss, t_bool, t_and, t_not, n_int, n_add, n_sub, n_mul, n_conv, n_shr, n_and, n_quo, n_rem, n_max]
  generalize (SE.ivar .i32 0).num ρ = a at ha ⊢
  generalize (SE.ivar .i32 1).num ρ = b at hb ⊢
  simp at ha hb
  have c1 : IntKind.wrap .i64 a = a := wid_i64 a (by omega) (by omega)
  have c2 : IntKind.wrap .i64 b = b := wid_i64 b (by omega) (by omega)
  have hp := prod a b ha hb
  simp only [c1, c2, reduceIte, Bool.false_eq_true, and_true, and_imp, ne_eq]
  clear c1 c2
  generalize a * b = t at hp ⊢
  simp (disch := omega) only [wid_u64, wid_i64, Int.add_zero, Int.one_mul, Int.mul_one]
  by_cases hx : a < 0
  · have e1 := neg_u64 a hx (by omega)
    have e2 := neg_u64 (a * 256) (by omega) (by omega)
    try simp only [e1, e2]
    clear e1 e2
    try simp (disch := omega) only [wid_u64, wid_i64, wid_i32, Int.tdiv_eq_ediv_of_nonneg, Int.tmod_eq_emod_of_nonneg, if_neg, Int.one_mul]
    try simp (disch := omega) only [wid_u64, wid_i64, wid_i32, Int.tdiv_eq_ediv_of_nonneg, Int.tmod_eq_emod_of_nonneg, if_neg, Int.one_mul]
    intros
    first | omega | skip
  · try simp (disch := omega) only [wid_u64, wid_i64, wid_i32, Int.tdiv_eq_ediv_of_nonneg, Int.tmod_eq_emod_of_nonneg, if_neg, Int.one_mul]
    try simp (disch := omega) only [wid_u64, wid_i64, wid_i32, Int.tdiv_eq_ediv_of_nonneg, Int.tmod_eq_emod_of_nonneg, if_neg, Int.one_mul]
    intros
    first | omega | skip
theorem al1_true13 (ρ : Nat → Value) : ∀ q, q ∈ al1R13 → q.1.holds ρ → q.2.truth ρ = true := by
  have ha := v_bounds ρ .i32 0
  have hb := v_bounds ρ .i32 1
  simp only [IntKind.min, IntKind.max, IntKind.bits, IntKind.signed] at ha hb
  simp only [al1R13, all_cons, all_nil, h_cons, h_nil, t_eql, t_lss, t_bool, t_and, t_not, n_int, n_add, n_sub, n_mul, n_conv, n_shr, n_and, n_quo, n_rem, n_max]
  generalize (SE.ivar .i32 0).num ρ = a at ha ⊢
  generalize (SE.ivar .i32 1).num ρ = b at hb ⊢
  simp at ha hb
  have c1 : IntKind.wrap .i64 a = a := wid_i64 a (by omega) (by omega)
  have c2 : IntKind.wrap .i64 b = b := wid_i64 b (by omega) (by omega)
  have hp := prod a b ha hb
  simp only [c1, c2, reduceIte, Bool.false_eq_true, and_true, and_imp, ne_eq]
  clear c1 c2
  generalize a * b = t at hp ⊢
  simp (disch := omega) only [wid_u64, wid_i64, Int.add_zero, Int.one_mul, Int.mul_one]
  by_cases hx : a < 0
  · have e1 := neg_u64 a hx (by omega)
    have e2 := neg_u64 (a * 256) (by omega) (by omega)
    try simp only [e1, e2]
    clear e1 e2
    try simp (disch := omega) only [wid_u64, wid_i64, wid_i32, Int.tdiv_eq_ediv_of_nonneg, Int.tmod_eq_emod_of_nonneg, if_neg, Int.one_mul]
    try simp (disch := omega) only [wid_u64, wid_i64, wid_i32, Int.tdiv_eq_ediv_of_nonneg, Int.tmod_eq_emod_of_nonneg, if_neg, Int.one_mul]
    intros
    first | omega | skip
  · try simp (disch := omega) only [wid_u64, wid_i64, wid_i32, Int.tdiv_eq_ediv_of_nonneg, Int.tmod_eq_emod_of_nonneg, if_neg, Int.one_mul]
    try simp (disch := omega) only [wid_u64, wid_i64, wid_i32, Int.tdiv_eq_ediv_of_nonneg, Int.tmod_eq_emod_of_nonneg, if_neg, Int.one_mul]
    intros
    first | omega | skip
theorem al1_true14 (ρ : Nat → Value) : ∀ q, q ∈ al1R14 → q.1.holds ρ → q.2.truth ρ = true := by
  have ha := v_bounds ρ .i32 0
  have hb := v_bounds ρ .i32 1
  simp only [IntKind.min, IntKind.max, IntKind.bits, IntKind.signed] at ha hb
  simp only [al1R14, all_cons, all_nil, h_cons, h_nil, t_eql, t_lss, t_bool, t_and, t_not, n_int, n_add, n_sub, n_mul, n_conv, n_shr, n_and, n_quo, n_rem, n_max]
  generalize (SE.ivar .i32 0).num ρ = a at ha ⊢
  generalize (SE.ivar .i32 1).num ρ = b at hb ⊢
  simp at ha hb
  have c1 : IntKind.wrap .i64 a = a := wid_i64 a (by omega) (by omega)
  have c2 : IntKind.wrap .i64 b = b := wid_i64 b (by omega) (by omega)
  have hp := prod a b ha hb
  simp only [c1, c2, reduceIte, Bool.false_eq_true, and_true, and_imp, ne_eq]
  clear c1 c2
  generalize a * b = t at hp ⊢
  simp (disch := omega) only [wid_u64, wid_i64, Int.add_zero, Int.one_mul, Int.mul_one]
  by_cases hx : a < 0
  · have e1 := neg_u64 a hx (by omega)
    have e2 := neg_u64 (a * 256) (by omega) (by omega)
    try simp only [e1, e2]
    clear e1 e2
    try simp (disch := omega) only [wid_u64, wid_i64, wid_i32, Int.tdiv_eq_ediv_of_nonneg, Int.tmod_eq_emod_of_nonneg, if_neg, Int.one_mul]
    try simp (disch := omega) only [wid_u64, wid_i64, wid_i32, Int.tdiv_eq_ediv_of_nonneg, Int.tmod_eq_emod_of_nonneg, if_neg, Int.one_mul]
    intros
    first | omega | skip
  · try simp (disch := omega) only [wid_u64, wid_i64, wid_i32, Int.tdiv_eq_ediv_of_nonneg, Int.tmod_eq_emod_of_nonneg, if_neg, Int.one_mul]
    try simp (disch := omega) only [wid_u64, wid_i64, wid_i32, Int.tdiv_eq_ediv_of_nonneg, Int.tmod_eq_emod_of_nonneg, if_neg, Int.one_mul]
    intros
    first | omega | skip
theorem al1_true15 (ρ : Nat → Value) : ∀ q, q ∈ al1R15 → q.1.holds ρ → q.2.truth ρ = true := by
  have ha := v_bounds ρ .i32 0
  have hb := v_bounds ρ .i32 1
  simp only [IntKind.min, IntKind.max, IntKind.bits, IntKind.signed] at ha hb
  simp only [al1R15, all_cons, all_nil, h_cons, h_nil, t_eql, t_lss, t_bool, t_and, t_not, n_int, n_add, n_sub, n_mul, n_conv, n_shr, n_and, n_quo, n_rem, n_max]
  generalize (SE.ivar .i32 0).num ρ = a at ha ⊢
  generalize (SE.ivar .i32 1).num ρ = b at hb ⊢
  simp at ha hb
  have c1 : IntKind.wrap .i64 a = a := wid_i64 a (by omega) (by omega)
  have c2 : IntKind.wrap .i64 b = b := wid_i64 b (by omega) (by omega)
  have hp := prod a b ha hb
  simp only [c1, c2, reduceIte, Bool.false_eq_true, and_true, and_imp, ne_eq]
  clear c1 c2
  generalize a * b = t at hp ⊢
  simp (disch := omega) only [wid_u64, wid_i64, Int.add_zero, Int.one_mul, Int.mul_one]
  by_cases hx : a < 0
  · have e1 := neg_u64 a hx (by omega)
    have e2 := neg_u64 (a * 256) (by omega) (by omega)
    try simp only [e1, e2]
    clear e1 e2
    try simp (disch := omega) only [wid_u64, wid_i64, wid_i32, Int.tdiv_eq_ediv_of_nonneg, Int.tmod_eq_emod_of_nonneg, if_neg, Int.one_mul]
    try simp (disch := omega) only [wid_u64, wid_i64, wid_i32, Int.tdiv_eq_ediv_of_nonneg, Int.tmod_eq_emod_of_nonneg, if_neg, Int.one_mul]
    intros
    first | omega | skip
  · try simp (disch := omega) only [wid_u64, wid_i64, wid_i32, Int.tdiv_eq_ediv_of_nonneg, Int.tmod_eq_emod_of_nonneg, if_neg, Int.one_mul]
    try simp (disch := omega) only [wid_u64, wid_i64, wid_i32, Int.tdiv_eq_ediv_of_nonneg, Int.tmod_eq_emod_of_nonneg, if_neg, Int.one_mul]
    intros
    first | omega | skip
theorem al1_true16 (ρ : Nat → Value) : ∀ q, q ∈ al1R16 → q.1.holds ρ → q.2.truth ρ = true := by
  have ha := v_bounds ρ .i32 0
  have hb := v_bounds ρ .i32 1
  simp only [IntKind.min, IntKind.max, IntKind.bits, IntKind.signed] at ha hb
  simp only [al1R16, all_cons, all_nil, h_cons, h_nil, t_eql, t_lss, t_bool, t_and, t_not, n_int, n_add, n_sub, n_mul, n_conv, n_shr, n_and, n_quo, n_rem, n_max]
  generalize (SE.ivar .i32 0).num ρ = a at ha ⊢
  generalize (SE.ivar .i32 1).num ρ = b at hb ⊢
  simp at ha hb
  have c1 : IntKind.wrap .i64 a = a := wid_i64 a (by omega) (by omega)
  have c2 : IntKind.wrap .i64 b = b := wid_i64 b (by omega) (by omega)
  have hp := prod a b ha hb
  simp only [c1, c2, reduceIte, Bool.false_eq_true, and_true, and_imp, ne_eq]
  clear c1 c2
  generalize a * b = t at hp ⊢
  simp (disch := omega) only [wid_u64, wid_i64, Int.add_zero, Int.one_mul, Int.mul_one]
  by_cases hx : a < 0
  · have e1 := neg_u64 a hx (by omega)
    have e2 := neg_u64 (a * 256) (by omega) (by omega)
    try simp only [e1, e2]
    clear e1 e2
    try simp (disch := omega) only [wid_u64, wid_i64, wid_i32, Int.tdiv_eq_ediv_of_nonneg, Int.tmod_eq_emod_of_nonneg, if_neg, Int.one_mul]
    try simp (disch := omega) only [wid_u64, wid_i64, wid_i32, Int.tdiv_eq_ediv_of_nonneg, Int.tmod_eq_emod_of_nonneg, if_neg, Int.one_mul]
    intros
    first | omega | skip
  · try simp (disch := omega) only [wid_u64, wid_i64, wid_i32, Int.tdiv_eq_ediv_of_nonneg, Int.tmod_eq_emod_of_nonneg, if_neg, Int.one_mul]
    try simp (disch := omega) only [wid_u64, wid_i64, wid_i32, Int.tdiv_eq_ediv_of_nonneg, Int.tmod_eq_emod_of_nonneg, if_neg, Int.one_mul]
    intros
    first | omega | skip
theorem al1_true17 (ρ : Nat → Value) : ∀ q, q ∈ al1R17 → q.1.holds ρ → q.2.truth ρ = true := by
  have ha := v_bounds ρ .i32 0
  have hb := v_bounds ρ .i32 1
  simp only [IntKind.min, IntKind.max, IntKind.bits, IntKind.signed] at ha hb
  simp only [al1R17, all_cons, all_nil, h_cons, h_nil, t_eql, t_lss, t_bool, t_and, t_not, n_int, n_add, n_sub, n_mul, n_conv, n_shr, n_and, n_quo, n_rem, n_max]
  generalize (SE.ivar .i32 0).num ρ = a at ha ⊢
  generalize (SE.ivar .i32 1).num ρ = b at hb ⊢
  simp at ha hb
  have c1 : IntKind.wrap .i64 a = a := wid_i64 a (by omega) (by omega)
  have c2 : IntKind.wrap .i64 b = b := wid_i64 b (by omega) (by omega)
  have hp := prod a b ha hb
  simp only [c1, c2, reduceIte, Bool.false_eq_true, and_true, and_imp, ne_eq]
  clear c1 c2
  generalize a * b = t at hp ⊢
  simp (disch := omega) only [wid_u64, wid_i64, Int.add_zero, Int.one_mul, Int.mul_one]
  by_cases hx : a < 0
  · have e1 := neg_u64 a hx (by omega)
    have e2 := neg_u64 (a * 256) (by omega) (by omega)
    try simp only [e1, e2]
    clear e1 e2
    try simp (disch := omega) only [wid_u64, wid_i64, wid_i32, Int.tdiv_eq_ediv_of_nonneg, Int.tmod_eq_emod_of_nonneg, if_neg, Int.one_mul]
    try simp (disch := omega) only [wid_u64, wid_i64, wid_i32, Int.tdiv_eq_ediv_of_nonneg, Int.tmod_eq_emod_of_nonneg, if_neg, Int.one_mul]
    intros
    first | omega | skip
  · try simp (disch := omega) only [wid_u64, wid_i64, wid_i32, Int.tdiv_eq_ediv_of_nonneg, Int.tmod_eq_emod_of_nonneg, if_neg, Int.one_mul]
    try simp (disch := omega) only [wid_u64, wid_i64, wid_i32, Int.tdiv_eq_ediv_of_nonneg, Int.tmod_eq_emod_of_nonneg, if_neg, Int.one_mul]
    intros
    first | omega | skip
theorem al1_true18 (ρ : Nat → Value) : ∀ q, q ∈ al1R18 → q.1.holds ρ → q.2.truth ρ = true := by
  have ha := v_bounds ρ .i32 0
  have hb := v_bounds ρ .i32 1
  simp only [IntKind.min, IntKind.max, IntKind.bits, IntKind.signed] at ha hb
  simp only [al1R18, all_cons, all_nil, h_cons, h_nil, t_eql, t_lss, t_bool, t_and, t_not, n_int, n_add, n_sub, n_mul, n_conv, n_shr, n_and, n_quo, n_rem, n_max]
  generalize (SE.ivar .i32 0).num ρ = a at ha ⊢
  generalize (SE.ivar .i32 1).num ρ = b at hb ⊢
  simp at ha hb
  have c1 : IntKind.wrap .i64 a = a := wid_i64 a (by omega) (by omega)
  have c2 : IntKind.wrap .i64 b = b := wid_i64 b (by omega) (by omega)
  have hp := prod a b ha hb
  simp only [c1, c2, reduceIte, Bool.false_eq_true, and_true, and_imp, ne_eq]
  clear c1 c2
  generalize a * b = t at hp ⊢
  simp (disch := omega) only [wid_u64, wid_i64, Int.add_zero, Int.one_mul, Int.mul_one]
  by_cases hx : a < 0
  · have e1 := neg_u64 a hx (by omega)
    have e2 := neg_u64 (a * 256) (by omega) (by omega)
    try simp only [e1, e2]
    clear e1 e2
    try simp (disch := omega) only [wid_u64, wid_i64, wid_i32, Int.tdiv_eq_ediv_of_nonneg, Int.tmod_eq_emod_of_nonneg, if_neg, Int.one_mul]
    try simp (disch := omega) only [wid_u64, wid_i64, wid_i32, Int.tdiv_eq_ediv_of_nonneg, Int.tmod_eq_emod_of_nonneg, if_neg, Int.one_mul]
    intros
    first | omega | skip
  · try simp (disch := omega) only [wid_u64, wid_i64, wid_i32, Int.tdiv_eq_ediv_of_nonneg, Int.tmod_eq_emod_of_nonneg, if_neg, Int.one_mul]
    try simp (disch := omega) only [wid_u64, wid_i64, wid_i32, Int.tdiv_eq_ediv_of_nonneg, Int.tmod_eq_emod_of_nonneg, if_neg, Int.one_mul]
    intros
    first | omega | skip
theorem al1_true19 (ρ : Nat → Value) : ∀ q, q ∈ al1R19 → q.1.holds ρ → q.2.truth ρ = true := by
  have ha := v_bounds ρ .i32 0
  have hb := v_bounds ρ .i32 1
  simp only [IntKind.min, IntKind.max, IntKind.bits, IntKind.signed] at ha hb
  simp only [al1R19, all_cons, all_nil, h_cons, h_nil, t_eql, t_lss, t_bool, t_and, t_not, n_int, n_add, n_sub, n_mul, n_conv, n_shr, n_and, n_quo, n_rem, n_max]
  generalize (SE.ivar .i32 0).num ρ = a at ha ⊢
  generalize (SE.ivar .i32 1).num ρ = b at hb ⊢
  simp at ha hb
  have c1 : IntKind.wrap .i64 a = a := wid_i64 a (by omega) (by omega)
  have c2 : IntKind.wrap .i64 b = b := wid_i64 b (by omega) (by omega)
  have hp := prod a b ha hb
  simp only [c1, c2, reduceIte, Bool.false_eq_true, and_true, and_imp, ne_eq]
  clear c1 c2
  generalize a * b = t at hp ⊢
  simp (disch := omega) only [wid_u64, wid_i64, Int.add_zero, Int.one_mul, Int.mul_one]
  by_cases hx : a < 0
  · have e1 := neg_u64 a hx (by omega)
    have e2 := neg_u64 (a * 256) (by omega) (by omega)
    try simp only [e1, e2]
    clear e1 e2
    try simp (disch := omega) only [wid_u64, wid_i64, wid_i32, Int.tdiv_eq_ediv_of_nonneg, Int.tmod_eq_emod_of_nonneg, if_neg, Int.one_mul]
    try simp (disch := omega) only [wid_u64, wid_i64, wid_i32, Int.tdiv_eq_ediv_of_nonneg, Int.tmod_eq_emod_of_nonneg, if_neg, Int.one_mul]
    intros
    first | omega | skip
  · try simp (disch := omega) only [wid_u64, wid_i64, wid_i32, Int.tdiv_eq_ediv_of_nonneg, Int.tmod_eq_emod_of_nonneg, if_neg, Int.one_mul]
    try simp (disch := omega) only [wid_u64, wid_i64, wid_i32, Int.tdiv_eq_ediv_of_nonneg, Int.tmod_eq_emod_of_nonneg, if_neg, Int.one_mul]
    intros
    first | omega | skip
theorem al1_true20 (ρ : Nat → Value) : ∀ q, q ∈ al1R20 → q.1.holds ρ → q.2.truth ρ = true := by
  have ha := v_bounds ρ .i32 0
  have hb := v_bounds ρ .i32 1
  simp only [IntKind.min, IntKind.max, IntKind.bits, IntKind.signed] at ha hb
  simp only [al1R20, all_cons, all_nil, h_cons, h_nil, t_eql, t_lss, t_bool, t_and, t_not, n_int, n_add, n_sub, n_mul, n_conv, n_shr, n_and, n_quo, n_rem, n_max]
  generalize (SE.ivar .i32 0).num ρ = a at ha ⊢
  generalize (SE.ivar .i32 1).num ρ = b at hb ⊢
  simp at ha hb
  have c1 : IntKind.wrap .i64 a = a := wid_i64 a (by omega) (by omega)
  have c2 : IntKind.wrap .i64 b = b := wid_i64 b (by omega) (by omega)
  have hp := prod a b ha hb
  simp only [c1, c2, reduceIte, Bool.false_eq_true, and_true, and_imp, ne_eq]
  clear c1 c2
  generalize a * b = t at hp ⊢
  simp (disch := omega) only [wid_u64, wid_i64, Int.add_zero, Int.one_mul, Int.mul_one]
  by_cases hx : a < 0
  · have e1 := neg_u64 a hx (by omega)
    have e2 := neg_u64 (a * 256) (by omega) (by omega)
    try simp only [e1, e2]
    clear e1 e2
    try simp (disch := omega) only [wid_u64, wid_i64, wid_i32, Int.tdiv_eq_ediv_of_nonneg, Int.tmod_eq_emod_of_nonneg, if_neg, Int.one_mul]
    try simp (disch := omega) only [wid_u64, wid_i64, wid_i32, Int.tdiv_eq_ediv_of_nonneg, Int.tmod_eq_emod_of_nonneg, if_neg, Int.one_mul]
    intros
    first | omega | skip
  · try simp (disch := omega) only [wid_u64, wid_i64, wid_i32, Int.tdiv_eq_ediv_of_nonneg, Int.tmod_eq_emod_of_nonneg, if_neg, Int.one_mul]
    try simp (disch := omega) only [wid_u64, wid_i64, wid_i32, Int.tdiv_eq_ediv_of_nonneg, Int.tmod_eq_emod_of_nonneg, if_neg, Int.one_mul]
    intros
    first | omega | skip
theorem al1_true21 (ρ : Nat → Value) : ∀ q, q ∈ al1R21 → q.1.holds ρ → q.2.truth ρ = true := by
  have ha := v_bounds ρ .i32 0
  have hb := v_bounds ρ .i32 1
  simp only [IntKind.min, IntKind.max, IntKind.bits, IntKind.signed] at ha hb
  simp only [al1R21, all_cons, all_nil, h_cons, h_nil, t_eql, t_lss, t_bool, t_and, t_not, n_int, n_add, n_sub, n_mul, n_conv, n_shr, n_and, n_quo, n_rem, n_max]
  generalize (SE.ivar .i32 0).num ρ = a at ha ⊢
  generalize (SE.ivar .i32 1).num ρ = b at hb ⊢
  simp at ha hb
  have c1 : IntKind.wrap .i64 a = a := wid_i64 a (by omega) (by omega)
  have c2 : IntKind.wrap .i64 b = b := wid_i64 b (by omega) (by omega)
  have hp := prod a b ha hb
  simp only [c1, c2, reduceIte, Bool.false_eq_true, and_true, and_imp, ne_eq]
  clear c1 c2
  generalize a * b = t at hp ⊢
  simp (disch := omega) only [wid_u64, wid_i64, Int.add_zero, Int.one_mul, Int.mul_one]
  by_cases hx : a < 0
  · have e1 := neg_u64 a hx (by omega)
    have e2 := neg_u64 (a * 256) (by omega) (by omega)
    try simp only [e1, e2]
    clear e1 e2
    try simp (disch := omega) only [wid_u64, wid_i64, wid_i32, Int.tdiv_eq_ediv_of_nonneg, Int.tmod_eq_emod_of_nonneg, if_neg, Int.one_mul]
    try simp (disch := omega) only [wid_u64, wid_i64, wid_i32, Int.tdiv_eq_ediv_of_nonneg, Int.tmod_eq_emod_of_nonneg, if_neg, Int.one_mul]
    intros
    first | omega | skip
  · try simp (disch := omega) only [wid_u64, wid_i64, wid_i32, Int.tdiv_eq_ediv_of_nonneg, Int.tmod_eq_emod_of_nonneg, if_neg, Int.one_mul]
    try simp (disch := omega) only [wid_u64, wid_i64, wid_i32, Int.tdiv_eq_ediv_of_nonneg, Int.tmod_eq_emod_of_nonneg, if_neg, Int.one_mul]
    intros
    first | omega | skip
theorem al1_true22 (ρ : Nat → Value) : ∀ q, q ∈ al1R22 → q.1.holds ρ → q.2.truth ρ = true := by
  have ha := v_bounds ρ .i32 0
  have hb := v_bounds ρ .i32 1
  simp only [IntKind.min, IntKind.max, IntKind.bits, IntKind.signed] at ha hb
  simp only [al1R22, all_cons, all_nil, h_cons, h_nil, t_eql, t_lss, t_bool, t_and, t_not, n_int, n_add, n_sub, n_mul, n_conv, n_shr, n_and, n_quo, n_rem, n_max]
  generalize (SE.ivar .i32 0).num ρ = a at ha ⊢
  generalize (SE.ivar .i32 1).num ρ = b at hb ⊢
  simp at ha hb
  have c1 : IntKind.wrap .i64 a = a := wid_i64 a (by omega) (by omega)
  have c2 : IntKind.wrap .i64 b = b := wid_i64 b (by omega) (by omega)
  have hp := prod a b ha hb
  simp only [c1, c2, reduceIte, Bool.false_eq_true, and_true, and_imp, ne_eq]
  clear c1 c2
  generalize a * b = t at hp ⊢
  simp (disch := omega) only [wid_u64, wid_i64, Int.add_zero, Int.one_mul, Int.mul_one]
  by_cases hx : a < 0
  · have e1 := neg_u64 a hx (by omega)
    have e2 := neg_u64 (a * 256) (by omega) (by omega)
    try simp only [e1, e2]
    clear e1 e2
    try simp (disch := omega) only [wid_u64, wid_i64, wid_i32, Int.tdiv_eq_ediv_of_nonneg, Int.tmod_eq_emod_of_nonneg, if_neg, Int.one_mul]
    try simp (disch := omega) only [wid_u64, wid_i64, wid_i32, Int.tdiv_eq_ediv_of_nonneg, Int.tmod_eq_emod_of_nonneg, if_neg, Int.one_mul]
    intros
    first | omega | skip
  · try simp (disch := omega) only [wid_u64, wid_i64, wid_i32, Int.tdiv_eq_ediv_of_nonneg, Int.tmod_eq_emod_of_nonneg, if_neg, Int.one_mul]
    try simp (disch := omega) only [wid_u64, wid_i64, wid_i32, Int.tdiv_eq_ediv_of_nonneg, Int.tmod_eq_emod_of_nonneg, if_neg, Int.one_mul]
    intros
    first | omega | skip
theorem al1_true23 (ρ : Nat → Value) : ∀ q, q ∈ al1R23 → q.1.holds ρ → q.2.truth ρ = true := by
  have ha := v_bounds ρ .i32 0
  have hb := v_bounds ρ .i32 1
  simp only [IntKind.min, IntKind.max, IntKind.bits, IntKind.signed] at ha hb
  simp only [al1R23, all_cons, all_nil, h_cons, h_nil, t_eql, t_lss, t_bool, t_and, t_not, n_int, n_add, n_sub, n_mul, n_conv, n_shr, n_and, n_quo, n_rem, n_max]
  generalize (SE.ivar .i32 0).num ρ = a at ha ⊢
  generalize (SE.ivar .i32 1).num ρ = b at hb ⊢
  simp at ha hb
  have c1 : IntKind.wrap .i64 a = a := wid_i64 a (by omega) (by omega)
  have c2 : IntKind.wrap .i64 b = b := wid_i64 b (by omega) (by omega)
  have hp := prod a b ha hb
  simp only [c1, c2, reduceIte, Bool.false_eq_true, and_true, and_imp, ne_eq]
  clear c1 c2
  generalize a * b = t at hp ⊢
  simp (disch := omega) only [wid_u64, wid_i64, Int.add_zero, Int.one_mul, Int.mul_one]
  by_cases hx : a < 0
  · have e1 := neg_u64 a hx (by omega)
    have e2 := neg_u64 (a * 256) (by omega) (by omega)
    try simp only [e1, e2]
    clear e1 e2
    try simp (disch := omega) only [wid_u64, wid_i64, wid_i32, Int.tdiv_eq_ediv_of_nonneg, Int.tmod_eq_emod_of_nonneg, if_neg, Int.one_mul]
    try simp (disch := omega) only [wid_u64, wid_i64, wid_i32, Int.tdiv_eq_ediv_of_nonneg, Int.tmod_eq_emod_of_nonneg, if_neg, Int.one_mul]
    intros
    first | omega | skip
  · try simp (disch := omega) only [wid_u64, wid_i64, wid_i32, Int.tdiv_eq_ediv_of_nonneg, Int.tmod_eq_emod_of_nonneg, if_neg, Int.one_mul]
    try simp (disch := omega) only [wid_u64, wid_i64, wid_i32, Int.tdiv_eq_ediv_of_nonneg, Int.tmod_eq_emod_of_nonneg, if_neg, Int.one_mul]
    intros
    first | omega | skip
theorem al1_true (ρ : Nat → Value) : ∀ q, q ∈ al1R → q.1.holds ρ → q.2.truth ρ = true := by
  intro q h
  simp only [al1R, List.mem_append] at h
  rcases h with h | h | h | h | h | h | h | h | h | h | h | h | h | h | h | h | h | h | h | h | h | h | h | h
  · exact al1_true0 ρ q h
  · exact al1_true1 ρ q h
  · exact al1_true2 ρ q h
  · exact al1_true3 ρ q h
  · exact al1_true4 ρ q h
  · exact al1_true5 ρ q h
  · exact al1_true6 ρ q h
  · exact al1_true7 ρ q h
  · exact al1_true8 ρ q h
  · exact al1_true9 ρ q h
  · exact al1_true10 ρ q h
  · exact al1_true11 ρ q h
  · exact al1_true12 ρ q h
  · exact al1_true13 ρ q h
  · exact al1_true14 ρ q h
  · exact al1_true15 ρ q h
  · exact al1_true16 ρ q h
  · exact al1_true17 ρ q h
  · exact al1_true18 ρ q h
  · exact al1_true19 ρ q h
  · exact al1_true20 ρ q h
  · exact al1_true21 ρ q h
  · exact al1_true22 ρ q h
  · exact al1_true23 ρ q h
end Go.Proofs.YtdblaloadklcfabDoor
