/- FixedAlgebra: a run and what it leaves to be shown. -/
import Derived.Test.YtdblaloadklcfabDoorFxAlB
set_option linter.unusedVariables false
set_option linter.unusedSimpArgs false
namespace Go.Proofs.YtdblaloadklcfabDoor
open Go.Sx
def al2R0 : List (PC × SE) := [
  ((((.cmp .eql (.conv .i32 (.bin .sub .i64 (.int .i64 0) (.conv .i64 (.bin .quo .u64 (.bin .mul .u64 (.int .u64 256) (.bin .sub .u64 (.int .u64 0) (.conv .u64 (.conv .i64 (.ivar .i32 0))))) (.int .u64 256))))) (.ivar .i32 0)), false) :: (((.cmp .eql (.conv .i32 (.bin .sub .i64 (.int .i64 0) (.conv .i64 (.bin .quo .u64 (.bin .mul .u64 (.int .u64 1) (.bin .sub .u64 (.int .u64 0) (.conv .u64 (.bin .mul .i64 (.conv .i64 (.ivar .i32 0)) (.int .i64 256))))) (.int .u64 256))))) (.ivar .i32 0)), true) :: (((.cmp .eql (.conv .i32 (.bin .sub .i64 (.int .i64 0) (.conv .i64 (.bin .quo .u64 (.bin .mul .u64 (.int .u64 1) (.bin .sub .u64 (.int .u64 0) (.conv .u64 (.bin .add .i64 (.conv .i64 (.ivar .i32 0)) (.int .i64 0))))) (.int .u64 1))))) (.ivar .i32 0)), true) :: (((.cmp .lss (.int .u64 2147483647) (.bin .add .u64 (.int .u64 1) (.bin .quo .u64 (.bin .mul .u64 (.conv .u64 (.bin .mul .i64 (.conv .i64 (.ivar .i32 0)) (.conv .i64 (.ivar .i32 1)))) (.int .u64 1)) (.int .u64 256)))), false) :: (((.cmp .lss (.bin .rem .u64 (.bin .mul .u64 (.conv .u64 (.bin .mul .i64 (.conv .i64 (.ivar .i32 0)) (.conv .i64 (.ivar .i32 1)))) (.int .u64 1)) (.int .u64 256)) (.bin .sub .u64 (.int .u64 256) (.bin .rem .u64 (.bin .mul .u64 (.conv .u64 (.bin .mul .i64 (.conv .i64 (.ivar .i32 0)) (.conv .i64 (.ivar .i32 1)))) (.int .u64 1)) (.int .u64 256)))), false) :: (((.cmp .lss (.int .u64 2147483648) (.bin .quo .u64 (.bin .mul .u64 (.int .u64 1) (.bin .sub .u64 (.int .u64 0) (.conv .u64 (.bin .add .i64 (.conv .i64 (.ivar .i32 0)) (.conv .i64 (.ivar .i32 1)))))) (.int .u64 1))), false) :: (((.cmp .lss (.conv .i64 (.ivar .i32 0)) (.int .i64 0)), true) :: (((.cmp .lss (.conv .i64 (.ivar .i32 1)) (.int .i64 0)), true) :: [])))))))), (.bool false))]
def al2R1 : List (PC × SE) := [
  ((((.cmp .eql (.conv .i32 (.bin .sub .i64 (.int .i64 0) (.conv .i64 (.bin .quo .u64 (.bin .mul .u64 (.int .u64 1) (.bin .sub .u64 (.int .u64 0) (.conv .u64 (.bin .mul .i64 (.conv .i64 (.ivar .i32 0)) (.int .i64 256))))) (.int .u64 256))))) (.ivar .i32 0)), false) :: (((.cmp .eql (.conv .i32 (.bin .sub .i64 (.int .i64 0) (.conv .i64 (.bin .quo .u64 (.bin .mul .u64 (.int .u64 1) (.bin .sub .u64 (.int .u64 0) (.conv .u64 (.bin .add .i64 (.conv .i64 (.ivar .i32 0)) (.int .i64 0))))) (.int .u64 1))))) (.ivar .i32 0)), true) :: (((.cmp .lss (.int .u64 2147483647) (.bin .add .u64 (.int .u64 1) (.bin .quo .u64 (.bin .mul .u64 (.conv .u64 (.bin .mul .i64 (.conv .i64 (.ivar .i32 0)) (.conv .i64 (.ivar .i32 1)))) (.int .u64 1)) (.int .u64 256)))), false) :: (((.cmp .lss (.bin .rem .u64 (.bin .mul .u64 (.conv .u64 (.bin .mul .i64 (.conv .i64 (.ivar .i32 0)) (.conv .i64 (.ivar .i32 1)))) (.int .u64 1)) (.int .u64 256)) (.bin .sub .u64 (.int .u64 256) (.bin .rem .u64 (.bin .mul .u64 (.conv .u64 (.bin .mul .i64 (.conv .i64 (.ivar .i32 0)) (.conv .i64 (.ivar .i32 1)))) (.int .u64 1)) (.int .u64 256)))), false) :: (((.cmp .lss (.int .u64 2147483648) (.bin .quo .u64 (.bin .mul .u64 (.int .u64 1) (.bin .sub .u64 (.int .u64 0) (.conv .u64 (.bin .add .i64 (.conv .i64 (.ivar .i32 0)) (.conv .i64 (.ivar .i32 1)))))) (.int .u64 1))), false) :: (((.cmp .lss (.conv .i64 (.ivar .i32 0)) (.int .i64 0)), true) :: (((.cmp .lss (.conv .i64 (.ivar .i32 1)) (.int .i64 0)), true) :: []))))))), (.bool false))]
def al2R2 : List (PC × SE) := [
  ((((.cmp .eql (.conv .i32 (.bin .sub .i64 (.int .i64 0) (.conv .i64 (.bin .quo .u64 (.bin .mul .u64 (.int .u64 1) (.bin .sub .u64 (.int .u64 0) (.conv .u64 (.bin .add .i64 (.conv .i64 (.ivar .i32 0)) (.int .i64 0))))) (.int .u64 1))))) (.ivar .i32 0)), false) :: (((.cmp .lss (.int .u64 2147483647) (.bin .add .u64 (.int .u64 1) (.bin .quo .u64 (.bin .mul .u64 (.conv .u64 (.bin .mul .i64 (.conv .i64 (.ivar .i32 0)) (.conv .i64 (.ivar .i32 1)))) (.int .u64 1)) (.int .u64 256)))), false) :: (((.cmp .lss (.bin .rem .u64 (.bin .mul .u64 (.conv .u64 (.bin .mul .i64 (.conv .i64 (.ivar .i32 0)) (.conv .i64 (.ivar .i32 1)))) (.int .u64 1)) (.int .u64 256)) (.bin .sub .u64 (.int .u64 256) (.bin .rem .u64 (.bin .mul .u64 (.conv .u64 (.bin .mul .i64 (.conv .i64 (.ivar .i32 0)) (.conv .i64 (.ivar .i32 1)))) (.int .u64 1)) (.int .u64 256)))), false) :: (((.cmp .lss (.int .u64 2147483648) (.bin .quo .u64 (.bin .mul .u64 (.int .u64 1) (.bin .sub .u64 (.int .u64 0) (.conv .u64 (.bin .add .i64 (.conv .i64 (.ivar .i32 0)) (.conv .i64 (.ivar .i32 1)))))) (.int .u64 1))), false) :: (((.cmp .lss (.conv .i64 (.ivar .i32 0)) (.int .i64 0)), true) :: (((.cmp .lss (.conv .i64 (.ivar .i32 1)) (.int .i64 0)), true) :: [])))))), (.bool false))]
def al2R3 : List (PC × SE) := [
  ((((.cmp .eql (.conv .i32 (.bin .sub .i64 (.int .i64 0) (.conv .i64 (.bin .quo .u64 (.bin .mul .u64 (.int .u64 256) (.bin .sub .u64 (.int .u64 0) (.conv .u64 (.conv .i64 (.ivar .i32 0))))) (.int .u64 256))))) (.ivar .i32 0)), false) :: (((.cmp .eql (.conv .i32 (.bin .sub .i64 (.int .i64 0) (.conv .i64 (.bin .quo .u64 (.bin .mul .u64 (.int .u64 1) (.bin .sub .u64 (.int .u64 0) (.conv .u64 (.bin .mul .i64 (.conv .i64 (.ivar .i32 0)) (.int .i64 256))))) (.int .u64 256))))) (.ivar .i32 0)), true) :: (((.cmp .eql (.conv .i32 (.bin .sub .i64 (.int .i64 0) (.conv .i64 (.bin .quo .u64 (.bin .mul .u64 (.int .u64 1) (.bin .sub .u64 (.int .u64 0) (.conv .u64 (.bin .add .i64 (.conv .i64 (.ivar .i32 0)) (.int .i64 0))))) (.int .u64 1))))) (.ivar .i32 0)), true) :: (((.cmp .lss (.int .u64 2147483647) (.bin .add .u64 (.int .u64 1) (.bin .quo .u64 (.bin .mul .u64 (.conv .u64 (.bin .mul .i64 (.conv .i64 (.ivar .i32 0)) (.conv .i64 (.ivar .i32 1)))) (.int .u64 1)) (.int .u64 256)))), true) :: (((.cmp .lss (.bin .rem .u64 (.bin .mul .u64 (.conv .u64 (.bin .mul .i64 (.conv .i64 (.ivar .i32 0)) (.conv .i64 (.ivar .i32 1)))) (.int .u64 1)) (.int .u64 256)) (.bin .sub .u64 (.int .u64 256) (.bin .rem .u64 (.bin .mul .u64 (.conv .u64 (.bin .mul .i64 (.conv .i64 (.ivar .i32 0)) (.conv .i64 (.ivar .i32 1)))) (.int .u64 1)) (.int .u64 256)))), false) :: (((.cmp .lss (.int .u64 2147483648) (.bin .quo .u64 (.bin .mul .u64 (.int .u64 1) (.bin .sub .u64 (.int .u64 0) (.conv .u64 (.bin .add .i64 (.conv .i64 (.ivar .i32 0)) (.conv .i64 (.ivar .i32 1)))))) (.int .u64 1))), false) :: (((.cmp .lss (.conv .i64 (.ivar .i32 0)) (.int .i64 0)), true) :: (((.cmp .lss (.conv .i64 (.ivar .i32 1)) (.int .i64 0)), true) :: [])))))))), (.bool false))]
def al2R4 : List (PC × SE) := [
  ((((.cmp .eql (.conv .i32 (.bin .sub .i64 (.int .i64 0) (.conv .i64 (.bin .quo .u64 (.bin .mul .u64 (.int .u64 1) (.bin .sub .u64 (.int .u64 0) (.conv .u64 (.bin .mul .i64 (.conv .i64 (.ivar .i32 0)) (.int .i64 256))))) (.int .u64 256))))) (.ivar .i32 0)), false) :: (((.cmp .eql (.conv .i32 (.bin .sub .i64 (.int .i64 0) (.conv .i64 (.bin .quo .u64 (.bin .mul .u64 (.int .u64 1) (.bin .sub .u64 (.int .u64 0) (.conv .u64 (.bin .add .i64 (.conv .i64 (.ivar .i32 0)) (.int .i64 0))))) (.int .u64 1))))) (.ivar .i32 0)), true) :: (((.cmp .lss (.int .u64 2147483647) (.bin .add .u64 (.int .u64 1) (.bin .quo .u64 (.bin .mul .u64 (.conv .u64 (.bin .mul .i64 (.conv .i64 (.ivar .i32 0)) (.conv .i64 (.ivar .i32 1)))) (.int .u64 1)) (.int .u64 256)))), true) :: (((.cmp .lss (.bin .rem .u64 (.bin .mul .u64 (.conv .u64 (.bin .mul .i64 (.conv .i64 (.ivar .i32 0)) (.conv .i64 (.ivar .i32 1)))) (.int .u64 1)) (.int .u64 256)) (.bin .sub .u64 (.int .u64 256) (.bin .rem .u64 (.bin .mul .u64 (.conv .u64 (.bin .mul .i64 (.conv .i64 (.ivar .i32 0)) (.conv .i64 (.ivar .i32 1)))) (.int .u64 1)) (.int .u64 256)))), false) :: (((.cmp .lss (.int .u64 2147483648) (.bin .quo .u64 (.bin .mul .u64 (.int .u64 1) (.bin .sub .u64 (.int .u64 0) (.conv .u64 (.bin .add .i64 (.conv .i64 (.ivar .i32 0)) (.conv .i64 (.ivar .i32 1)))))) (.int .u64 1))), false) :: (((.cmp .lss (.conv .i64 (.ivar .i32 0)) (.int .i64 0)), true) :: (((.cmp .lss (.conv .i64 (.ivar .i32 1)) (.int .i64 0)), true) :: []))))))), (.bool false))]
def al2R5 : List (PC × SE) := [
  ((((.cmp .eql (.conv .i32 (.bin .sub .i64 (.int .i64 0) (.conv .i64 (.bin .quo .u64 (.bin .mul .u64 (.int .u64 1) (.bin .sub .u64 (.int .u64 0) (.conv .u64 (.bin .add .i64 (.conv .i64 (.ivar .i32 0)) (.int .i64 0))))) (.int .u64 1))))) (.ivar .i32 0)), false) :: (((.cmp .lss (.int .u64 2147483647) (.bin .add .u64 (.int .u64 1) (.bin .quo .u64 (.bin .mul .u64 (.conv .u64 (.bin .mul .i64 (.conv .i64 (.ivar .i32 0)) (.conv .i64 (.ivar .i32 1)))) (.int .u64 1)) (.int .u64 256)))), true) :: (((.cmp .lss (.bin .rem .u64 (.bin .mul .u64 (.conv .u64 (.bin .mul .i64 (.conv .i64 (.ivar .i32 0)) (.conv .i64 (.ivar .i32 1)))) (.int .u64 1)) (.int .u64 256)) (.bin .sub .u64 (.int .u64 256) (.bin .rem .u64 (.bin .mul .u64 (.conv .u64 (.bin .mul .i64 (.conv .i64 (.ivar .i32 0)) (.conv .i64 (.ivar .i32 1)))) (.int .u64 1)) (.int .u64 256)))), false) :: (((.cmp .lss (.int .u64 2147483648) (.bin .quo .u64 (.bin .mul .u64 (.int .u64 1) (.bin .sub .u64 (.int .u64 0) (.conv .u64 (.bin .add .i64 (.conv .i64 (.ivar .i32 0)) (.conv .i64 (.ivar .i32 1)))))) (.int .u64 1))), false) :: (((.cmp .lss (.conv .i64 (.ivar .i32 0)) (.int .i64 0)), true) :: (((.cmp .lss (.conv .i64 (.ivar .i32 1)) (.int .i64 0)), true) :: [])))))), (.bool false))]
def al2R6 : List (PC × SE) := [
  ((((.cmp .eql (.conv .i32 (.bin .sub .i64 (.int .i64 0) (.conv .i64 (.bin .quo .u64 (.bin .mul .u64 (.int .u64 256) (.bin .sub .u64 (.int .u64 0) (.conv .u64 (.conv .i64 (.ivar .i32 0))))) (.int .u64 256))))) (.ivar .i32 0)), false) :: (((.cmp .eql (.conv .i32 (.bin .sub .i64 (.int .i64 0) (.conv .i64 (.bin .quo .u64 (.bin .mul .u64 (.int .u64 1) (.bin .sub .u64 (.int .u64 0) (.conv .u64 (.bin .mul .i64 (.conv .i64 (.ivar .i32 0)) (.int .i64 256))))) (.int .u64 256))))) (.ivar .i32 0)), true) :: (((.cmp .eql (.conv .i32 (.bin .sub .i64 (.int .i64 0) (.conv .i64 (.bin .quo .u64 (.bin .mul .u64 (.int .u64 1) (.bin .sub .u64 (.int .u64 0) (.conv .u64 (.bin .add .i64 (.conv .i64 (.ivar .i32 0)) (.int .i64 0))))) (.int .u64 1))))) (.ivar .i32 0)), true) :: (((.cmp .lss (.int .u64 2147483647) (.bin .quo .u64 (.bin .mul .u64 (.conv .u64 (.bin .mul .i64 (.conv .i64 (.ivar .i32 0)) (.conv .i64 (.ivar .i32 1)))) (.int .u64 1)) (.int .u64 256))), false) :: (((.cmp .lss (.bin .rem .u64 (.bin .mul .u64 (.conv .u64 (.bin .mul .i64 (.conv .i64 (.ivar .i32 0)) (.conv .i64 (.ivar .i32 1)))) (.int .u64 1)) (.int .u64 256)) (.bin .sub .u64 (.int .u64 256) (.bin .rem .u64 (.bin .mul .u64 (.conv .u64 (.bin .mul .i64 (.conv .i64 (.ivar .i32 0)) (.conv .i64 (.ivar .i32 1)))) (.int .u64 1)) (.int .u64 256)))), true) :: (((.cmp .lss (.int .u64 2147483648) (.bin .quo .u64 (.bin .mul .u64 (.int .u64 1) (.bin .sub .u64 (.int .u64 0) (.conv .u64 (.bin .add .i64 (.conv .i64 (.ivar .i32 0)) (.conv .i64 (.ivar .i32 1)))))) (.int .u64 1))), false) :: (((.cmp .lss (.conv .i64 (.ivar .i32 0)) (.int .i64 0)), true) :: (((.cmp .lss (.conv .i64 (.ivar .i32 1)) (.int .i64 0)), true) :: [])))))))), (.bool false))]
def al2R7 : List (PC × SE) := [
  ((((.cmp .eql (.conv .i32 (.bin .sub .i64 (.int .i64 0) (.conv .i64 (.bin .quo .u64 (.bin .mul .u64 (.int .u64 1) (.bin .sub .u64 (.int .u64 0) (.conv .u64 (.bin .mul .i64 (.conv .i64 (.ivar .i32 0)) (.int .i64 256))))) (.int .u64 256))))) (.ivar .i32 0)), false) :: (((.cmp .eql (.conv .i32 (.bin .sub .i64 (.int .i64 0) (.conv .i64 (.bin .quo .u64 (.bin .mul .u64 (.int .u64 1) (.bin .sub .u64 (.int .u64 0) (.conv .u64 (.bin .add .i64 (.conv .i64 (.ivar .i32 0)) (.int .i64 0))))) (.int .u64 1))))) (.ivar .i32 0)), true) :: (((.cmp .lss (.int .u64 2147483647) (.bin .quo .u64 (.bin .mul .u64 (.conv .u64 (.bin .mul .i64 (.conv .i64 (.ivar .i32 0)) (.conv .i64 (.ivar .i32 1)))) (.int .u64 1)) (.int .u64 256))), false) :: (((.cmp .lss (.bin .rem .u64 (.bin .mul .u64 (.conv .u64 (.bin .mul .i64 (.conv .i64 (.ivar .i32 0)) (.conv .i64 (.ivar .i32 1)))) (.int .u64 1)) (.int .u64 256)) (.bin .sub .u64 (.int .u64 256) (.bin .rem .u64 (.bin .mul .u64 (.conv .u64 (.bin .mul .i64 (.conv .i64 (.ivar .i32 0)) (.conv .i64 (.ivar .i32 1)))) (.int .u64 1)) (.int .u64 256)))), true) :: (((.cmp .lss (.int .u64 2147483648) (.bin .quo .u64 (.bin .mul .u64 (.int .u64 1) (.bin .sub .u64 (.int .u64 0) (.conv .u64 (.bin .add .i64 (.conv .i64 (.ivar .i32 0)) (.conv .i64 (.ivar .i32 1)))))) (.int .u64 1))), false) :: (((.cmp .lss (.conv .i64 (.ivar .i32 0)) (.int .i64 0)), true) :: (((.cmp .lss (.conv .i64 (.ivar .i32 1)) (.int .i64 0)), true) :: []))))))), (.bool false))]
def al2R8 : List (PC × SE) := [
  ((((.cmp .eql (.conv .i32 (.bin .sub .i64 (.int .i64 0) (.conv .i64 (.bin .quo .u64 (.bin .mul .u64 (.int .u64 1) (.bin .sub .u64 (.int .u64 0) (.conv .u64 (.bin .add .i64 (.conv .i64 (.ivar .i32 0)) (.int .i64 0))))) (.int .u64 1))))) (.ivar .i32 0)), false) :: (((.cmp .lss (.int .u64 2147483647) (.bin .quo .u64 (.bin .mul .u64 (.conv .u64 (.bin .mul .i64 (.conv .i64 (.ivar .i32 0)) (.conv .i64 (.ivar .i32 1)))) (.int .u64 1)) (.int .u64 256))), false) :: (((.cmp .lss (.bin .rem .u64 (.bin .mul .u64 (.conv .u64 (.bin .mul .i64 (.conv .i64 (.ivar .i32 0)) (.conv .i64 (.ivar .i32 1)))) (.int .u64 1)) (.int .u64 256)) (.bin .sub .u64 (.int .u64 256) (.bin .rem .u64 (.bin .mul .u64 (.conv .u64 (.bin .mul .i64 (.conv .i64 (.ivar .i32 0)) (.conv .i64 (.ivar .i32 1)))) (.int .u64 1)) (.int .u64 256)))), true) :: (((.cmp .lss (.int .u64 2147483648) (.bin .quo .u64 (.bin .mul .u64 (.int .u64 1) (.bin .sub .u64 (.int .u64 0) (.conv .u64 (.bin .add .i64 (.conv .i64 (.ivar .i32 0)) (.conv .i64 (.ivar .i32 1)))))) (.int .u64 1))), false) :: (((.cmp .lss (.conv .i64 (.ivar .i32 0)) (.int .i64 0)), true) :: (((.cmp .lss (.conv .i64 (.ivar .i32 1)) (.int .i64 0)), true) :: [])))))), (.bool false))]
def al2R9 : List (PC × SE) := [
  ((((.cmp .eql (.conv .i32 (.bin .sub .i64 (.int .i64 0) (.conv .i64 (.bin .quo .u64 (.bin .mul .u64 (.int .u64 256) (.bin .sub .u64 (.int .u64 0) (.conv .u64 (.conv .i64 (.ivar .i32 0))))) (.int .u64 256))))) (.ivar .i32 0)), false) :: (((.cmp .eql (.conv .i32 (.bin .sub .i64 (.int .i64 0) (.conv .i64 (.bin .quo .u64 (.bin .mul .u64 (.int .u64 1) (.bin .sub .u64 (.int .u64 0) (.conv .u64 (.bin .mul .i64 (.conv .i64 (.ivar .i32 0)) (.int .i64 256))))) (.int .u64 256))))) (.ivar .i32 0)), true) :: (((.cmp .eql (.conv .i32 (.bin .sub .i64 (.int .i64 0) (.conv .i64 (.bin .quo .u64 (.bin .mul .u64 (.int .u64 1) (.bin .sub .u64 (.int .u64 0) (.conv .u64 (.bin .add .i64 (.conv .i64 (.ivar .i32 0)) (.int .i64 0))))) (.int .u64 1))))) (.ivar .i32 0)), true) :: (((.cmp .lss (.int .u64 2147483647) (.bin .quo .u64 (.bin .mul .u64 (.conv .u64 (.bin .mul .i64 (.conv .i64 (.ivar .i32 0)) (.conv .i64 (.ivar .i32 1)))) (.int .u64 1)) (.int .u64 256))), true) :: (((.cmp .lss (.bin .rem .u64 (.bin .mul .u64 (.conv .u64 (.bin .mul .i64 (.conv .i64 (.ivar .i32 0)) (.conv .i64 (.ivar .i32 1)))) (.int .u64 1)) (.int .u64 256)) (.bin .sub .u64 (.int .u64 256) (.bin .rem .u64 (.bin .mul .u64 (.conv .u64 (.bin .mul .i64 (.conv .i64 (.ivar .i32 0)) (.conv .i64 (.ivar .i32 1)))) (.int .u64 1)) (.int .u64 256)))), true) :: (((.cmp .lss (.int .u64 2147483648) (.bin .quo .u64 (.bin .mul .u64 (.int .u64 1) (.bin .sub .u64 (.int .u64 0) (.conv .u64 (.bin .add .i64 (.conv .i64 (.ivar .i32 0)) (.conv .i64 (.ivar .i32 1)))))) (.int .u64 1))), false) :: (((.cmp .lss (.conv .i64 (.ivar .i32 0)) (.int .i64 0)), true) :: (((.cmp .lss (.conv .i64 (.ivar .i32 1)) (.int .i64 0)), true) :: [])))))))), (.bool false))]
def al2R10 : List (PC × SE) := [
  ((((.cmp .eql (.conv .i32 (.bin .sub .i64 (.int .i64 0) (.conv .i64 (.bin .quo .u64 (.bin .mul .u64 (.int .u64 1) (.bin .sub .u64 (.int .u64 0) (.conv .u64 (.bin .mul .i64 (.conv .i64 (.ivar .i32 0)) (.int .i64 256))))) (.int .u64 256))))) (.ivar .i32 0)), false) :: (((.cmp .eql (.conv .i32 (.bin .sub .i64 (.int .i64 0) (.conv .i64 (.bin .quo .u64 (.bin .mul .u64 (.int .u64 1) (.bin .sub .u64 (.int .u64 0) (.conv .u64 (.bin .add .i64 (.conv .i64 (.ivar .i32 0)) (.int .i64 0))))) (.int .u64 1))))) (.ivar .i32 0)), true) :: (((.cmp .lss (.int .u64 2147483647) (.bin .quo .u64 (.bin .mul .u64 (.conv .u64 (.bin .mul .i64 (.conv .i64 (.ivar .i32 0)) (.conv .i64 (.ivar .i32 1)))) (.int .u64 1)) (.int .u64 256))), true) :: (((.cmp .lss (.bin .rem .u64 (.bin .mul .u64 (.conv .u64 (.bin .mul .i64 (.conv .i64 (.ivar .i32 0)) (.conv .i64 (.ivar .i32 1)))) (.int .u64 1)) (.int .u64 256)) (.bin .sub .u64 (.int .u64 256) (.bin .rem .u64 (.bin .mul .u64 (.conv .u64 (.bin .mul .i64 (.conv .i64 (.ivar .i32 0)) (.conv .i64 (.ivar .i32 1)))) (.int .u64 1)) (.int .u64 256)))), true) :: (((.cmp .lss (.int .u64 2147483648) (.bin .quo .u64 (.bin .mul .u64 (.int .u64 1) (.bin .sub .u64 (.int .u64 0) (.conv .u64 (.bin .add .i64 (.conv .i64 (.ivar .i32 0)) (.conv .i64 (.ivar .i32 1)))))) (.int .u64 1))), false) :: (((.cmp .lss (.conv .i64 (.ivar .i32 0)) (.int .i64 0)), true) :: (((.cmp .lss (.conv .i64 (.ivar .i32 1)) (.int .i64 0)), true) :: []))))))), (.bool false))]
def al2R11 : List (PC × SE) := [
  ((((.cmp .eql (.conv .i32 (.bin .sub .i64 (.int .i64 0) (.conv .i64 (.bin .quo .u64 (.bin .mul .u64 (.int .u64 1) (.bin .sub .u64 (.int .u64 0) (.conv .u64 (.bin .add .i64 (.conv .i64 (.ivar .i32 0)) (.int .i64 0))))) (.int .u64 1))))) (.ivar .i32 0)), false) :: (((.cmp .lss (.int .u64 2147483647) (.bin .quo .u64 (.bin .mul .u64 (.conv .u64 (.bin .mul .i64 (.conv .i64 (.ivar .i32 0)) (.conv .i64 (.ivar .i32 1)))) (.int .u64 1)) (.int .u64 256))), true) :: (((.cmp .lss (.bin .rem .u64 (.bin .mul .u64 (.conv .u64 (.bin .mul .i64 (.conv .i64 (.ivar .i32 0)) (.conv .i64 (.ivar .i32 1)))) (.int .u64 1)) (.int .u64 256)) (.bin .sub .u64 (.int .u64 256) (.bin .rem .u64 (.bin .mul .u64 (.conv .u64 (.bin .mul .i64 (.conv .i64 (.ivar .i32 0)) (.conv .i64 (.ivar .i32 1)))) (.int .u64 1)) (.int .u64 256)))), true) :: (((.cmp .lss (.int .u64 2147483648) (.bin .quo .u64 (.bin .mul .u64 (.int .u64 1) (.bin .sub .u64 (.int .u64 0) (.conv .u64 (.bin .add .i64 (.conv .i64 (.ivar .i32 0)) (.conv .i64 (.ivar .i32 1)))))) (.int .u64 1))), false) :: (((.cmp .lss (.conv .i64 (.ivar .i32 0)) (.int .i64 0)), true) :: (((.cmp .lss (.conv .i64 (.ivar .i32 1)) (.int .i64 0)), true) :: [])))))), (.bool false))]
def al2R12 : List (PC × SE) := [
  ((((.cmp .eql (.conv .i32 (.bin .sub .i64 (.int .i64 0) (.conv .i64 (.bin .quo .u64 (.bin .mul .u64 (.int .u64 256) (.bin .sub .u64 (.int .u64 0) (.conv .u64 (.conv .i64 (.ivar .i32 0))))) (.int .u64 256))))) (.ivar .i32 0)), false) :: (((.cmp .eql (.conv .i32 (.bin .sub .i64 (.int .i64 0) (.conv .i64 (.bin .quo .u64 (.bin .mul .u64 (.int .u64 1) (.bin .sub .u64 (.int .u64 0) (.conv .u64 (.bin .mul .i64 (.conv .i64 (.ivar .i32 0)) (.int .i64 256))))) (.int .u64 256))))) (.ivar .i32 0)), true) :: (((.cmp .eql (.conv .i32 (.bin .sub .i64 (.int .i64 0) (.conv .i64 (.bin .quo .u64 (.bin .mul .u64 (.int .u64 1) (.bin .sub .u64 (.int .u64 0) (.conv .u64 (.bin .add .i64 (.conv .i64 (.ivar .i32 0)) (.int .i64 0))))) (.int .u64 1))))) (.ivar .i32 0)), true) :: (((.cmp .lss (.int .u64 2147483647) (.bin .add .u64 (.int .u64 1) (.bin .quo .u64 (.bin .mul .u64 (.conv .u64 (.bin .mul .i64 (.conv .i64 (.ivar .i32 0)) (.conv .i64 (.ivar .i32 1)))) (.int .u64 1)) (.int .u64 256)))), false) :: (((.cmp .lss (.bin .rem .u64 (.bin .mul .u64 (.conv .u64 (.bin .mul .i64 (.conv .i64 (.ivar .i32 0)) (.conv .i64 (.ivar .i32 1)))) (.int .u64 1)) (.int .u64 256)) (.bin .sub .u64 (.int .u64 256) (.bin .rem .u64 (.bin .mul .u64 (.conv .u64 (.bin .mul .i64 (.conv .i64 (.ivar .i32 0)) (.conv .i64 (.ivar .i32 1)))) (.int .u64 1)) (.int .u64 256)))), false) :: (((.cmp .lss (.int .u64 2147483648) (.bin .quo .u64 (.bin .mul .u64 (.int .u64 1) (.bin .sub .u64 (.int .u64 0) (.conv .u64 (.bin .add .i64 (.conv .i64 (.ivar .i32 0)) (.conv .i64 (.ivar .i32 1)))))) (.int .u64 1))), true) :: (((.cmp .lss (.conv .i64 (.ivar .i32 0)) (.int .i64 0)), true) :: (((.cmp .lss (.conv .i64 (.ivar .i32 1)) (.int .i64 0)), true) :: [])))))))), (.bool false))]
def al2R13 : List (PC × SE) := [
  ((((.cmp .eql (.conv .i32 (.bin .sub .i64 (.int .i64 0) (.conv .i64 (.bin .quo .u64 (.bin .mul .u64 (.int .u64 1) (.bin .sub .u64 (.int .u64 0) (.conv .u64 (.bin .mul .i64 (.conv .i64 (.ivar .i32 0)) (.int .i64 256))))) (.int .u64 256))))) (.ivar .i32 0)), false) :: (((.cmp .eql (.conv .i32 (.bin .sub .i64 (.int .i64 0) (.conv .i64 (.bin .quo .u64 (.bin .mul .u64 (.int .u64 1) (.bin .sub .u64 (.int .u64 0) (.conv .u64 (.bin .add .i64 (.conv .i64 (.ivar .i32 0)) (.int .i64 0))))) (.int .u64 1))))) (.ivar .i32 0)), true) :: (((.cmp .lss (.int .u64 2147483647) (.bin .add .u64 (.int .u64 1) (.bin .quo .u64 (.bin .mul .u64 (.conv .u64 (.bin .mul .i64 (.conv .i64 (.ivar .i32 0)) (.conv .i64 (.ivar .i32 1)))) (.int .u64 1)) (.int .u64 256)))), false) :: (((.cmp .lss (.bin .rem .u64 (.bin .mul .u64 (.conv .u64 (.bin .mul .i64 (.conv .i64 (.ivar .i32 0)) (.conv .i64 (.ivar .i32 1)))) (.int .u64 1)) (.int .u64 256)) (.bin .sub .u64 (.int .u64 256) (.bin .rem .u64 (.bin .mul .u64 (.conv .u64 (.bin .mul .i64 (.conv .i64 (.ivar .i32 0)) (.conv .i64 (.ivar .i32 1)))) (.int .u64 1)) (.int .u64 256)))), false) :: (((.cmp .lss (.int .u64 2147483648) (.bin .quo .u64 (.bin .mul .u64 (.int .u64 1) (.bin .sub .u64 (.int .u64 0) (.conv .u64 (.bin .add .i64 (.conv .i64 (.ivar .i32 0)) (.conv .i64 (.ivar .i32 1)))))) (.int .u64 1))), true) :: (((.cmp .lss (.conv .i64 (.ivar .i32 0)) (.int .i64 0)), true) :: (((.cmp .lss (.conv .i64 (.ivar .i32 1)) (.int .i64 0)), true) :: []))))))), (.bool false))]
def al2R14 : List (PC × SE) := [
  ((((.cmp .eql (.conv .i32 (.bin .sub .i64 (.int .i64 0) (.conv .i64 (.bin .quo .u64 (.bin .mul .u64 (.int .u64 1) (.bin .sub .u64 (.int .u64 0) (.conv .u64 (.bin .add .i64 (.conv .i64 (.ivar .i32 0)) (.int .i64 0))))) (.int .u64 1))))) (.ivar .i32 0)), false) :: (((.cmp .lss (.int .u64 2147483647) (.bin .add .u64 (.int .u64 1) (.bin .quo .u64 (.bin .mul .u64 (.conv .u64 (.bin .mul .i64 (.conv .i64 (.ivar .i32 0)) (.conv .i64 (.ivar .i32 1)))) (.int .u64 1)) (.int .u64 256)))), false) :: (((.cmp .lss (.bin .rem .u64 (.bin .mul .u64 (.conv .u64 (.bin .mul .i64 (.conv .i64 (.ivar .i32 0)) (.conv .i64 (.ivar .i32 1)))) (.int .u64 1)) (.int .u64 256)) (.bin .sub .u64 (.int .u64 256) (.bin .rem .u64 (.bin .mul .u64 (.conv .u64 (.bin .mul .i64 (.conv .i64 (.ivar .i32 0)) (.conv .i64 (.ivar .i32 1)))) (.int .u64 1)) (.int .u64 256)))), false) :: (((.cmp .lss (.int .u64 2147483648) (.bin .quo .u64 (.bin .mul .u64 (.int .u64 1) (.bin .sub .u64 (.int .u64 0) (.conv .u64 (.bin .add .i64 (.conv .i64 (.ivar .i32 0)) (.conv .i64 (.ivar .i32 1)))))) (.int .u64 1))), true) :: (((.cmp .lss (.conv .i64 (.ivar .i32 0)) (.int .i64 0)), true) :: (((.cmp .lss (.conv .i64 (.ivar .i32 1)) (.int .i64 0)), true) :: [])))))), (.bool false))]
def al2R15 : List (PC × SE) := [
  ((((.cmp .eql (.conv .i32 (.bin .sub .i64 (.int .i64 0) (.conv .i64 (.bin .quo .u64 (.bin .mul .u64 (.int .u64 256) (.bin .sub .u64 (.int .u64 0) (.conv .u64 (.conv .i64 (.ivar .i32 0))))) (.int .u64 256))))) (.ivar .i32 0)), false) :: (((.cmp .eql (.conv .i32 (.bin .sub .i64 (.int .i64 0) (.conv .i64 (.bin .quo .u64 (.bin .mul .u64 (.int .u64 1) (.bin .sub .u64 (.int .u64 0) (.conv .u64 (.bin .mul .i64 (.conv .i64 (.ivar .i32 0)) (.int .i64 256))))) (.int .u64 256))))) (.ivar .i32 0)), true) :: (((.cmp .eql (.conv .i32 (.bin .sub .i64 (.int .i64 0) (.conv .i64 (.bin .quo .u64 (.bin .mul .u64 (.int .u64 1) (.bin .sub .u64 (.int .u64 0) (.conv .u64 (.bin .add .i64 (.conv .i64 (.ivar .i32 0)) (.int .i64 0))))) (.int .u64 1))))) (.ivar .i32 0)), true) :: (((.cmp .lss (.int .u64 2147483647) (.bin .add .u64 (.int .u64 1) (.bin .quo .u64 (.bin .mul .u64 (.conv .u64 (.bin .mul .i64 (.conv .i64 (.ivar .i32 0)) (.conv .i64 (.ivar .i32 1)))) (.int .u64 1)) (.int .u64 256)))), true) :: (((.cmp .lss (.bin .rem .u64 (.bin .mul .u64 (.conv .u64 (.bin .mul .i64 (.conv .i64 (.ivar .i32 0)) (.conv .i64 (.ivar .i32 1)))) (.int .u64 1)) (.int .u64 256)) (.bin .sub .u64 (.int .u64 256) (.bin .rem .u64 (.bin .mul .u64 (.conv .u64 (.bin .mul .i64 (.conv .i64 (.ivar .i32 0)) (.conv .i64 (.ivar .i32 1)))) (.int .u64 1)) (.int .u64 256)))), false) :: (((.cmp .lss (.int .u64 2147483648) (.bin .quo .u64 (.bin .mul .u64 (.int .u64 1) (.bin .sub .u64 (.int .u64 0) (.conv .u64 (.bin .add .i64 (.conv .i64 (.ivar .i32 0)) (.conv .i64 (.ivar .i32 1)))))) (.int .u64 1))), true) :: (((.cmp .lss (.conv .i64 (.ivar .i32 0)) (.int .i64 0)), true) :: (((.cmp .lss (.conv .i64 (.ivar .i32 1)) (.int .i64 0)), true) :: [])))))))), (.bool false))]
def al2R16 : List (PC × SE) := [
  ((((.cmp .eql (.conv .i32 (.bin .sub .i64 (.int .i64 0) (.conv .i64 (.bin .quo .u64 (.bin .mul .u64 (.int .u64 1) (.bin .sub .u64 (.int .u64 0) (.conv .u64 (.bin .mul .i64 (.conv .i64 (.ivar .i32 0)) (.int .i64 256))))) (.int .u64 256))))) (.ivar .i32 0)), false) :: (((.cmp .eql (.conv .i32 (.bin .sub .i64 (.int .i64 0) (.conv .i64 (.bin .quo .u64 (.bin .mul .u64 (.int .u64 1) (.bin .sub .u64 (.int .u64 0) (.conv .u64 (.bin .add .i64 (.conv .i64 (.ivar .i32 0)) (.int .i64 0))))) (.int .u64 1))))) (.ivar .i32 0)), true) :: (((.cmp .lss (.int .u64 2147483647) (.bin .add .u64 (.int .u64 1) (.bin .quo .u64 (.bin .mul .u64 (.conv .u64 (.bin .mul .i64 (.conv .i64 (.ivar .i32 0)) (.conv .i64 (.ivar .i32 1)))) (.int .u64 1)) (.int .u64 256)))), true) :: (((.cmp .lss (.bin .rem .u64 (.bin .mul .u64 (.conv .u64 (.bin .mul .i64 (.conv .i64 (.ivar .i32 0)) (.conv .i64 (.ivar .i32 1)))) (.int .u64 1)) (.int .u64 256)) (.bin .sub .u64 (.int .u64 256) (.bin .rem .u64 (.bin .mul .u64 (.conv .u64 (.bin .mul .i64 (.conv .i64 (.ivar .i32 0)) (.conv .i64 (.ivar .i32 1)))) (.int .u64 1)) (.int .u64 256)))), false) :: (((.cmp .lss (.int .u64 2147483648) (.bin .quo .u64 (.bin .mul .u64 (.int .u64 1) (.bin .sub .u64 (.int .u64 0) (.conv .u64 (.bin .add .i64 (.conv .i64 (.ivar .i32 0)) (.conv .i64 (.ivar .i32 1)))))) (.int .u64 1))), true) :: (((.cmp .lss (.conv .i64 (.ivar .i32 0)) (.int .i64 0)), true) :: (((.cmp .lss (.conv .i64 (.ivar .i32 1)) (.int .i64 0)), true) :: []))))))), (.bool false))]
def al2R17 : List (PC × SE) := [
  ((((.cmp .eql (.conv .i32 (.bin .sub .i64 (.int .i64 0) (.conv .i64 (.bin .quo .u64 (.bin .mul .u64 (.int .u64 1) (.bin .sub .u64 (.int .u64 0) (.conv .u64 (.bin .add .i64 (.conv .i64 (.ivar .i32 0)) (.int .i64 0))))) (.int .u64 1))))) (.ivar .i32 0)), false) :: (((.cmp .lss (.int .u64 2147483647) (.bin .add .u64 (.int .u64 1) (.bin .quo .u64 (.bin .mul .u64 (.conv .u64 (.bin .mul .i64 (.conv .i64 (.ivar .i32 0)) (.conv .i64 (.ivar .i32 1)))) (.int .u64 1)) (.int .u64 256)))), true) :: (((.cmp .lss (.bin .rem .u64 (.bin .mul .u64 (.conv .u64 (.bin .mul .i64 (.conv .i64 (.ivar .i32 0)) (.conv .i64 (.ivar .i32 1)))) (.int .u64 1)) (.int .u64 256)) (.bin .sub .u64 (.int .u64 256) (.bin .rem .u64 (.bin .mul .u64 (.conv .u64 (.bin .mul .i64 (.conv .i64 (.ivar .i32 0)) (.conv .i64 (.ivar .i32 1)))) (.int .u64 1)) (.int .u64 256)))), false) :: (((.cmp .lss (.int .u64 2147483648) (.bin .quo .u64 (.bin .mul .u64 (.int .u64 1) (.bin .sub .u64 (.int .u64 0) (.conv .u64 (.bin .add .i64 (.conv .i64 (.ivar .i32 0)) (.conv .i64 (.ivar .i32 1)))))) (.int .u64 1))), true) :: (((.cmp .lss (.conv .i64 (.ivar .i32 0)) (.int .i64 0)), true) :: (((.cmp .lss (.conv .i64 (.ivar .i32 1)) (.int .i64 0)), true) :: [])))))), (.bool false))]
def al2R18 : List (PC × SE) := [
  ((((.cmp .eql (.conv .i32 (.bin .sub .i64 (.int .i64 0) (.conv .i64 (.bin .quo .u64 (.bin .mul .u64 (.int .u64 256) (.bin .sub .u64 (.int .u64 0) (.conv .u64 (.conv .i64 (.ivar .i32 0))))) (.int .u64 256))))) (.ivar .i32 0)), false) :: (((.cmp .eql (.conv .i32 (.bin .sub .i64 (.int .i64 0) (.conv .i64 (.bin .quo .u64 (.bin .mul .u64 (.int .u64 1) (.bin .sub .u64 (.int .u64 0) (.conv .u64 (.bin .mul .i64 (.conv .i64 (.ivar .i32 0)) (.int .i64 256))))) (.int .u64 256))))) (.ivar .i32 0)), true) :: (((.cmp .eql (.conv .i32 (.bin .sub .i64 (.int .i64 0) (.conv .i64 (.bin .quo .u64 (.bin .mul .u64 (.int .u64 1) (.bin .sub .u64 (.int .u64 0) (.conv .u64 (.bin .add .i64 (.conv .i64 (.ivar .i32 0)) (.int .i64 0))))) (.int .u64 1))))) (.ivar .i32 0)), true) :: (((.cmp .lss (.int .u64 2147483647) (.bin .quo .u64 (.bin .mul .u64 (.conv .u64 (.bin .mul .i64 (.conv .i64 (.ivar .i32 0)) (.conv .i64 (.ivar .i32 1)))) (.int .u64 1)) (.int .u64 256))), false) :: (((.cmp .lss (.bin .rem .u64 (.bin .mul .u64 (.conv .u64 (.bin .mul .i64 (.conv .i64 (.ivar .i32 0)) (.conv .i64 (.ivar .i32 1)))) (.int .u64 1)) (.int .u64 256)) (.bin .sub .u64 (.int .u64 256) (.bin .rem .u64 (.bin .mul .u64 (.conv .u64 (.bin .mul .i64 (.conv .i64 (.ivar .i32 0)) (.conv .i64 (.ivar .i32 1)))) (.int .u64 1)) (.int .u64 256)))), true) :: (((.cmp .lss (.int .u64 2147483648) (.bin .quo .u64 (.bin .mul .u64 (.int .u64 1) (.bin .sub .u64 (.int .u64 0) (.conv .u64 (.bin .add .i64 (.conv .i64 (.ivar .i32 0)) (.conv .i64 (.ivar .i32 1)))))) (.int .u64 1))), true) :: (((.cmp .lss (.conv .i64 (.ivar .i32 0)) (.int .i64 0)), true) :: (((.cmp .lss (.conv .i64 (.ivar .i32 1)) (.int .i64 0)), true) :: [])))))))), (.bool false))]
def al2R19 : List (PC × SE) := [
  ((((.cmp .eql (.conv .i32 (.bin .sub .i64 (.int .i64 0) (.conv .i64 (.bin .quo .u64 (.bin .mul .u64 (.int .u64 1) (.bin .sub .u64 (.int .u64 0) (.conv .u64 (.bin .mul .i64 (.conv .i64 (.ivar .i32 0)) (.int .i64 256))))) (.int .u64 256))))) (.ivar .i32 0)), false) :: (((.cmp .eql (.conv .i32 (.bin .sub .i64 (.int .i64 0) (.conv .i64 (.bin .quo .u64 (.bin .mul .u64 (.int .u64 1) (.bin .sub .u64 (.int .u64 0) (.conv .u64 (.bin .add .i64 (.conv .i64 (.ivar .i32 0)) (.int .i64 0))))) (.int .u64 1))))) (.ivar .i32 0)), true) :: (((.cmp .lss (.int .u64 2147483647) (.bin .quo .u64 (.bin .mul .u64 (.conv .u64 (.bin .mul .i64 (.conv .i64 (.ivar .i32 0)) (.conv .i64 (.ivar .i32 1)))) (.int .u64 1)) (.int .u64 256))), false) :: (((.cmp .lss (.bin .rem .u64 (.bin .mul .u64 (.conv .u64 (.bin .mul .i64 (.conv .i64 (.ivar .i32 0)) (.conv .i64 (.ivar .i32 1)))) (.int .u64 1)) (.int .u64 256)) (.bin .sub .u64 (.int .u64 256) (.bin .rem .u64 (.bin .mul .u64 (.conv .u64 (.bin .mul .i64 (.conv .i64 (.ivar .i32 0)) (.conv .i64 (.ivar .i32 1)))) (.int .u64 1)) (.int .u64 256)))), true) :: (((.cmp .lss (.int .u64 2147483648) (.bin .quo .u64 (.bin .mul .u64 (.int .u64 1) (.bin .sub .u64 (.int .u64 0) (.conv .u64 (.bin .add .i64 (.conv .i64 (.ivar .i32 0)) (.conv .i64 (.ivar .i32 1)))))) (.int .u64 1))), true) :: (((.cmp .lss (.conv .i64 (.ivar .i32 0)) (.int .i64 0)), true) :: (((.cmp .lss (.conv .i64 (.ivar .i32 1)) (.int .i64 0)), true) :: []))))))), (.bool false))]
def al2R20 : List (PC × SE) := [
  ((((.cmp .eql (.conv .i32 (.bin .sub .i64 (.int .i64 0) (.conv .i64 (.bin .quo .u64 (.bin .mul .u64 (.int .u64 1) (.bin .sub .u64 (.int .u64 0) (.conv .u64 (.bin .add .i64 (.conv .i64 (.ivar .i32 0)) (.int .i64 0))))) (.int .u64 1))))) (.ivar .i32 0)), false) :: (((.cmp .lss (.int .u64 2147483647) (.bin .quo .u64 (.bin .mul .u64 (.conv .u64 (.bin .mul .i64 (.conv .i64 (.ivar .i32 0)) (.conv .i64 (.ivar .i32 1)))) (.int .u64 1)) (.int .u64 256))), false) :: (((.cmp .lss (.bin .rem .u64 (.bin .mul .u64 (.conv .u64 (.bin .mul .i64 (.conv .i64 (.ivar .i32 0)) (.conv .i64 (.ivar .i32 1)))) (.int .u64 1)) (.int .u64 256)) (.bin .sub .u64 (.int .u64 256) (.bin .rem .u64 (.bin .mul .u64 (.conv .u64 (.bin .mul .i64 (.conv .i64 (.ivar .i32 0)) (.conv .i64 (.ivar .i32 1)))) (.int .u64 1)) (.int .u64 256)))), true) :: (((.cmp .lss (.int .u64 2147483648) (.bin .quo .u64 (.bin .mul .u64 (.int .u64 1) (.bin .sub .u64 (.int .u64 0) (.conv .u64 (.bin .add .i64 (.conv .i64 (.ivar .i32 0)) (.conv .i64 (.ivar .i32 1)))))) (.int .u64 1))), true) :: (((.cmp .lss (.conv .i64 (.ivar .i32 0)) (.int .i64 0)), true) :: (((.cmp .lss (.conv .i64 (.ivar .i32 1)) (.int .i64 0)), true) :: [])))))), (.bool false))]
def al2R21 : List (PC × SE) := [
  ((((.cmp .eql (.conv .i32 (.bin .sub .i64 (.int .i64 0) (.conv .i64 (.bin .quo .u64 (.bin .mul .u64 (.int .u64 256) (.bin .sub .u64 (.int .u64 0) (.conv .u64 (.conv .i64 (.ivar .i32 0))))) (.int .u64 256))))) (.ivar .i32 0)), false) :: (((.cmp .eql (.conv .i32 (.bin .sub .i64 (.int .i64 0) (.conv .i64 (.bin .quo .u64 (.bin .mul .u64 (.int .u64 1) (.bin .sub .u64 (.int .u64 0) (.conv .u64 (.bin .mul .i64 (.conv .i64 (.ivar .i32 0)) (.int .i64 256))))) (.int .u64 256))))) (.ivar .i32 0)), true) :: (((.cmp .eql (.conv .i32 (.bin .sub .i64 (.int .i64 0) (.conv .i64 (.bin .quo .u64 (.bin .mul .u64 (.int .u64 1) (.bin .sub .u64 (.int .u64 0) (.conv .u64 (.bin .add .i64 (.conv .i64 (.ivar .i32 0)) (.int .i64 0))))) (.int .u64 1))))) (.ivar .i32 0)), true) :: (((.cmp .lss (.int .u64 2147483647) (.bin .quo .u64 (.bin .mul .u64 (.conv .u64 (.bin .mul .i64 (.conv .i64 (.ivar .i32 0)) (.conv .i64 (.ivar .i32 1)))) (.int .u64 1)) (.int .u64 256))), true) :: (((.cmp .lss (.bin .rem .u64 (.bin .mul .u64 (.conv .u64 (.bin .mul .i64 (.conv .i64 (.ivar .i32 0)) (.conv .i64 (.ivar .i32 1)))) (.int .u64 1)) (.int .u64 256)) (.bin .sub .u64 (.int .u64 256) (.bin .rem .u64 (.bin .mul .u64 (.conv .u64 (.bin .mul .i64 (.conv .i64 (.ivar .i32 0)) (.conv .i64 (.ivar .i32 1)))) (.int .u64 1)) (.int .u64 256)))), true) :: (((.cmp .lss (.int .u64 2147483648) (.bin .quo .u64 (.bin .mul .u64 (.int .u64 1) (.bin .sub .u64 (.int .u64 0) (.conv .u64 (.bin .add .i64 (.conv .i64 (.ivar .i32 0)) (.conv .i64 (.ivar .i32 1)))))) (.int .u64 1))), true) :: (((.cmp .lss (.conv .i64 (.ivar .i32 0)) (.int .i64 0)), true) :: (((.cmp .lss (.conv .i64 (.ivar .i32 1)) (.int .i64 0)), true) :: [])))))))), (.bool false))]
def al2R22 : List (PC × SE) := [
  ((((.cmp .eql (.conv .i32 (.bin .sub .i64 (.int .i64 0) (.conv .i64 (.bin .quo .u64 (.bin .mul .u64 (.int .u64 1) (.bin .sub .u64 (.int .u64 0) (.conv .u64 (.bin .mul .i64 (.conv .i64 (.ivar .i32 0)) (.int .i64 256))))) (.int .u64 256))))) (.ivar .i32 0)), false) :: (((.cmp .eql (.conv .i32 (.bin .sub .i64 (.int .i64 0) (.conv .i64 (.bin .quo .u64 (.bin .mul .u64 (.int .u64 1) (.bin .sub .u64 (.int .u64 0) (.conv .u64 (.bin .add .i64 (.conv .i64 (.ivar .i32 0)) (.int .i64 0))))) (.int .u64 1))))) (.ivar .i32 0)), true) :: (((.cmp .lss (.int .u64 2147483647) (.bin .quo .u64 (.bin .mul .u64 (.conv .u64 (.bin .mul .i64 (.conv .i64 (.ivar .i32 0)) (.conv .i64 (.ivar .i32 1)))) (.int .u64 1)) (.int .u64 256))), true) :: (((.cmp .lss (.bin .rem .u64 (.bin .mul .u64 (.conv .u64 (.bin .mul .i64 (.conv .i64 (.ivar .i32 0)) (.conv .i64 (.ivar .i32 1)))) (.int .u64 1)) (.int .u64 256)) (.bin .sub .u64 (.int .u64 256) (.bin .rem .u64 (.bin .mul .u64 (.conv .u64 (.bin .mul .i64 (.conv .i64 (.ivar .i32 0)) (.conv .i64 (.ivar .i32 1)))) (.int .u64 1)) (.int .u64 256)))), true) :: (((.cmp .lss (.int .u64 2147483648) (.bin .quo .u64 (.bin .mul .u64 (.int .u64 1) (.bin .sub .u64 (.int .u64 0) (.conv .u64 (.bin .add .i64 (.conv .i64 (.ivar .i32 0)) (.conv .i64 (.ivar .i32 1)))))) (.int .u64 1))), true) :: (((.cmp .lss (.conv .i64 (.ivar .i32 0)) (.int .i64 0)), true) :: (((.cmp .lss (.conv .i64 (.ivar .i32 1)) (.int .i64 0)), true) :: []))))))), (.bool false))]
def al2R23 : List (PC × SE) := [
  ((((.cmp .eql (.conv .i32 (.bin .sub .i64 (.int .i64 0) (.conv .i64 (.bin .quo .u64 (.bin .mul .u64 (.int .u64 1) (.bin .sub .u64 (.int .u64 0) (.conv .u64 (.bin .add .i64 (.conv .i64 (.ivar .i32 0)) (.int .i64 0))))) (.int .u64 1))))) (.ivar .i32 0)), false) :: (((.cmp .lss (.int .u64 2147483647) (.bin .quo .u64 (.bin .mul .u64 (.conv .u64 (.bin .mul .i64 (.conv .i64 (.ivar .i32 0)) (.conv .i64 (.ivar .i32 1)))) (.int .u64 1)) (.int .u64 256))), true) :: (((.cmp .lss (.bin .rem .u64 (.bin .mul .u64 (.conv .u64 (.bin .mul .i64 (.conv .i64 (.ivar .i32 0)) (.conv .i64 (.ivar .i32 1)))) (.int .u64 1)) (.int .u64 256)) (.bin .sub .u64 (.int .u64 256) (.bin .rem .u64 (.bin .mul .u64 (.conv .u64 (.bin .mul .i64 (.conv .i64 (.ivar .i32 0)) (.conv .i64 (.ivar .i32 1)))) (.int .u64 1)) (.int .u64 256)))), true) :: (((.cmp .lss (.int .u64 2147483648) (.bin .quo .u64 (.bin .mul .u64 (.int .u64 1) (.bin .sub .u64 (.int .u64 0) (.conv .u64 (.bin .add .i64 (.conv .i64 (.ivar .i32 0)) (.conv .i64 (.ivar .i32 1)))))) (.int .u64 1))), true) :: (((.cmp .lss (.conv .i64 (.ivar .i32 0)) (.int .i64 0)), true) :: (((.cmp .lss (.conv .i64 (.ivar .i32 1)) (.int .i64 0)), true) :: [])))))), (.bool false))]
def al2R : List (PC × SE) := al2R0 ++ (al2R1 ++ (al2R2 ++ (al2R3 ++ (al2R4 ++ (al2R5 ++ (al2R6 ++ (al2R7 ++ (al2R8 ++ (al2R9 ++ (al2R10 ++ (al2R11 ++ (al2R12 ++ (al2R13 ++ (al2R14 ++ (al2R15 ++ (al2R16 ++ (al2R17 ++ (al2R18 ++ (al2R19 ++ (al2R20 ++ (al2R21 ++ (al2R22 ++ (al2R23)))))))))))))))))))))))
theorem al2_rest (ρ : Nat → Value) : restOf (callF kn Tryd.prog (tb.at ρ) 300 300 (pcAl true true) 10 ys2 H0) = some al2R := by kernel_rfl
theorem al2_true0 (ρ : Nat → Value) : ∀ q, q ∈ al2R0 → q.1.holds ρ → q.2.truth ρ = true := by
  have ha := v_bounds ρ .i32 0
  have hb := v_bounds ρ .i32 1
  simp only [IntKind.min, IntKind.max, IntKind.bits, IntKind.signed] at ha hb
  simp only [al2R0, all_cons, all_nil, h_cons, h_nil, t_eql, t_lss, t_bool, t_and, t_not, n_int, n_add, n_sub, n_mul, n_conv, n_shr, n_and, n_quo, n_rem, n_max]
  generalize (SE.ivar .i32 0).num ρ = a at ha ⊢
  generalize (SE.ivar .i32 1).num ρ = b at hb ⊢
  simp at ha hb
  have c1 : IntKind.wrap .i64 a = a := wid_i64 a (by omega) (by omega)
  have c2 : IntKind.wrap .i64 b = b := wid_i64 b (by omega) (by omega)
  have hp := prod a b ha hb
  simp only [c1, c2, reduceIte, Bool.false_eq_true, and_true, and_imp, ne_eq]
  clear c1 c2
  generalize a * b = t at hp ⊢
  simp (disch := omega) only [wid_u64, wid_i64, Int.add_zero, Int.one_mul, Int.mul_one]
  by_cases hx : a < 0
  · have e1 := neg_u64 a hx (by omega)
    have e2 := neg_u64 (a * 256) (by omega) (by omega)
    try simp only [e1, e2]
    clear e1 e2
    try simp (disch := omega) only [wid_u64, wid_i64, wid_i32, Int.tdiv_eq_ediv_of_nonneg, Int.tmod_eq_emod_of_nonneg, if_neg, Int.one_mul]
    try simp (disch := omega) only [wid_u64, wid_i64, wid_i32, Int.tdiv_eq_ediv_of_nonneg, Int.tmod_eq_emod_of_nonneg, if_neg, Int.one_mul]
    intros
    first | omega | skip
  · try simp (disch := omega) only [wid_u64, wid_i64, wid_i32, Int.tdiv_eq_ediv_of_nonneg, Int.tmod_eq_emod_of_nonneg, if_neg, Int.one_mul]
    try simp (disch := omega) only [wid_u64, wid_i64, wid_i32, Int.tdiv_eq_ediv_of_nonneg, Int.tmod_eq_emod_of_nonneg, if_neg, Int.one_mul]
    intros
    first | omega | skip
theorem al2_true1 (ρ : Nat → Value) : ∀ q, q ∈ al2R1 → q.1.holds ρ → q.2.truth ρ = true := by
  have ha := v_bounds ρ .i32 0
  have hb := v_bounds ρ .i32 1
  simp only [IntKind.min, IntKind.max, IntKind.bits, IntKind.signed] at ha hb
  simp only [al2R1, all_cons, all_nil, h_cons, h_nil, t_eql, t_lss, t_bool, t_and, t_not, n_int, n_add, n_sub, n_mul, n_conv, n_shr, n_and, n_quo, n_rem, n_max]
  generalize (SE.ivar .i32 0).num ρ = a at ha ⊢
  generalize (SE.ivar .i32 1).num ρ = b at hb ⊢
  simp at ha hb
  have c1 : IntKind.wrap .i64 a = a := wid_i64 a (by omega) (by omega)
  have c2 : IntKind.wrap .i64 b = b := wid_i64 b (by omega) (by omega)
  have hp := prod a b ha hb
  simp only [c1, c2, reduceIte, Bool.false_eq_true, and_true, and_imp, ne_eq]
  clear c1 c2
  generalize a * b = t at hp ⊢
  simp (disch := omega) only [wid_u64, wid_i64, Int.add_zero, Int.one_mul, Int.mul_one]
  by_cases hx : a < 0
  · have e1 := neg_u64 a hx (by omega)
    have e2 := neg_u64 (a * 256) (by omega) (by omega)
    try simp only [e1, e2]
    clear e1 e2
    try simp (disch := omega) only [wid_u64, wid_i64, wid_i32, Int.tdiv_eq_ediv_of_nonneg, Int.tmod_eq_emod_of_nonneg, if_neg, Int.one_mul]
    try simp (disch := omega) only [wid_u64, wid_i64, wid_i32, Int.tdiv_eq_ediv_of_nonneg, Int.tmod_eq_emod_of_nonneg, if_neg, Int.one_mul]
    intros
    first | omega | skip
  · try simp (disch := omega) only [wid_u64, wid_i64, wid_i32, Int.tdiv_eq_ediv_of_nonneg, Int.tmod_eq_emod_of_nonneg, if_neg, Int.one_mul]
    try simp (disch := omega) only [wid_u64, wid_i64, wid_i32, Int.tdiv_eq_ediv_of_nonneg, Int.tmod_eq_emod_of_nonneg, if_neg, Int.one_mul]
    intros
    first | omega | skip
theorem al2_true2 (ρ : Nat → Value) : ∀ q, q ∈ al2R2 → q.1.holds ρ → q.2.truth ρ = true := by
  have ha := v_bounds ρ .i32 0
  have hb := v_bounds ρ .i32 1
  simp only [IntKind.min, IntKind.max, IntKind.bits, IntKind.signed] at ha hb
  simp only [al2R2, all_cons, all_nil, h_cons, h_nil, t_eql, t_lss, t_bool, t_and, t_not, n_int, n_add, n_sub, n_mul, n_conv, n_shr, n_and, n_quo, n_rem, n_max]
  generalize (SE.ivar .i32 0).num ρ = a at ha ⊢
  generalize (SE.ivar .i32 1).num ρ = b at hb ⊢
  simp at ha hb
  have c1 : IntKind.wrap .i64 a = a := wid_i64 a (by omega) (by omega)
  have c2 : IntKind.wrap .i64 b = b := wid_i64 b (by omega) (by omega)
  have hp := prod a b ha hb
  simp only [c1, c2, reduceIte, Bool.false_eq_true, and_true, and_imp, ne_eq]
  clear c1 c2
  generalize a * b = t at hp ⊢
  simp (disch := omega) only [wid_u64, wid_i64, Int.add_zero, Int.one_mul, Int.mul_one]
  by_cases hx : a < 0
  · have e1 := neg_u64 a hx (by omega)
    have e2 := neg_u64 (a * 256) (by omega) (by omega)
    try simp only [e1, e2]
    clear e1 e2
    try simp (disch := omega) only [wid_u64, wid_i64, wid_i32, Int.tdiv_eq_ediv_of_nonneg, Int.tmod_eq_emod_of_nonneg, if_neg, Int.one_mul]
    try simp (disch := omega) only [wid_u64, wid_i64, wid_i32, Int.tdiv_eq_ediv_of_nonneg, Int.tmod_eq_emod_of_nonneg, if_neg, Int.one_mul]
    intros
    first | omega | skip
  · try simp (disch := omega) only [wid_u64, wid_i64, wid_i32, Int.tdiv_eq_ediv_of_nonneg, Int.tmod_eq_emod_of_nonneg, if_neg, Int.one_mul]
    try simp (disch := omega) only [wid_u64, wid_i64, wid_i32, Int.tdiv_eq_ediv_of_nonneg, Int.tmod_eq_emod_of_nonneg, if_neg, Int.one_mul]
    intros
    first | omega | skip
theorem al2_true3 (ρ : Nat → Value) : ∀ q, q ∈ al2R3 → q.1.holds ρ → q.2.truth ρ = true := by
  have ha := v_bounds ρ .i32 0
  have hb := v_bounds ρ .i32 1
  simp only [IntKind.min, IntKind.max, IntKind.bits, IntKind.signed] at ha hb
  simp only [al2R3, all_cons, all_nil, h_cons, h_nil, t_eql, t_lss, t_bool, t_and, t_not, n_int, n_add, n_sub, n_mul, n_conv, n_shr, n_and, n_quo, n_rem, n_max]
  generalize (SE.ivar .i32 0).num ρ = a at ha ⊢
  generalize (SE.ivar .i32 1).num ρ = b at hb ⊢
  simp at ha hb
  have c1 : IntKind.wrap .i64 a = a := wid_i64 a (by omega) (by omega)
  have c2 : IntKind.wrap .i64 b = b := wid_i64 b (by omega) (by omega)
  have hp := prod a b ha hb
  simp only [c1, c2, reduceIte, Bool.false_eq_true, and_true, and_imp, ne_eq]
  clear c1 c2
  generalize a * b = t at hp ⊢
  simp (disch := omega) only [wid_u64, wid_i64, Int.add_zero, Int.one_mul, Int.mul_one]
  by_cases hx : a < 0
  · have e1 := neg_u64 a hx (by omega)
    have e2 := neg_u64 (a * 256) (by omega) (by omega)
    try simp only [e1, e2]
    clear e1 e2
    try simp (disch := omega) only [wid_u64, wid_i64, wid_i32, Int.tdiv_eq_ediv_of_nonneg, Int.tmod_eq_emod_of_nonneg, if_neg, Int.one_mul]
    try simp (disch := omega) only [wid_u64, wid_i64, wid_i32, Int.tdiv_eq_ediv_of_nonneg, Int.tmod_eq_emod_of_nonneg, if_neg, Int.one_mul]
    intros
    first | omega | skip
  · try simp (disch := omega) only [wid_u64, wid_i64, wid_i32, Int.tdiv_eq_ediv_of_nonneg, Int.tmod_eq_emod_of_nonneg, if_neg, Int.one_mul]
    try simp (disch := omega) only [wid_u64, wid_i64, wid_i32, Int.tdiv_eq_ediv_of_nonneg, Int.tmod_eq_emod_of_nonneg, if_neg, Int.one_mul]
    intros
    first | omega | skip
theorem al2_true4 (ρ : Nat → Value) : ∀ q, q ∈ al2R4 → q.1.holds ρ → q.2.truth ρ = true := by
  have ha := v_bounds ρ .i32 0
  have hb := v_bounds ρ .i32 1
  simp only [IntKind.min, IntKind.max, IntKind.bits, IntKind.signed] at ha hb
  simp only [al2R4, all_cons, all_nil, h_cons, h_nil, t_eql, t_lss, t_bool, t_and, t_not, n_int, n_add, n_sub, n_mul, n_conv, n_shr, n_and, n_quo, n_rem, n_max]
  generalize (SE.ivar .i32 0).num ρ = a at ha ⊢
  generalize (SE.ivar .i32 1).num ρ = b at hb ⊢
  simp at ha hb
  have c1 : IntKind.wrap .i64 a = a := wid_i64 a (by omega) (by omega)
  have c2 : IntKind.wrap .i64 b = b := wid_i64 b (by omega) (by omega)
  have hp := prod a b ha hb
  simp only [c1, c2, reduceIte, Bool.false_eq_true, and_true, and_imp, ne_eq]
  clear c1 c2
  generalize a * b = t at hp ⊢
  simp (disch := omega) only [wid_u64, wid_i64, Int.add_zero, Int.one_mul, Int.mul_one]
  by_cases hx : a < 0
  · have e1 := neg_u64 a hx (by omega)
    have e2 := neg_u64 (a * 256) (by omega) (by omega)
    try simp only [e1, e2]
    clear e1 e2
    try simp (disch := omega) only [wid_u64, wid_i64, wid_i32, Int.tdiv_eq_ediv_of_nonneg, Int.tmod_eq_emod_of_nonneg, if_neg, Int.one_mul]
    try simp (disch := omega) only [wid_u64, wid_i64, wid_i32, Int.tdiv_eq_ediv_of_nonneg, Int.tmod_eq_emod_of_nonneg, if_neg, Int.one_mul]
    intros
    first | omega | skip
  · try simp (disch := omega) only [wid_u64, wid_i64, wid_i32, Int.tdiv_eq_ediv_of_nonneg, Int.tmod_eq_emod_of_nonneg, if_neg, Int.one_mul]
    try simp (disch := omega) only [wid_u64, wid_i64, wid_i32, Int.tdiv_eq_ediv_of_nonneg, Int.tmod_eq_emod_of_nonneg, if_neg, Int.one_mul]
    intros
    first | omega | skip
theorem al2_true5 (ρ : Nat → Value) : ∀ q, q ∈ al2R5 → q.1.holds ρ → q.2.truth ρ = true := by
  have ha := v_bounds ρ .i32 0
  have hb := v_bounds ρ .i32 1
  simp only [IntKind.min, IntKind.max, IntKind.bits, IntKind.signed] at ha hb
  simp only [al2R5, all_cons, all_nil, h_cons, h_nil, t_eql, t_lss, t_bool, t_and, t_not, n_int, n_add, n_sub, n_mul, n_conv, n_shr, n_and, n_quo, n_rem, n_max]
  generalize (SE.ivar .i32 0).num ρ = a at ha ⊢
  generalize (SE.ivar .i32 1).num ρ = b at hb ⊢
  simp at ha hb
  have c1 : IntKind.wrap .i64 a = a := wid_i64 a (by omega) (by omega)
  have c2 : IntKind.wrap .i64 b = b := wid_i64 b (by omega) (by omega)
  have hp := prod a b ha hb
  simp only [c1, c2, reduceIte, Bool.false_eq_true, and_true, and_imp, ne_eq]
  clear c1 c2
  generalize a * b = t at hp ⊢
  simp (disch := omega) only [wid_u64, wid_i64, Int.add_zero, Int.one_mul, Int.mul_one]
  by_cases hx : a < 0
  · have e1 := neg_u64 a hx (by omega)
    have e2 := neg_u64 (a * 256) (by omega) (by omega)
    try simp only [e1, e2]
    clear e1 e2
    try simp (disch := omega) only [wid_u64, wid_i64, wid_i32, Int.tdiv_eq_ediv_of_nonneg, Int.tmod_eq_emod_of_nonneg, if_neg, Int.one_mul]
    try simp (disch := omega) only [wid_u64, wid_i64, wid_i32, Int.tdiv_eq_ediv_of_nonneg, Int.tmod_eq_emod_of_nonneg, if_neg, Int.one_mul]
    intros
    first | omega | skip
  · try simp (disch := omega) only [wid_u64, wid_i64, wid_i32, Int.tdiv_eq_ediv_of_nonneg, Int.tmod_eq_emod_of_nonneg, if_neg, Int.one_mul]
    try simp (disch := omega) only [wid_u64, wid_i64, wid_i32, Int.tdiv_eq_ediv_of_nonneg, Int.tmod_eq_emod_of_nonneg, if_neg, Int.one_mul]
    intros
    first | omega | skip
theorem al2_true6 (ρ : Nat → Value) : ∀ q, q ∈ al2R6 → q.1.holds ρ → q.2.truth ρ = true := by
  have ha := v_bounds ρ .i32 0
  have hb := v_bounds ρ .i32 1
  simp only [IntKind.min, IntKind.max, IntKind.bits, IntKind.signed] at ha hb
  simp only [al2R6, all_cons, all_nil, h_cons, h_nil, t_eql, t_lss, t_bool, t_and, t_not, n_int, n_add, n_sub, n_mul, n_conv, n_shr, n_and, n_quo, n_rem, n_max]
  generalize (SE.ivar .i32 0).num ρ = a at ha ⊢
  generalize (SE.ivar .i32 1).num ρ = b at hb ⊢
  simp at ha hb
  have c1 : IntKind.wrap .i64 a = a := wid_i64 a (by omega) (by omega)
  have c2 : IntKind.wrap .i64 b = b := wid_i64 b (by omega) (by omega)
  have hp := prod a b ha hb
  simp only [c1, c2, reduceIte, Bool.false_eq_true, and_true, and_imp, ne_eq]
  clear c1 c2
  generalize a * b = t at hp ⊢
  simp (disch := omega) only [wid_u64, wid_i64, Int.add_zero, Int.one_mul, Int.mul_one]
  by_cases hx : a < 0
  · have e1 := neg_u64 a hx (by omega)
    have e2 := neg_u64 (a * 256) (by omega) (by omega)
    try simp only [e1, e2]
    clear e1 e2
    try simp (disch := omega) only [wid_u64, wid_i64, wid_i32, Int.tdiv_eq_ediv_of_nonneg, Int.tmod_eq_emod_of_nonneg, if_neg, Int.one_mul]
    try simp (disch := omega) only [wid_u64, wid_i64, wid_i32, Int.tdiv_eq_ediv_of_nonneg, Int.tmod_eq_emod_of_nonneg, if_neg, Int.one_mul]
    intros
    first | omega | skip
  · try simp (disch := omega) only [wid_u64, wid_i64, wid_i32, Int.tdiv_eq_ediv_of_nonneg, Int.tmod_eq_emod_of_nonneg, if_neg, Int.one_mul]
    try simp (disch := omega) only [wid_u64, wid_i64, wid_i32, Int.tdiv_eq_ediv_of_nonneg, Int.tmod_eq_emod_of_nonneg, if_neg, Int.one_mul]
    intros
    first | omega | skip
theorem al2_true7 (ρ : Nat → Value) : ∀ q, q ∈ al2R7 → q.1.holds ρ → q.2.truth ρ = true := by
  have ha := v_bounds ρ .i32 0
  have hb := v_bounds ρ .i32 1
  simp only [IntKind.min, IntKind.max, IntKind.bits, IntKind.signed] at ha hb
  simp only [al2R7, all_cons, all_nil, h_cons, h_nil, t_eql, t_lss, t_bool, t_and, t_not, n_int, n_add, n_sub, n_mul, n_conv, n_shr, n_and, n_quo, n_rem, n_max]
  generalize (SE.ivar .i32 0).num ρ = a at ha ⊢
  generalize (SE.ivar .i32 1).num ρ = b at hb ⊢
  simp at ha hb
  have c1 : IntKind.wrap .i64 a = a := wid_i64 a (by omega) (by omega)
  have c2 : IntKind.wrap .i64 b = b := wid_i64 b (by omega) (by omega)
  have hp := prod a b ha hb
  simp only [c1, c2, reduceIte, Bool.false_eq_true, and_true, and_imp, ne_eq]
  clear c1 c2
  generalize a * b = t at hp ⊢
  simp (disch := omega) only [wid_u64, wid_i64, Int.add_zero, Int.one_mul, Int.mul_one]
  by_cases hx : a < 0
  · have e1 := neg_u64 a hx (by omega)
    have e2 := neg_u64 (a * 256) (by omega) (by omega)
    try simp only [e1, e2]
    clear e1 e2
    try simp (disch := omega) only [wid_u64, wid_i64, wid_i32, Int.tdiv_eq_ediv_of_nonneg, Int.tmod_eq_emod_of_nonneg, if_neg, Int.one_mul]
    try simp (disch := omega) only [wid_u64, wid_i64, wid_i32, Int.tdiv_eq_ediv_of_nonneg, Int.tmod_eq_emod_of_nonneg, if_neg, Int.one_mul]
    intros
    first | omega | skip
  · try simp (disch := omega) only [wid_u64, wid_i64, wid_i32, Int.tdiv_eq_ediv_of_nonneg, Int.tmod_eq_emod_of_nonneg, if_neg, Int.one_mul]
    try simp (disch := omega) only [wid_u64, wid_i64, wid_i32, Int.tdiv_eq_ediv_of_nonneg, Int.tmod_eq_emod_of_nonneg, if_neg, Int.one_mul]
    intros
    first | omega | skip
theorem al2_true8 (ρ : Nat → Value) : ∀ q, q ∈ al2R8 → q.1.holds ρ → q.2.truth ρ = true := by
  have ha := v_bounds ρ .i32 0
  have hb := v_bounds ρ .i32 1
  simp only [IntKind.min, IntKind.max, IntKind.bits, IntKind.signed] at ha hb
  simp only [al2R8, all_cons, all_nil, h_cons, h_nil, t_eql, t_lss, t_bool, t_and, t_not, n_int, n_add, n_sub, n_mul, n_conv, n_shr, n_and, n_quo, n_rem, n_max]
  generalize (SE.ivar .i32 0).num ρ = a at ha ⊢
  generalize (SE.ivar .i32 1).num ρ = b at hb ⊢
  simp at ha hb
  have c1 : IntKind.wrap .i64 a = a := wid_i64 a (by omega) (by omega)
  have c2 : IntKind.wrap .i64 b = b := wid_i64 b (by omega) (by omega)
  have hp := prod a b ha hb
  simp only [c1, c2, reduceIte, Bool.false_eq_true, and_true, and_imp, ne_eq]
  clear c1 c2
  generalize a * b = t at hp ⊢
  simp (disch := omega) only [wid_u64, wid_i64, Int.add_zero, Int.one_mul, Int.mul_one]
  by_cases hx : a < 0
  · have e1 := neg_u64 a hx (by omega)
    have e2 := neg_u64 (a * 256) (by omega) (by omega)
    try simp only [e1, e2]
    clear e1 e2
    try simp (disch := omega) only [wid_u64, wid_i64, wid_i32, Int.tdiv_eq_ediv_of_nonneg, Int.tmod_eq_emod_of_nonneg, if_neg, Int.one_mul]
    try simp (disch := omega) only [wid_u64, wid_i64, wid_i32, Int.tdiv_eq_ediv_of_nonneg, Int.tmod_eq_emod_of_nonneg, if_neg, Int.one_mul]
    intros
    first | omega | skip
  · try simp (disch := omega) only [wid_u64, wid_i64, wid_i32, Int.tdiv_eq_ediv_of_nonneg, Int.tmod_eq_emod_of_nonneg, if_neg, Int.one_mul]
    try simp (disch := omega) only [wid_u64, wid_i64, wid_i32, Int.tdiv_eq_ediv_of_nonneg, Int.tmod_eq_emod_of_nonneg, if_neg, Int.one_mul]
    intros
    first | omega | skip
theorem al2_true9 (ρ : Nat → Value) : ∀ q, q ∈ al2R9 → q.1.holds ρ → q.2.truth ρ = true := by
  have ha := v_bounds ρ .i32 0
  have hb := v_bounds ρ .i32 1
  simp only [IntKind.min, IntKind.max, IntKind.bits, IntKind.signed] at ha hb
  simp only [al2R9, all_cons, all_nil, h_cons, h_nil, t_eql, t_lss, t_bool, t_and, t_not, n_int, n_add, n_sub, n_mul, n_conv, n_shr, n_and, n_quo, n_rem, n_max]
  generalize (SE.ivar .i32 0).num ρ = a at ha ⊢
  generalize (SE.ivar .i32 1).num ρ = b at hb ⊢
  simp at ha hb
  have c1 : IntKind.wrap .i64 a = a := wid_i64 a (by omega) (by omega)
  have c2 : IntKind.wrap .i64 b = b := wid_i64 b (by omega) (by omega)
  have hp := prod a b ha hb
  simp only [c1, c2, reduceIte, Bool.false_eq_true, and_true, and_imp, ne_eq]
  clear c1 c2
  generalize a * b = t at hp ⊢
  simp (disch := omega) only [wid_u64, wid_i64, Int.add_zero, Int.one_mul, Int.mul_one]
  by_cases hx : a < 0
  · have e1 := neg_u64 a hx (by omega)
    have e2 := neg_u64 (a * 256) (by omega) (by omega)
    try simp only [e1, e2]
    clear e1 e2
    try simp (disch := omega) only [wid_u64, wid_i64, wid_i32, Int.tdiv_eq_ediv_of_nonneg, Int.tmod_eq_emod_of_nonneg, if_neg, Int.one_mul]
    try simp (disch := omega) only [wid_u64, wid_i64, wid_i32, Int.tdiv_eq_ediv_of_nonneg, Int.tmod_eq_emod_of_nonneg, if_neg, Int.one_mul]
    intros
    first | omega | skip
  · try simp (disch := omega) only [wid_u64, wid_i64, wid_i32, Int.tdiv_eq_ediv_of_nonneg, Int.tmod_eq_emod_of_nonneg, if_neg, Int.one_mul]
    try simp (disch := omega) only [wid_u64, wid_i64, wid_i32, Int.tdiv_eq_ediv_of_nonneg, Int.tmod_eq_emod_of_nonneg, if_neg, Int.one_mul]
    intros
    first | omega | skip
theorem al2_true10 (ρ : Nat → Value) : ∀ q, q ∈ al2R10 → q.1.holds ρ → q.2.truth ρ = true := by
  have ha := v_bounds ρ .i32 0
  have hb := v_bounds ρ .i32 1
  simp only [IntKind.min, IntKind.max, IntKind.bits, IntKind.signed] at ha hb
  simp only [al2R10, all_cons, all_nil, h_cons, h_nil, t_eql, t_lss, t_bool, t_and, t_not, n_int, n_add, n_sub, n_mul, n_conv, n_shr, n_and, n_quo, n_rem, n_max]
  generalize (SE.ivar .i32 0).num ρ = a at ha ⊢
  generalize (SE.ivar .i32 1).num ρ = b at hb ⊢
  simp at ha hb
  have c1 : IntKind.wrap .i64 a = a := wid_i64 a (by omega) (by omega)
  have c2 : IntKind.wrap .i64 b = b := wid_i64 b (by omega) (by omega)
  have hp := prod a b ha hb
  simp only [c1, c2, reduceIte, Bool.false_eq_true, and_true, and_imp, ne_eq]
  clear c1 c2
  generalize a * b = t at hp ⊢
  simp (disch := omega) only [wid_u64, wid_i64, Int.add_zero, Int.one_mul, Int.mul_one]
  by_cases hx : a < 0
  · have e1 := neg_u64 a hx (by omega)
    have e2 := neg_u64 (a * 256) (by omega) (by omega)
    try simp only [e1, e2]
    clear e1 e2
    try simp (disch := omega) only [wid_u64, wid_i64, wid_i32, Int.tdiv_eq_ediv_of_nonneg, Int.tmod_eq_emod_of_nonneg, if_neg, Int.one_mul]
    try simp (disch := omega) only [wid_u64, wid_i64, wid_i32, Int.tdiv_eq_ediv_of_nonneg, Int.tmod_eq_emod_of_nonneg, if_neg, Int.one_mul]
    intros
    first | omega | skip
  · try simp (disch := omega) only [wid_u64, wid_i64, wid_i32, Int.tdiv_eq_ediv_of_nonneg, Int.tmod_eq_emod_of_nonneg, if_neg, Int.one_mul]
    try simp (disch := omega) only [wid_u64, wid_i64, wid_i32, Int.tdiv_eq_ediv_of_nonneg, Int.tmod_eq_emod_of_nonneg, if_neg, Int.one_mul]
    intros
    first | omega | skip
theorem al2_true11 (ρ : Nat → Value) : ∀ q, q ∈ al2R11 → q.1.holds ρ → q.2.truth ρ = true := by
  have ha := v_bounds ρ .i32 0
  have hb := v_bounds ρ .i32 1
  simp only [IntKind.min, IntKind.max, IntKind.bits, IntKind.signed] at ha hb
  simp only [al2R11, all_cons, all_nil, h_cons, h_nil, t_eql, t_lss, t_bool, t_and, t_not, n_int, n_add, n_sub, n_mul, n_conv, n_shr, n_and, n_quo, n_rem, n_max]
  generalize (SE.ivar .i32 0).num ρ = a at ha ⊢
  generalize (SE.ivar .i32 1).num ρ = b at hb ⊢
  simp at ha hb
  have c1 : IntKind.wrap .i64 a = a := wid_i64 a (by omega) (by omega)
  have c2 : IntKind.wrap .i64 b = b := wid_i64 b (by omega) (by omega)
  have hp := prod a b ha hb
  simp only [c1, c2, reduceIte, Bool.false_eq_true, and_true, and_imp, ne_eq]
  clear c1 c2
  generalize a * b = t at hp ⊢
  simp (disch := omega) only [wid_u64, wid_i64, Int.add_zero, Int.one_mul, Int.mul_one]
  by_cases hx : a < 0
  · have e1 := neg_u64 a hx (by omega)
    have e2 := neg_u64 (a * 256) (by omega) (by omega)
    try simp only [e1, e2]
    clear e1 e2
    try simp (disch := omega) only [wid_u64, wid_i64, wid_i32, Int.tdiv_eq_ediv_of_nonneg, Int.tmod_eq_emod_of_nonneg, if_neg, Int.one_mul]
    try simp (disch := omega) only [wid_u64, wid_i64, wid_i32, Int.tdiv_eq_ediv_of_nonneg, Int.tmod_eq_emod_of_nonneg, if_neg, Int.one_mul]
    intros
    first | omega | skip
  · try simp (disch := omega) only [wid_u64, wid_i64, wid_i32, Int.tdiv_eq_ediv_of_nonneg, Int.tmod_eq_emod_of_nonneg, if_neg, Int.one_mul]
    try simp (disch := omega) only [wid_u64, wid_i64, wid_i32, Int.tdiv_eq_ediv_of_nonneg, Int.tmod_eq_emod_of_nonneg, if_neg, Int.one_mul]
    intros
    first | omega | skip
theorem al2_true12 (ρ : Nat → Value) : ∀ q, q ∈ al2R12 → q.1.holds ρ → q.2.truth ρ = true := by
  have ha := v_bounds ρ .i32 0
  have hb := v_bounds ρ .i32 1
  simp only [IntKind.min, IntKind.max, IntKind.bits, IntKind.signed] at ha hb
  simp only [al2R12, all_cons, all_nil, h_cons, h_nil, t_eql, t_lss, t_bool, t_and, t_not, n_int, n_add, n_sub, n_mul, n_conv, n_shr, n_and, n_quo, n_rem, n_max]
  generalize (SE.ivar .i32 0).num ρ = a at ha ⊢
  generalize (SE.ivar .i32 1).num ρ = b at hb ⊢
  simp at ha hb
  have c1 : IntKind.wrap .i64 a = a := wid_i64 a (by omega) (by omega)
  have c2 : IntKind.wrap .i64 b = b := wid_i64 b (by omega) (by omega)
  have hp := prod a b ha hb
  simp only [c1, c2, reduceIte, Bool.false_eq_true, and_true, and_imp, ne_eq]
  clear c1 c2
  generalize a * b = t at hp ⊢
  simp (disch := omega) only [wid_u64, wid_i64, Int.add_zero, Int.one_mul, Int.mul_one]
  by_cases hx : a < 0
  · have e1 := neg_u64 a hx (by omega)
    have e2 := neg_u64 (a * 256) (by omega) (by omega)
    try simp only [e1, e2]
    clear e1 e2
    try simp (disch := omega) only [wid_u64, wid_i64, wid_i32, Int.tdiv_eq_ediv_of_nonneg, Int.tmod_eq_emod_of_nonneg, if_neg, Int.one_mul]
    try simp (disch := omega) only [wid_u64, wid_i64, wid_i32, Int.tdiv_eq_ediv_of_nonneg, Int.tmod_eq_emod_of_nonneg, if_neg, Int.one_mul]
    intros
    first | omega | skip
  · try simp (disch := omega) only [wid_u64, wid_i64, wid_i32, Int.tdiv_eq_ediv_of_nonneg, Int.tmod_eq_emod_of_nonneg, if_neg, Int.one_mul]
    try simp (disch := omega) only [wid_u64, wid_i64, wid_i32, Int.tdiv_eq_ediv_of_nonneg, Int.tmod_eq_emod_of_nonneg, if_neg, Int.one_mul]
    intros
    first | omega | skip
theorem al2_true13 (ρ : Nat → Value) : ∀ q, q ∈ al2R13 → q.1.holds ρ → q.2.truth ρ = true := by
  have ha := v_bounds ρ .i32 0
  have hb := v_bounds ρ .i32 1
  simp only [IntKind.min, IntKind.max, IntKind.bits, IntKind.signed] at ha hb
  simp only [al2R13, all_cons, all_nil, h_cons, h_nil, t_eql, t_lss, t_bool, t_and, t_not, n_int, n_add, n_sub, n_mul, n_conv, n_shr, n_and, n_quo, n_rem, n_max]
  generalize (SE.ivar .i32 0).num ρ = a at ha ⊢
  generalize (SE.ivar .i32 1).num ρ = b at hb ⊢
  simp at ha hb
  have c1 : IntKind.wrap .i64 a = a := wid_i64 a (by omega) (by omega)
  have c2 : IntKind.wrap .i64 b = b := wid_i64 b (by omega) (by omega)
  have hp := prod a b ha hb
  simp only [c1, c2, reduceIte, Bool.false_eq_true, and_true, and_imp, ne_eq]
  clear c1 c2
  generalize a * b = t at hp ⊢
  simp (disch := omega) only [wid_u64, wid_i64, Int.add_zero, Int.one_mul, Int.mul_one]
  by_cases hx : a < 0
  · have e1 := neg_u64 a hx (by omega)
    have e2 := neg_u64 (a * 256) (by omega) (by omega)
    try simp only [e1, e2]
    clear e1 e2
    try simp (disch := omega) only [wid_u64, wid_i64, wid_i32, Int.tdiv_eq_ediv_of_nonneg, Int.tmod_eq_emod_of_nonneg, if_neg, Int.one_mul]
    try simp (disch := omega) only [wid_u64, wid_i64, wid_i32, Int.tdiv_eq_ediv_of_nonneg, Int.tmod_eq_emod_of_nonneg, if_neg, Int.one_mul]
    intros
    first | omega | skip
  · try simp (disch := omega) only [wid_u64, wid_i64, wid_i32, Int.tdiv_eq_ediv_of_nonneg, Int.tmod_eq_emod_of_nonneg, if_neg, Int.one_mul]
    try simp (disch := omega) only [wid_u64, wid_i64, wid_i32, Int.tdiv_eq_ediv_of_nonneg, Int.tmod_eq_emod_of_nonneg, if_neg, Int.one_mul]
    intros
    first | omega | skip
theorem al2_true14 (ρ : Nat → Value) : ∀ q, q ∈ al2R14 → q.1.holds ρ → q.2.truth ρ = true := by
  have ha := v_bounds ρ .i32 0
  have hb := v_bounds ρ .i32 1
  simp only [IntKind.min, IntKind.max, IntKind.bits, IntKind.signed] at ha hb
  simp only [al2R14, all_cons, all_nil, h_cons, h_nil, t_eql, t_lss, t_bool, t_and, t_not, n_int, n_add, n_sub, n_mul, n_conv, n_shr, n_and, n_quo, n_rem, n_max]
  generalize (SE.ivar .i32 0).num ρ = a at ha ⊢
  generalize (SE.ivar .i32 1).num ρ = b at hb ⊢
  simp at ha hb
  have c1 : IntKind.wrap .i64 a = a := wid_i64 a (by omega) (by omega)
  have c2 : IntKind.wrap .i64 b = b := wid_i64 b (by omega) (by omega)
  have hp := prod a b ha hb
  simp only [c1, c2, reduceIte, Bool.false_eq_true, and_true, and_imp, ne_eq]
  clear c1 c2
  generalize a * b = t at hp ⊢
  simp (disch := omega) only [wid_u64, wid_i64, Int.add_zero, Int.one_mul, Int.mul_one]
  by_cases hx : a < 0
  · have e1 := neg_u64 a hx (by omega)
    have e2 := neg_u64 (a * 256) (by omega) (by omega)
    try simp only [e1, e2]
    clear e1 e2
    try simp (disch := omega) only [wid_u64, wid_i64, wid_i32, Int.tdiv_eq_ediv_of_nonneg, Int.tmod_eq_emod_of_nonneg, if_neg, Int.one_mul]
    try simp (disch := omega) only [wid_u64, wid_i64, wid_i32, Int.tdiv_eq_ediv_of_nonneg, Int.tmod_eq_emod_of_nonneg, if_neg, Int.one_mul]
    intros
    first | omega | skip
  · try simp (disch := omega) only [wid_u64, wid_i64, wid_i32, Int.tdiv_eq_ediv_of_nonneg, Int.tmod_eq_emod_of_nonneg, if_neg, Int.one_mul]
    try simp (disch := omega) only [wid_u64, wid_i64, wid_i32, Int.tdiv_eq_ediv_of_nonneg, Int.tmod_eq_emod_of_nonneg, if_neg, Int.one_mul]
    intros
    first | omega | skip
theorem al2_true15 (ρ : Nat → Value) : ∀ q, q ∈ al2R15 → q.1.holds ρ → q.2.truth ρ = true := by
  have ha := v_bounds ρ .i32 0
  have hb := v_bounds ρ .i32 1
  simp only [IntKind.min, IntKind.max, IntKind.bits, IntKind.signed] at ha hb
  simp only [al2R15, all_cons, all_nil, h_cons, h_nil, t_eql, t_lss, t_bool, t_and, t_not, n_int, n_add, n_sub, n_mul, n_conv, n_shr, n_and, n_quo, n_rem, n_max]
  generalize (SE.ivar .i32 0).num ρ = a at ha ⊢
  generalize (SE.ivar .i32 1).num ρ = b at hb ⊢
  simp at ha hb
  have c1 : IntKind.wrap .i64 a = a := wid_i64 a (by omega) (by omega)
  have c2 : IntKind.wrap .i64 b = b := wid_i64 b (by omega) (by omega)
  have hp := prod a b ha hb
  simp only [c1, c2, reduceIte, Bool.false_eq_true, and_true, and_imp, ne_eq]
  clear c1 c2
  generalize a * b = t at hp ⊢
  simp (disch := omega) only [wid_u64, wid_i64, Int.add_zero, Int.one_mul, Int.mul_one]
  by_cases hx : a < 0
  · have e1 := neg_u64 a hx (by omega)
    have e2 := neg_u64 (a * 256) (by omega) (by omega)
    try simp only [e1, e2]
    clear e1 e2
    try simp (disch := omega) only [wid_u64, wid_i64, wid_i32, Int.tdiv_eq_ediv_of_nonneg, Int.tmod_eq_emod_of_nonneg, if_neg, Int.one_mul]
    try simp (disch := omega) only [wid_u64, wid_i64, wid_i32, Int.tdiv_eq_ediv_of_nonneg, Int.tmod_eq_emod_of_nonneg, if_neg, Int.one_mul]
    intros
    first | omega | skip
  · try simp (disch := omega) only [wid_u64, wid_i64, wid_i32, Int.tdiv_eq_ediv_of_nonneg, Int.tmod_eq_emod_of_nonneg, if_neg, Int.one_mul]
    try simp (disch := omega) only [wid_u64, wid_i64, wid_i32, Int.tdiv_eq_ediv_of_nonneg, Int.tmod_eq_emod_of_nonneg, if_neg, Int.one_mul]
    intros
    first | omega | skip
theorem al2_true16 (ρ : Nat → Value) : ∀ q, q ∈ al2R16 → q.1.holds ρ → q.2.truth ρ = true := by
  have ha := v_bounds ρ .i32 0
  have hb := v_bounds ρ .i32 1
  simp only [IntKind.min, IntKind.max, IntKind.bits, IntKind.signed] at ha hb
  simp only [al2R16, all_cons, all_nil, h_cons, h_nil, t_eql, t_lss, t_bool, t_and, t_not, n_int, n_add, n_sub, n_mul, n_conv, n_shr, n_and, n_quo, n_rem, n_max]
  generalize (SE.ivar .i32 0).num ρ = a at ha ⊢
  generalize (SE.ivar .i32 1).num ρ = b at hb ⊢
  simp at ha hb
  have c1 : IntKind.wrap .i64 a = a := wid_i64 a (by omega) (by omega)
  have c2 : IntKind.wrap .i64 b = b := wid_i64 b (by omega) (by omega)
  have hp := prod a b ha hb
  simp only [c1, c2, reduceIte, Bool.false_eq_true, and_true, and_imp, ne_eq]
  clear c1 c2
  generalize a * b = t at hp ⊢
  simp (disch := omega) only [wid_u64, wid_i64, Int.add_zero, Int.one_mul, Int.mul_one]
  by_cases hx : a < 0
  · have e1 := neg_u64 a hx (by omega)
    have e2 := neg_u64 (a * 256) (by omega) (by omega)
    try simp only [e1, e2]
    clear e1 e2
    try simp (disch := omega) only [wid_u64, wid_i64, wid_i32, Int.tdiv_eq_ediv_of_nonneg, Int.tmod_eq_emod_of_nonneg, if_neg, Int.one_mul]
    try simp (disch := omega) only [wid_u64, wid_i64, wid_i32, Int.tdiv_eq_ediv_of_nonneg, Int.tmod_eq_emod_of_nonneg, if_neg, Int.one_mul]
    intros
    first | omega | skip
  · try simp (disch := omega) only [wid_u64, wid_i64, wid_i32, Int.tdiv_eq_ediv_of_nonneg, Int.tmod_eq_emod_of_nonneg, if_neg, Int.one_mul]
    try simp (disch := omega) only [wid_u64, wid_i64, wid_i32, Int.tdiv_eq_ediv_of_nonneg, Int.tmod_eq_emod_of_nonneg, if_neg, Int.one_mul]
    intros
    first | omega | skip
theorem al2_true17 (ρ : Nat → Value) : ∀ q, q ∈ al2R17 → q.1.holds ρ → q.2.truth ρ = true := by
  have ha := v_bounds ρ .i32 0
  have hb := v_bounds ρ .i32 1
  simp only [IntKind.min, IntKind.max, IntKind.bits, IntKind.signed] at ha hb
  simp only [al2R17, all_cons, all_nil, h_cons, h_nil, t_eql, t_lss, t_bool, t_and, t_not, n_int, n_add, n_sub, n_mul, n_conv, n_shr, n_and, n_quo, n_rem, n_max]
  generalize (SE.ivar .i32 0).num ρ = a at ha ⊢
  generalize (SE.ivar .i32 1).num ρ = b at hb ⊢
  simp at ha hb
  have c1 : IntKind.wrap .i64 a = a := wid_i64 a (by omega) (by omega)
  have c2 : IntKind.wrap .i64 b = b := wid_i64 b (by omega) (by omega)
  have hp := prod a b ha hb
  simp only [c1, c2, reduceIte, Bool.false_eq_true, and_true, and_imp, ne_eq]
  clear c1 c2
  generalize a * b = t at hp ⊢
  simp (disch := omega) only [wid_u64, wid_i64, Int.add_zero, Int.one_mul, Int.mul_one]
  by_cases hx : a < 0
  · have e1 := neg_u64 a hx (by omega)
    have e2 := neg_u64 (a * 256) (by omega) (by omega)
    try simp only [e1, e2]
    clear e1 e2
    try simp (disch := omega) only [wid_u64, wid_i64, wid_i32, Int.tdiv_eq_ediv_of_nonneg, Int.tmod_eq_emod_of_nonneg, if_neg, Int.one_mul]
    try simp (disch := omega) only [wid_u64, wid_i64, wid_i32, Int.tdiv_eq_ediv_of_nonneg, Int.tmod_eq_emod_of_nonneg, if_neg, Int.one_mul]
    intros
    first | omega | skip
  · try simp (disch := omega) only [wid_u64, wid_i64, wid_i32, Int.tdiv_eq_ediv_of_nonneg, Int.tmod_eq_emod_of_nonneg, if_neg, Int.one_mul]
    try simp (disch := omega) only [wid_u64, wid_i64, wid_i32, Int.tdiv_eq_ediv_of_nonneg, Int.tmod_eq_emod_of_nonneg, if_neg, Int.one_mul]
    intros
    first | omega | skip
theorem al2_true18 (ρ : Nat → Value) : ∀ q, q ∈ al2R18 → q.1.holds ρ → q.2.truth ρ = true := by
  have ha := v_bounds ρ .i32 0
  have hb := v_bounds ρ .i32 1
  simp only [IntKind.min, IntKind.max, IntKind.bits, IntKind.signed] at ha hb
  simp only [al2R18, all_cons, all_nil, h_cons, h_nil, t_eql, t_lss, t_bool, t_and, t_not, n_int, n_add, n_sub, n_mul, n_conv, n_shr, n_and, n_quo, n_rem, n_max]
  generalize (SE.ivar .i32 0).num ρ = a at ha ⊢
  generalize (SE.ivar .i32 1).num ρ = b at hb ⊢
  simp at ha hb
  have c1 : IntKind.wrap .i64 a = a := wid_i64 a (by omega) (by omega)
  have c2 : IntKind.wrap .i64 b = b := wid_i64 b (by omega) (by omega)
  have hp := prod a b ha hb
  simp only [c1, c2, reduceIte, Bool.false_eq_true, and_true, and_imp, ne_eq]
  clear c1 c2
  generalize a * b = t at hp ⊢
  simp (disch := omega) only [wid_u64, wid_i64, Int.add_zero, Int.one_mul, Int.mul_one]
  by_cases hx : a < 0
  · have e1 := neg_u64 a hx (by omega)
    have e2 := neg_u64 (a * 256) (by omega) (by omega)
    try simp only [e1, e2]
    clear e1 e2
    try simp (disch := omega) only [wid_u64, wid_i64, wid_i32, Int.tdiv_eq_ediv_of_nonneg, Int.tmod_eq_emod_of_nonneg, if_neg, Int.one_mul]
    try simp (disch := omega) only [wid_u64, wid_i64, wid_i32, Int.tdiv_eq_ediv_of_nonneg, Int.tmod_eq_emod_of_nonneg, if_neg, Int.one_mul]
    intros
    first | omega | skip
  · try simp (disch := omega) only [wid_u64, wid_i64, wid_i32, Int.tdiv_eq_ediv_of_nonneg, Int.tmod_eq_emod_of_nonneg, if_neg, Int.one_mul]
    try simp (disch := omega) only [wid_u64, wid_i64, wid_i32, Int.tdiv_eq_ediv_of_nonneg, Int.tmod_eq_emod_of_nonneg, if_neg, Int.one_mul]
    intros
    first | omega | skip
theorem al2_true19 (ρ : Nat → Value) : ∀ q, q ∈ al2R19 → q.1.holds ρ → q.2.truth ρ = true := by
  have ha := v_bounds ρ .i32 0
  have hb := v_bounds ρ .i32 1
  simp only [IntKind.min, IntKind.max, IntKind.bits, IntKind.signed] at ha hb
  simp only [al2R19, all_cons, all_nil, h_cons, h_nil, t_eql, t_lss, t_bool, t_and, t_not, n_int, n_add, n_sub, n_mul, n_conv, n_shr, n_and, n_quo, n_rem, n_max]
  generalize (SE.ivar .i32 0).num ρ = a at ha ⊢
  generalize (SE.ivar .i32 1).num ρ = b at hb ⊢
  simp at ha hb
  have c1 : IntKind.wrap .i64 a = a := wid_i64 a (by omega) (by omega)
  have c2 : IntKind.wrap .i64 b = b := wid_i64 b (by omega) (by omega)
  have hp := prod a b ha hb
  simp only [c1, c2, reduceIte, Bool.false_eq_true, and_true, and_imp, ne_eq]
  clear c1 c2
  generalize a * b = t at hp ⊢
  simp (disch := omega) only [wid_u64, wid_i64, Int.add_zero, Int.one_mul, Int.mul_one]
  by_cases hx : a < 0
  · have e1 := neg_u64 a hx (by omega)
    have e2 := neg_u64 (a * 256) (by omega) (by omega)
    try simp only [e1, e2]
    clear e1 e2
    try simp (disch := omega) only [wid_u64, wid_i64, wid_i32, Int.tdiv_eq_ediv_of_nonneg, Int.tmod_eq_emod_of_nonneg, if_neg, Int.one_mul]
    try simp (disch := omega) only [wid_u64, wid_i64, wid_i32, Int.tdiv_eq_ediv_of_nonneg, Int.tmod_eq_emod_of_nonneg, if_neg, Int.one_mul]
    intros
    first | omega | skip
  · try simp (disch := omega) only [wid_u64, wid_i64, wid_i32, Int.tdiv_eq_ediv_of_nonneg, Int.tmod_eq_emod_of_nonneg, if_neg, Int.one_mul]
    try simp (disch := omega) only [wid_u64, wid_i64, wid_i32, Int.tdiv_eq_ediv_of_nonneg, Int.tmod_eq_emod_of_nonneg, if_neg, Int.one_mul]
    intros
    first | omega | skip
theorem al2_true20 (ρ : Nat → Value) : ∀ q, q ∈ al2R20 → q.1.holds ρ → q.2.truth ρ = true := by
  have ha := v_bounds ρ .i32 0
  have hb := v_bounds ρ .i32 1
  simp only [IntKind.min, IntKind.max, IntKind.bits, IntKind.signed] at ha hb
  simp only [al2R20, all_cons, all_nil, h_cons, h_nil, t_eql, t_lss, t_bool, t_and, t_not, n_int, n_add, n_sub, n_mul, n_conv, n_shr, n_and, n_quo, n_rem, n_max]
  generalize (SE.ivar .i32 0).num ρ = a at ha ⊢
  generalize (SE.ivar .i32 1).num ρ = b at hb ⊢
  simp at ha hb
  have c1 : IntKind.wrap .i64 a = a := wid_i64 a (by omega) (by omega)
  have c2 : IntKind.wrap .i64 b = b := wid_i64 b (by omega) (by omega)
  have hp := prod a b ha hb
  simp only [c1, c2, reduceIte, Bool.false_eq_true, and_true, and_imp, ne_eq]
  clear c1 c2
  generalize a * b = t at hp ⊢
  simp (disch := omega) only [wid_u64, wid_i64, Int.add_zero, Int.one_mul, Int.mul_one]
  by_cases hx : a < 0
  · have e1 := neg_u64 a hx (by omega)
    have e2 := neg_u64 (a * 256) (by omega) (by omega)
    try simp only [e1, e2]
    clear e1 e2
    try simp (disch := omega) only [wid_u64, wid_i64, wid_i32, Int.tdiv_eq_ediv_of_nonneg, Int.tmod_eq_emod_of_nonneg, if_neg, Int.one_mul]
    try simp (disch := omega) only [wid_u64, wid_i64, wid_i32, Int.tdiv_eq_ediv_of_nonneg, Int.tmod_eq_emod_of_nonneg, if_neg, Int.one_mul]
    intros
    first | omega | skip
  · try simp (disch := omega) only [wid_u64, wid_i64, wid_i32, Int.tdiv_eq_ediv_of_nonneg, Int.tmod_eq_emod_of_nonneg, if_neg, Int.one_mul]
    try simp (disch := omega) only [wid_u64, wid_i64, wid_i32, Int.tdiv_eq_ediv_of_nonneg, Int.tmod_eq_emod_of_nonneg, if_neg, Int.one_mul]
    intros
    first | omega | skip
theorem al2_true21 (ρ : Nat → Value) : ∀ q, q ∈ al2R21 → q.1.holds ρ → q.2.truth ρ = true := by
  have ha := v_bounds ρ .i32 0
  have hb := v_bounds ρ .i32 1
  simp only [IntKind.min, IntKind.max, IntKind.bits, IntKind.signed] at ha hb
  simp only [al2R21, all_cons, all_nil, h_cons, h_nil, t_eql, t_lss, t_bool, t_and, t_not, n_int, n_add, n_sub, n_mul, n_conv, n_shr, n_and, n_quo, n_rem, n_max]
  generalize (SE.ivar .i32 0).num ρ = a at ha ⊢
  generalize (SE.ivar .i32 1).num ρ = b at hb ⊢
  simp at ha hb
  have c1 : IntKind.wrap .i64 a = a := wid_i64 a (by omega) (by omega)
  have c2 : IntKind.wrap .i64 b = b := wid_i64 b (by omega) (by omega)
  have hp := prod a b ha hb
  simp only [c1, c2, reduceIte, Bool.false_eq_true, and_true, and_imp, ne_eq]
  clear c1 c2
  generalize a * b = t at hp ⊢
  simp (disch := omega) only [wid_u64, wid_i64, Int.add_zero, Int.one_mul, Int.mul_one]
  by_cases hx : a < 0
  · have e1 := neg_u64 a hx (by omega)
    have e2 := neg_u64 (a * 256) (by omega) (by omega)
    try simp only [e1, e2]
    clear e1 e2
    try simp (disch := omega) only [wid_u64, wid_i64, wid_i32, Int.tdiv_eq_ediv_of_nonneg, Int.tmod_eq_emod_of_nonneg, if_neg, Int.one_mul]
    try simp (disch := omega) only [wid_u64, wid_i64, wid_i32, Int.tdiv_eq_ediv_of_nonneg, Int.tmod_eq_emod_of_nonneg, if_neg, Int.one_mul]
    intros
    first | omega | skip
  · try simp (disch := omega) only [wid_u64, wid_i64, wid_i32, Int.tdiv_eq_ediv_of_nonneg, Int.tmod_eq_emod_of_nonneg, if_neg, Int.one_mul]
    try simp (disch := omega) only [wid_u64, wid_i64, wid_i32, Int.tdiv_eq_ediv_of_nonneg, Int.tmod_eq_emod_of_nonneg, if_neg, Int.one_mul]
    intros
    first | omega | skip
theorem al2_true22 (ρ : Nat → Value) : ∀ q, q ∈ al2R22 → q.1.holds ρ → q.2.truth ρ = true := by
  have ha := v_bounds ρ .i32 0
  have hb := v_bounds ρ .i32 1
  simp only [IntKind.min, IntKind.max, IntKind.bits, IntKind.signed] at ha hb
  simp only [al2R22, all_cons, all_nil, h_cons, h_nil, t_eql, t_lss, t_bool, t_and, t_not, n_int, n_add, n_sub, n_mul, n_conv, n_shr, n_and, n_quo, n_rem, n_max]
  generalize (SE.ivar .i32 0).num ρ = a at ha ⊢
  generalize (SE.ivar .i32 1).num ρ = b at hb ⊢
  simp at ha hb
  have c1 : IntKind.wrap .i64 a = a := wid_i64 a (by omega) (by omega)
  have c2 : IntKind.wrap .i64 b = b := wid_i64 b (by omega) (by omega)
  have hp := prod a b ha hb
  simp only [c1, c2, reduceIte, Bool.false_eq_true, and_true, and_imp, ne_eq]
  clear c1 c2
  generalize a * b = t at hp ⊢
  simp (disch := omega) only [wid_u64, wid_i64, Int.add_zero, Int.one_mul, Int.mul_one]
  by_cases hx : a < 0
  · have e1 := neg_u64 a hx (by omega)
    have e2 := neg_u64 (a * 256) (by omega) (by omega)
    try simp only [e1, e2]
    clear e1 e2
    try simp (disch := omega) only [wid_u64, wid_i64, wid_i32, Int.tdiv_eq_ediv_of_nonneg, Int.tmod_eq_emod_of_nonneg, if_neg, Int.one_mul]
    try simp (disch := omega) only [wid_u64, wid_i64, wid_i32, Int.tdiv_eq_ediv_of_nonneg, Int.tmod_eq_emod_of_nonneg, if_neg, Int.one_mul]
    intros
    first | omega | skip
  · try simp (disch := omega) only [wid_u64, wid_i64, wid_i32, Int.tdiv_eq_ediv_of_nonneg, Int.tmod_eq_emod_of_nonneg, if_neg, Int.one_mul]
    try simp (disch := omega) only [wid_u64, wid_i64, wid_i32, Int.tdiv_eq_ediv_of_nonneg, Int.tmod_eq_emod_of_nonneg, if_neg, Int.one_mul]
    intros
    first | omega | skip
theorem al2_true23 (ρ : Nat → Value) : ∀ q, q ∈ al2R23 → q.1.holds ρ → q.2.truth ρ = true := by
  have ha := v_bounds ρ .i32 0
  have hb := v_bounds ρ .i32 1
  simp only [IntKind.min, IntKind.max, IntKind.bits, IntKind.signed] at ha hb
  simp only [al2R23, all_cons, all_nil, h_cons, h_nil, t_eql, t_lss, t_bool, t_and, t_not, n_int, n_add, n_sub, n_mul, n_conv, n_shr, n_and, n_quo, n_rem, n_max]
  generalize (SE.ivar .i32 0).num ρ = a at ha ⊢
  generalize (SE.ivar .i32 1).num ρ = b at hb ⊢
  simp at ha hb
  have c1 : IntKind.wrap .i64 a = a := wid_i64 a (by omega) (by omega)
  have c2 : IntKind.wrap .i64 b = b := wid_i64 b (by omega) (by omega)
  have hp := prod a b ha hb
  simp only [c1, c2, reduceIte, Bool.false_eq_true, and_true, and_imp, ne_eq]
  clear c1 c2
  generalize a * b = t at hp ⊢
  simp (disch := omega) only [wid_u64, wid_i64, Int.add_zero, Int.one_mul, Int.mul_one]
  by_cases hx : a < 0
  · have e1 := neg_u64 a hx (by omega)
    have e2 := neg_u64 (a * 256) (by omega) (by omega)
    try simp only [e1, e2]
    clear e1 e2
    try simp (disch := omega) only [wid_u64, wid_i64, wid_i32, Int.tdiv_eq_ediv_of_nonneg, Int.tmod_eq_emod_of_nonneg, if_neg, Int.one_mul]
    try simp (disch := omega) only [wid_u64, wid_i64, wid_i32, Int.tdiv_eq_ediv_of_nonneg, Int.tmod_eq_emod_of_nonneg, if_neg, Int.one_mul]
    intros
    first | omega | skip
  · try simp (disch := omega) only [wid_u64, wid_i64, wid_i32, Int.tdiv_eq_ediv_of_nonneg, Int.tmod_eq_emod_of_nonneg, if_neg, Int.one_mul]
    try simp (disch := omega) only [wid_u64, wid_i64, wid_i32, Int.tdiv_eq_ediv_of_nonneg, Int.tmod_eq_emod_of_nonneg, if_neg, Int.one_mul]
    intros
    first | omega | skip
theorem al2_true (ρ : Nat → Value) : ∀ q, q ∈ al2R → q.1.holds ρ → q.2.truth ρ = true := by
  intro q h
  simp only [al2R, List.mem_append] at h
  rcases h with h | h | h | h | h | h | h | h | h | h | h | h | h | h | h | h | h | h | h | h | h | h | h | h
  · exact al2_true0 ρ q h
  · exact al2_true1 ρ q h
  · exact al2_true2 ρ q h
  · exact al2_true3 ρ q h
  · exact al2_true4 ρ q h
  · exact al2_true5 ρ q h
  · exact al2_true6 ρ q h
  · exact al2_true7 ρ q h
  · exact al2_true8 ρ q h
  · exact al2_true9 ρ q h
  · exact al2_true10 ρ q h
  · exact al2_true11 ρ q h
  · exact al2_true12 ρ q h
  · exact al2_true13 ρ q h
  · exact al2_true14 ρ q h
  · exact al2_true15 ρ q h
  · exact al2_true16 ρ q h
  · exact al2_true17 ρ q h
  · exact al2_true18 ρ q h
  · exact al2_true19 ρ q h
  · exact al2_true20 ρ q h
  · exact al2_true21 ρ q h
  · exact al2_true22 ρ q h
  · exact al2_true23 ρ q h
end Go.Proofs.YtdblaloadklcfabDoor
