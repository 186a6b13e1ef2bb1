/- FixedAlgebra: a run and what it leaves to be shown. -/
import Derived.Test.YtdblaloadklcfabDoorFxAlB
set_option linter.unusedVariables false
set_option linter.unusedSimpArgs false
namespace Go.Proofs.YtdblaloadklcfabDoor
open Go.Sx
def al4R0 : List (PC × SE) := [
  ((((.cmp .eql (.conv .i32 (.bin .sub .i64 (.int .i64 0) (.conv .i64 (.bin .quo .u64 (.bin .mul .u64 (.int .u64 256) (.bin .sub .u64 (.int .u64 0) (.conv .u64 (.conv .i64 (.ivar .i32 0))))) (.int .u64 256))))) (.ivar .i32 0)), false) :: (((.cmp .eql (.conv .i32 (.bin .sub .i64 (.int .i64 0) (.conv .i64 (.bin .quo .u64 (.bin .mul .u64 (.int .u64 1) (.bin .sub .u64 (.int .u64 0) (.conv .u64 (.bin .mul .i64 (.conv .i64 (.ivar .i32 0)) (.int .i64 256))))) (.int .u64 256))))) (.ivar .i32 0)), true) :: (((.cmp .eql (.conv .i32 (.bin .sub .i64 (.int .i64 0) (.conv .i64 (.bin .quo .u64 (.bin .mul .u64 (.int .u64 1) (.bin .sub .u64 (.int .u64 0) (.conv .u64 (.bin .add .i64 (.conv .i64 (.ivar .i32 0)) (.int .i64 0))))) (.int .u64 1))))) (.ivar .i32 0)), true) :: (((.cmp .lss (.int .u64 2147483648) (.bin .add .u64 (.int .u64 1) (.bin .quo .u64 (.bin .mul .u64 (.int .u64 1) (.bin .sub .u64 (.int .u64 0) (.conv .u64 (.bin .mul .i64 (.conv .i64 (.ivar .i32 0)) (.conv .i64 (.ivar .i32 1)))))) (.int .u64 256)))), false) :: (((.cmp .lss (.bin .rem .u64 (.bin .mul .u64 (.int .u64 1) (.bin .sub .u64 (.int .u64 0) (.conv .u64 (.bin .mul .i64 (.conv .i64 (.ivar .i32 0)) (.conv .i64 (.ivar .i32 1)))))) (.int .u64 256)) (.bin .sub .u64 (.int .u64 256) (.bin .rem .u64 (.bin .mul .u64 (.int .u64 1) (.bin .sub .u64 (.int .u64 0) (.conv .u64 (.bin .mul .i64 (.conv .i64 (.ivar .i32 0)) (.conv .i64 (.ivar .i32 1)))))) (.int .u64 256)))), false) :: (((.cmp .lss (.bin .mul .i64 (.conv .i64 (.ivar .i32 0)) (.conv .i64 (.ivar .i32 1))) (.int .i64 0)), true) :: (((.cmp .lss (.bin .add .i64 (.conv .i64 (.ivar .i32 0)) (.conv .i64 (.ivar .i32 1))) (.int .i64 0)), true) :: (((.cmp .lss (.conv .i64 (.ivar .i32 0)) (.int .i64 0)), true) :: (((.cmp .lss (.conv .i64 (.ivar .i32 1)) (.int .i64 0)), false) :: []))))))))), (.bool false))]
def al4R1 : List (PC × SE) := [
  ((((.cmp .eql (.conv .i32 (.bin .sub .i64 (.int .i64 0) (.conv .i64 (.bin .quo .u64 (.bin .mul .u64 (.int .u64 1) (.bin .sub .u64 (.int .u64 0) (.conv .u64 (.bin .mul .i64 (.conv .i64 (.ivar .i32 0)) (.int .i64 256))))) (.int .u64 256))))) (.ivar .i32 0)), false) :: (((.cmp .eql (.conv .i32 (.bin .sub .i64 (.int .i64 0) (.conv .i64 (.bin .quo .u64 (.bin .mul .u64 (.int .u64 1) (.bin .sub .u64 (.int .u64 0) (.conv .u64 (.bin .add .i64 (.conv .i64 (.ivar .i32 0)) (.int .i64 0))))) (.int .u64 1))))) (.ivar .i32 0)), true) :: (((.cmp .lss (.int .u64 2147483648) (.bin .add .u64 (.int .u64 1) (.bin .quo .u64 (.bin .mul .u64 (.int .u64 1) (.bin .sub .u64 (.int .u64 0) (.conv .u64 (.bin .mul .i64 (.conv .i64 (.ivar .i32 0)) (.conv .i64 (.ivar .i32 1)))))) (.int .u64 256)))), false) :: (((.cmp .lss (.bin .rem .u64 (.bin .mul .u64 (.int .u64 1) (.bin .sub .u64 (.int .u64 0) (.conv .u64 (.bin .mul .i64 (.conv .i64 (.ivar .i32 0)) (.conv .i64 (.ivar .i32 1)))))) (.int .u64 256)) (.bin .sub .u64 (.int .u64 256) (.bin .rem .u64 (.bin .mul .u64 (.int .u64 1) (.bin .sub .u64 (.int .u64 0) (.conv .u64 (.bin .mul .i64 (.conv .i64 (.ivar .i32 0)) (.conv .i64 (.ivar .i32 1)))))) (.int .u64 256)))), false) :: (((.cmp .lss (.bin .mul .i64 (.conv .i64 (.ivar .i32 0)) (.conv .i64 (.ivar .i32 1))) (.int .i64 0)), true) :: (((.cmp .lss (.bin .add .i64 (.conv .i64 (.ivar .i32 0)) (.conv .i64 (.ivar .i32 1))) (.int .i64 0)), true) :: (((.cmp .lss (.conv .i64 (.ivar .i32 0)) (.int .i64 0)), true) :: (((.cmp .lss (.conv .i64 (.ivar .i32 1)) (.int .i64 0)), false) :: [])))))))), (.bool false))]
def al4R2 : List (PC × SE) := [
  ((((.cmp .eql (.conv .i32 (.bin .sub .i64 (.int .i64 0) (.conv .i64 (.bin .quo .u64 (.bin .mul .u64 (.int .u64 1) (.bin .sub .u64 (.int .u64 0) (.conv .u64 (.bin .add .i64 (.conv .i64 (.ivar .i32 0)) (.int .i64 0))))) (.int .u64 1))))) (.ivar .i32 0)), false) :: (((.cmp .lss (.int .u64 2147483648) (.bin .add .u64 (.int .u64 1) (.bin .quo .u64 (.bin .mul .u64 (.int .u64 1) (.bin .sub .u64 (.int .u64 0) (.conv .u64 (.bin .mul .i64 (.conv .i64 (.ivar .i32 0)) (.conv .i64 (.ivar .i32 1)))))) (.int .u64 256)))), false) :: (((.cmp .lss (.bin .rem .u64 (.bin .mul .u64 (.int .u64 1) (.bin .sub .u64 (.int .u64 0) (.conv .u64 (.bin .mul .i64 (.conv .i64 (.ivar .i32 0)) (.conv .i64 (.ivar .i32 1)))))) (.int .u64 256)) (.bin .sub .u64 (.int .u64 256) (.bin .rem .u64 (.bin .mul .u64 (.int .u64 1) (.bin .sub .u64 (.int .u64 0) (.conv .u64 (.bin .mul .i64 (.conv .i64 (.ivar .i32 0)) (.conv .i64 (.ivar .i32 1)))))) (.int .u64 256)))), false) :: (((.cmp .lss (.bin .mul .i64 (.conv .i64 (.ivar .i32 0)) (.conv .i64 (.ivar .i32 1))) (.int .i64 0)), true) :: (((.cmp .lss (.bin .add .i64 (.conv .i64 (.ivar .i32 0)) (.conv .i64 (.ivar .i32 1))) (.int .i64 0)), true) :: (((.cmp .lss (.conv .i64 (.ivar .i32 0)) (.int .i64 0)), true) :: (((.cmp .lss (.conv .i64 (.ivar .i32 1)) (.int .i64 0)), false) :: []))))))), (.bool false))]
def al4R3 : List (PC × SE) := [
  ((((.cmp .eql (.conv .i32 (.bin .sub .i64 (.int .i64 0) (.conv .i64 (.bin .quo .u64 (.bin .mul .u64 (.int .u64 256) (.bin .sub .u64 (.int .u64 0) (.conv .u64 (.conv .i64 (.ivar .i32 0))))) (.int .u64 256))))) (.ivar .i32 0)), false) :: (((.cmp .eql (.conv .i32 (.bin .sub .i64 (.int .i64 0) (.conv .i64 (.bin .quo .u64 (.bin .mul .u64 (.int .u64 1) (.bin .sub .u64 (.int .u64 0) (.conv .u64 (.bin .mul .i64 (.conv .i64 (.ivar .i32 0)) (.int .i64 256))))) (.int .u64 256))))) (.ivar .i32 0)), true) :: (((.cmp .eql (.conv .i32 (.bin .sub .i64 (.int .i64 0) (.conv .i64 (.bin .quo .u64 (.bin .mul .u64 (.int .u64 1) (.bin .sub .u64 (.int .u64 0) (.conv .u64 (.bin .add .i64 (.conv .i64 (.ivar .i32 0)) (.int .i64 0))))) (.int .u64 1))))) (.ivar .i32 0)), true) :: (((.cmp .lss (.int .u64 2147483648) (.bin .add .u64 (.int .u64 1) (.bin .quo .u64 (.bin .mul .u64 (.int .u64 1) (.bin .sub .u64 (.int .u64 0) (.conv .u64 (.bin .mul .i64 (.conv .i64 (.ivar .i32 0)) (.conv .i64 (.ivar .i32 1)))))) (.int .u64 256)))), true) :: (((.cmp .lss (.bin .rem .u64 (.bin .mul .u64 (.int .u64 1) (.bin .sub .u64 (.int .u64 0) (.conv .u64 (.bin .mul .i64 (.conv .i64 (.ivar .i32 0)) (.conv .i64 (.ivar .i32 1)))))) (.int .u64 256)) (.bin .sub .u64 (.int .u64 256) (.bin .rem .u64 (.bin .mul .u64 (.int .u64 1) (.bin .sub .u64 (.int .u64 0) (.conv .u64 (.bin .mul .i64 (.conv .i64 (.ivar .i32 0)) (.conv .i64 (.ivar .i32 1)))))) (.int .u64 256)))), false) :: (((.cmp .lss (.bin .mul .i64 (.conv .i64 (.ivar .i32 0)) (.conv .i64 (.ivar .i32 1))) (.int .i64 0)), true) :: (((.cmp .lss (.bin .add .i64 (.conv .i64 (.ivar .i32 0)) (.conv .i64 (.ivar .i32 1))) (.int .i64 0)), true) :: (((.cmp .lss (.conv .i64 (.ivar .i32 0)) (.int .i64 0)), true) :: (((.cmp .lss (.conv .i64 (.ivar .i32 1)) (.int .i64 0)), false) :: []))))))))), (.bool false))]
def al4R4 : List (PC × SE) := [
  ((((.cmp .eql (.conv .i32 (.bin .sub .i64 (.int .i64 0) (.conv .i64 (.bin .quo .u64 (.bin .mul .u64 (.int .u64 1) (.bin .sub .u64 (.int .u64 0) (.conv .u64 (.bin .mul .i64 (.conv .i64 (.ivar .i32 0)) (.int .i64 256))))) (.int .u64 256))))) (.ivar .i32 0)), false) :: (((.cmp .eql (.conv .i32 (.bin .sub .i64 (.int .i64 0) (.conv .i64 (.bin .quo .u64 (.bin .mul .u64 (.int .u64 1) (.bin .sub .u64 (.int .u64 0) (.conv .u64 (.bin .add .i64 (.conv .i64 (.ivar .i32 0)) (.int .i64 0))))) (.int .u64 1))))) (.ivar .i32 0)), true) :: (((.cmp .lss (.int .u64 2147483648) (.bin .add .u64 (.int .u64 1) (.bin .quo .u64 (.bin .mul .u64 (.int .u64 1) (.bin .sub .u64 (.int .u64 0) (.conv .u64 (.bin .mul .i64 (.conv .i64 (.ivar .i32 0)) (.conv .i64 (.ivar .i32 1)))))) (.int .u64 256)))), true) :: (((.cmp .lss (.bin .rem .u64 (.bin .mul .u64 (.int .u64 1) (.bin .sub .u64 (.int .u64 0) (.conv .u64 (.bin .mul .i64 (.conv .i64 (.ivar .i32 0)) (.conv .i64 (.ivar .i32 1)))))) (.int .u64 256)) (.bin .sub .u64 (.int .u64 256) (.bin .rem .u64 (.bin .mul .u64 (.int .u64 1) (.bin .sub .u64 (.int .u64 0) (.conv .u64 (.bin .mul .i64 (.conv .i64 (.ivar .i32 0)) (.conv .i64 (.ivar .i32 1)))))) (.int .u64 256)))), false) :: (((.cmp .lss (.bin .mul .i64 (.conv .i64 (.ivar .i32 0)) (.conv .i64 (.ivar .i32 1))) (.int .i64 0)), true) :: (((.cmp .lss (.bin .add .i64 (.conv .i64 (.ivar .i32 0)) (.conv .i64 (.ivar .i32 1))) (.int .i64 0)), true) :: (((.cmp .lss (.conv .i64 (.ivar .i32 0)) (.int .i64 0)), true) :: (((.cmp .lss (.conv .i64 (.ivar .i32 1)) (.int .i64 0)), false) :: [])))))))), (.bool false))]
def al4R5 : List (PC × SE) := [
  ((((.cmp .eql (.conv .i32 (.bin .sub .i64 (.int .i64 0) (.conv .i64 (.bin .quo .u64 (.bin .mul .u64 (.int .u64 1) (.bin .sub .u64 (.int .u64 0) (.conv .u64 (.bin .add .i64 (.conv .i64 (.ivar .i32 0)) (.int .i64 0))))) (.int .u64 1))))) (.ivar .i32 0)), false) :: (((.cmp .lss (.int .u64 2147483648) (.bin .add .u64 (.int .u64 1) (.bin .quo .u64 (.bin .mul .u64 (.int .u64 1) (.bin .sub .u64 (.int .u64 0) (.conv .u64 (.bin .mul .i64 (.conv .i64 (.ivar .i32 0)) (.conv .i64 (.ivar .i32 1)))))) (.int .u64 256)))), true) :: (((.cmp .lss (.bin .rem .u64 (.bin .mul .u64 (.int .u64 1) (.bin .sub .u64 (.int .u64 0) (.conv .u64 (.bin .mul .i64 (.conv .i64 (.ivar .i32 0)) (.conv .i64 (.ivar .i32 1)))))) (.int .u64 256)) (.bin .sub .u64 (.int .u64 256) (.bin .rem .u64 (.bin .mul .u64 (.int .u64 1) (.bin .sub .u64 (.int .u64 0) (.conv .u64 (.bin .mul .i64 (.conv .i64 (.ivar .i32 0)) (.conv .i64 (.ivar .i32 1)))))) (.int .u64 256)))), false) :: (((.cmp .lss (.bin .mul .i64 (.conv .i64 (.ivar .i32 0)) (.conv .i64 (.ivar .i32 1))) (.int .i64 0)), true) :: (((.cmp .lss (.bin .add .i64 (.conv .i64 (.ivar .i32 0)) (.conv .i64 (.ivar .i32 1))) (.int .i64 0)), true) :: (((.cmp .lss (.conv .i64 (.ivar .i32 0)) (.int .i64 0)), true) :: (((.cmp .lss (.conv .i64 (.ivar .i32 1)) (.int .i64 0)), false) :: []))))))), (.bool false))]
def al4R6 : List (PC × SE) := [
  ((((.cmp .eql (.conv .i32 (.bin .sub .i64 (.int .i64 0) (.conv .i64 (.bin .quo .u64 (.bin .mul .u64 (.int .u64 256) (.bin .sub .u64 (.int .u64 0) (.conv .u64 (.conv .i64 (.ivar .i32 0))))) (.int .u64 256))))) (.ivar .i32 0)), false) :: (((.cmp .eql (.conv .i32 (.bin .sub .i64 (.int .i64 0) (.conv .i64 (.bin .quo .u64 (.bin .mul .u64 (.int .u64 1) (.bin .sub .u64 (.int .u64 0) (.conv .u64 (.bin .mul .i64 (.conv .i64 (.ivar .i32 0)) (.int .i64 256))))) (.int .u64 256))))) (.ivar .i32 0)), true) :: (((.cmp .eql (.conv .i32 (.bin .sub .i64 (.int .i64 0) (.conv .i64 (.bin .quo .u64 (.bin .mul .u64 (.int .u64 1) (.bin .sub .u64 (.int .u64 0) (.conv .u64 (.bin .add .i64 (.conv .i64 (.ivar .i32 0)) (.int .i64 0))))) (.int .u64 1))))) (.ivar .i32 0)), true) :: (((.cmp .lss (.int .u64 2147483648) (.bin .quo .u64 (.bin .mul .u64 (.int .u64 1) (.bin .sub .u64 (.int .u64 0) (.conv .u64 (.bin .mul .i64 (.conv .i64 (.ivar .i32 0)) (.conv .i64 (.ivar .i32 1)))))) (.int .u64 256))), false) :: (((.cmp .lss (.bin .rem .u64 (.bin .mul .u64 (.int .u64 1) (.bin .sub .u64 (.int .u64 0) (.conv .u64 (.bin .mul .i64 (.conv .i64 (.ivar .i32 0)) (.conv .i64 (.ivar .i32 1)))))) (.int .u64 256)) (.bin .sub .u64 (.int .u64 256) (.bin .rem .u64 (.bin .mul .u64 (.int .u64 1) (.bin .sub .u64 (.int .u64 0) (.conv .u64 (.bin .mul .i64 (.conv .i64 (.ivar .i32 0)) (.conv .i64 (.ivar .i32 1)))))) (.int .u64 256)))), true) :: (((.cmp .lss (.bin .mul .i64 (.conv .i64 (.ivar .i32 0)) (.conv .i64 (.ivar .i32 1))) (.int .i64 0)), true) :: (((.cmp .lss (.bin .add .i64 (.conv .i64 (.ivar .i32 0)) (.conv .i64 (.ivar .i32 1))) (.int .i64 0)), true) :: (((.cmp .lss (.conv .i64 (.ivar .i32 0)) (.int .i64 0)), true) :: (((.cmp .lss (.conv .i64 (.ivar .i32 1)) (.int .i64 0)), false) :: []))))))))), (.bool false))]
def al4R7 : List (PC × SE) := [
  ((((.cmp .eql (.conv .i32 (.bin .sub .i64 (.int .i64 0) (.conv .i64 (.bin .quo .u64 (.bin .mul .u64 (.int .u64 1) (.bin .sub .u64 (.int .u64 0) (.conv .u64 (.bin .mul .i64 (.conv .i64 (.ivar .i32 0)) (.int .i64 256))))) (.int .u64 256))))) (.ivar .i32 0)), false) :: (((.cmp .eql (.conv .i32 (.bin .sub .i64 (.int .i64 0) (.conv .i64 (.bin .quo .u64 (.bin .mul .u64 (.int .u64 1) (.bin .sub .u64 (.int .u64 0) (.conv .u64 (.bin .add .i64 (.conv .i64 (.ivar .i32 0)) (.int .i64 0))))) (.int .u64 1))))) (.ivar .i32 0)), true) :: (((.cmp .lss (.int .u64 2147483648) (.bin .quo .u64 (.bin .mul .u64 (.int .u64 1) (.bin .sub .u64 (.int .u64 0) (.conv .u64 (.bin .mul .i64 (.conv .i64 (.ivar .i32 0)) (.conv .i64 (.ivar .i32 1)))))) (.int .u64 256))), false) :: (((.cmp .lss (.bin .rem .u64 (.bin .mul .u64 (.int .u64 1) (.bin .sub .u64 (.int .u64 0) (.conv .u64 (.bin .mul .i64 (.conv .i64 (.ivar .i32 0)) (.conv .i64 (.ivar .i32 1)))))) (.int .u64 256)) (.bin .sub .u64 (.int .u64 256) (.bin .rem .u64 (.bin .mul .u64 (.int .u64 1) (.bin .sub .u64 (.int .u64 0) (.conv .u64 (.bin .mul .i64 (.conv .i64 (.ivar .i32 0)) (.conv .i64 (.ivar .i32 1)))))) (.int .u64 256)))), true) :: (((.cmp .lss (.bin .mul .i64 (.conv .i64 (.ivar .i32 0)) (.conv .i64 (.ivar .i32 1))) (.int .i64 0)), true) :: (((.cmp .lss (.bin .add .i64 (.conv .i64 (.ivar .i32 0)) (.conv .i64 (.ivar .i32 1))) (.int .i64 0)), true) :: (((.cmp .lss (.conv .i64 (.ivar .i32 0)) (.int .i64 0)), true) :: (((.cmp .lss (.conv .i64 (.ivar .i32 1)) (.int .i64 0)), false) :: [])))))))), (.bool false))]
def al4R8 : List (PC × SE) := [
  ((((.cmp .eql (.conv .i32 (.bin .sub .i64 (.int .i64 0) (.conv .i64 (.bin .quo .u64 (.bin .mul .u64 (.int .u64 1) (.bin .sub .u64 (.int .u64 0) (.conv .u64 (.bin .add .i64 (.conv .i64 (.ivar .i32 0)) (.int .i64 0))))) (.int .u64 1))))) (.ivar .i32 0)), false) :: (((.cmp .lss (.int .u64 2147483648) (.bin .quo .u64 (.bin .mul .u64 (.int .u64 1) (.bin .sub .u64 (.int .u64 0) (.conv .u64 (.bin .mul .i64 (.conv .i64 (.ivar .i32 0)) (.conv .i64 (.ivar .i32 1)))))) (.int .u64 256))), false) :: (((.cmp .lss (.bin .rem .u64 (.bin .mul .u64 (.int .u64 1) (.bin .sub .u64 (.int .u64 0) (.conv .u64 (.bin .mul .i64 (.conv .i64 (.ivar .i32 0)) (.conv .i64 (.ivar .i32 1)))))) (.int .u64 256)) (.bin .sub .u64 (.int .u64 256) (.bin .rem .u64 (.bin .mul .u64 (.int .u64 1) (.bin .sub .u64 (.int .u64 0) (.conv .u64 (.bin .mul .i64 (.conv .i64 (.ivar .i32 0)) (.conv .i64 (.ivar .i32 1)))))) (.int .u64 256)))), true) :: (((.cmp .lss (.bin .mul .i64 (.conv .i64 (.ivar .i32 0)) (.conv .i64 (.ivar .i32 1))) (.int .i64 0)), true) :: (((.cmp .lss (.bin .add .i64 (.conv .i64 (.ivar .i32 0)) (.conv .i64 (.ivar .i32 1))) (.int .i64 0)), true) :: (((.cmp .lss (.conv .i64 (.ivar .i32 0)) (.int .i64 0)), true) :: (((.cmp .lss (.conv .i64 (.ivar .i32 1)) (.int .i64 0)), false) :: []))))))), (.bool false))]
def al4R9 : List (PC × SE) := [
  ((((.cmp .eql (.conv .i32 (.bin .sub .i64 (.int .i64 0) (.conv .i64 (.bin .quo .u64 (.bin .mul .u64 (.int .u64 256) (.bin .sub .u64 (.int .u64 0) (.conv .u64 (.conv .i64 (.ivar .i32 0))))) (.int .u64 256))))) (.ivar .i32 0)), false) :: (((.cmp .eql (.conv .i32 (.bin .sub .i64 (.int .i64 0) (.conv .i64 (.bin .quo .u64 (.bin .mul .u64 (.int .u64 1) (.bin .sub .u64 (.int .u64 0) (.conv .u64 (.bin .mul .i64 (.conv .i64 (.ivar .i32 0)) (.int .i64 256))))) (.int .u64 256))))) (.ivar .i32 0)), true) :: (((.cmp .eql (.conv .i32 (.bin .sub .i64 (.int .i64 0) (.conv .i64 (.bin .quo .u64 (.bin .mul .u64 (.int .u64 1) (.bin .sub .u64 (.int .u64 0) (.conv .u64 (.bin .add .i64 (.conv .i64 (.ivar .i32 0)) (.int .i64 0))))) (.int .u64 1))))) (.ivar .i32 0)), true) :: (((.cmp .lss (.int .u64 2147483648) (.bin .quo .u64 (.bin .mul .u64 (.int .u64 1) (.bin .sub .u64 (.int .u64 0) (.conv .u64 (.bin .mul .i64 (.conv .i64 (.ivar .i32 0)) (.conv .i64 (.ivar .i32 1)))))) (.int .u64 256))), true) :: (((.cmp .lss (.bin .rem .u64 (.bin .mul .u64 (.int .u64 1) (.bin .sub .u64 (.int .u64 0) (.conv .u64 (.bin .mul .i64 (.conv .i64 (.ivar .i32 0)) (.conv .i64 (.ivar .i32 1)))))) (.int .u64 256)) (.bin .sub .u64 (.int .u64 256) (.bin .rem .u64 (.bin .mul .u64 (.int .u64 1) (.bin .sub .u64 (.int .u64 0) (.conv .u64 (.bin .mul .i64 (.conv .i64 (.ivar .i32 0)) (.conv .i64 (.ivar .i32 1)))))) (.int .u64 256)))), true) :: (((.cmp .lss (.bin .mul .i64 (.conv .i64 (.ivar .i32 0)) (.conv .i64 (.ivar .i32 1))) (.int .i64 0)), true) :: (((.cmp .lss (.bin .add .i64 (.conv .i64 (.ivar .i32 0)) (.conv .i64 (.ivar .i32 1))) (.int .i64 0)), true) :: (((.cmp .lss (.conv .i64 (.ivar .i32 0)) (.int .i64 0)), true) :: (((.cmp .lss (.conv .i64 (.ivar .i32 1)) (.int .i64 0)), false) :: []))))))))), (.bool false))]
def al4R10 : List (PC × SE) := [
  ((((.cmp .eql (.conv .i32 (.bin .sub .i64 (.int .i64 0) (.conv .i64 (.bin .quo .u64 (.bin .mul .u64 (.int .u64 1) (.bin .sub .u64 (.int .u64 0) (.conv .u64 (.bin .mul .i64 (.conv .i64 (.ivar .i32 0)) (.int .i64 256))))) (.int .u64 256))))) (.ivar .i32 0)), false) :: (((.cmp .eql (.conv .i32 (.bin .sub .i64 (.int .i64 0) (.conv .i64 (.bin .quo .u64 (.bin .mul .u64 (.int .u64 1) (.bin .sub .u64 (.int .u64 0) (.conv .u64 (.bin .add .i64 (.conv .i64 (.ivar .i32 0)) (.int .i64 0))))) (.int .u64 1))))) (.ivar .i32 0)), true) :: (((.cmp .lss (.int .u64 2147483648) (.bin .quo .u64 (.bin .mul .u64 (.int .u64 1) (.bin .sub .u64 (.int .u64 0) (.conv .u64 (.bin .mul .i64 (.conv .i64 (.ivar .i32 0)) (.conv .i64 (.ivar .i32 1)))))) (.int .u64 256))), true) :: (((.cmp .lss (.bin .rem .u64 (.bin .mul .u64 (.int .u64 1) (.bin .sub .u64 (.int .u64 0) (.conv .u64 (.bin .mul .i64 (.conv .i64 (.ivar .i32 0)) (.conv .i64 (.ivar .i32 1)))))) (.int .u64 256)) (.bin .sub .u64 (.int .u64 256) (.bin .rem .u64 (.bin .mul .u64 (.int .u64 1) (.bin .sub .u64 (.int .u64 0) (.conv .u64 (.bin .mul .i64 (.conv .i64 (.ivar .i32 0)) (.conv .i64 (.ivar .i32 1)))))) (.int .u64 256)))), true) :: (((.cmp .lss (.bin .mul .i64 (.conv .i64 (.ivar .i32 0)) (.conv .i64 (.ivar .i32 1))) (.int .i64 0)), true) :: (((.cmp .lss (.bin .add .i64 (.conv .i64 (.ivar .i32 0)) (.conv .i64 (.ivar .i32 1))) (.int .i64 0)), true) :: (((.cmp .lss (.conv .i64 (.ivar .i32 0)) (.int .i64 0)), true) :: (((.cmp .lss (.conv .i64 (.ivar .i32 1)) (.int .i64 0)), false) :: [])))))))), (.bool false))]
def al4R11 : List (PC × SE) := [
  ((((.cmp .eql (.conv .i32 (.bin .sub .i64 (.int .i64 0) (.conv .i64 (.bin .quo .u64 (.bin .mul .u64 (.int .u64 1) (.bin .sub .u64 (.int .u64 0) (.conv .u64 (.bin .add .i64 (.conv .i64 (.ivar .i32 0)) (.int .i64 0))))) (.int .u64 1))))) (.ivar .i32 0)), false) :: (((.cmp .lss (.int .u64 2147483648) (.bin .quo .u64 (.bin .mul .u64 (.int .u64 1) (.bin .sub .u64 (.int .u64 0) (.conv .u64 (.bin .mul .i64 (.conv .i64 (.ivar .i32 0)) (.conv .i64 (.ivar .i32 1)))))) (.int .u64 256))), true) :: (((.cmp .lss (.bin .rem .u64 (.bin .mul .u64 (.int .u64 1) (.bin .sub .u64 (.int .u64 0) (.conv .u64 (.bin .mul .i64 (.conv .i64 (.ivar .i32 0)) (.conv .i64 (.ivar .i32 1)))))) (.int .u64 256)) (.bin .sub .u64 (.int .u64 256) (.bin .rem .u64 (.bin .mul .u64 (.int .u64 1) (.bin .sub .u64 (.int .u64 0) (.conv .u64 (.bin .mul .i64 (.conv .i64 (.ivar .i32 0)) (.conv .i64 (.ivar .i32 1)))))) (.int .u64 256)))), true) :: (((.cmp .lss (.bin .mul .i64 (.conv .i64 (.ivar .i32 0)) (.conv .i64 (.ivar .i32 1))) (.int .i64 0)), true) :: (((.cmp .lss (.bin .add .i64 (.conv .i64 (.ivar .i32 0)) (.conv .i64 (.ivar .i32 1))) (.int .i64 0)), true) :: (((.cmp .lss (.conv .i64 (.ivar .i32 0)) (.int .i64 0)), true) :: (((.cmp .lss (.conv .i64 (.ivar .i32 1)) (.int .i64 0)), false) :: []))))))), (.bool false))]
def al4R12 : List (PC × SE) := [
  ((((.cmp .eql (.conv .i32 (.bin .sub .i64 (.int .i64 0) (.conv .i64 (.bin .quo .u64 (.bin .mul .u64 (.int .u64 256) (.bin .sub .u64 (.int .u64 0) (.conv .u64 (.conv .i64 (.ivar .i32 0))))) (.int .u64 256))))) (.ivar .i32 0)), false) :: (((.cmp .eql (.conv .i32 (.bin .sub .i64 (.int .i64 0) (.conv .i64 (.bin .quo .u64 (.bin .mul .u64 (.int .u64 1) (.bin .sub .u64 (.int .u64 0) (.conv .u64 (.bin .mul .i64 (.conv .i64 (.ivar .i32 0)) (.int .i64 256))))) (.int .u64 256))))) (.ivar .i32 0)), true) :: (((.cmp .eql (.conv .i32 (.bin .sub .i64 (.int .i64 0) (.conv .i64 (.bin .quo .u64 (.bin .mul .u64 (.int .u64 1) (.bin .sub .u64 (.int .u64 0) (.conv .u64 (.bin .add .i64 (.conv .i64 (.ivar .i32 0)) (.int .i64 0))))) (.int .u64 1))))) (.ivar .i32 0)), true) :: (((.cmp .lss (.bin .mul .i64 (.conv .i64 (.ivar .i32 0)) (.conv .i64 (.ivar .i32 1))) (.int .i64 0)), false) :: (((.cmp .lss (.bin .add .i64 (.conv .i64 (.ivar .i32 0)) (.conv .i64 (.ivar .i32 1))) (.int .i64 0)), true) :: (((.cmp .lss (.conv .i64 (.ivar .i32 0)) (.int .i64 0)), true) :: (((.cmp .lss (.conv .i64 (.ivar .i32 1)) (.int .i64 0)), false) :: []))))))), (.bool false))]
def al4R13 : List (PC × SE) := [
  ((((.cmp .eql (.conv .i32 (.bin .sub .i64 (.int .i64 0) (.conv .i64 (.bin .quo .u64 (.bin .mul .u64 (.int .u64 1) (.bin .sub .u64 (.int .u64 0) (.conv .u64 (.bin .mul .i64 (.conv .i64 (.ivar .i32 0)) (.int .i64 256))))) (.int .u64 256))))) (.ivar .i32 0)), false) :: (((.cmp .eql (.conv .i32 (.bin .sub .i64 (.int .i64 0) (.conv .i64 (.bin .quo .u64 (.bin .mul .u64 (.int .u64 1) (.bin .sub .u64 (.int .u64 0) (.conv .u64 (.bin .add .i64 (.conv .i64 (.ivar .i32 0)) (.int .i64 0))))) (.int .u64 1))))) (.ivar .i32 0)), true) :: (((.cmp .lss (.bin .mul .i64 (.conv .i64 (.ivar .i32 0)) (.conv .i64 (.ivar .i32 1))) (.int .i64 0)), false) :: (((.cmp .lss (.bin .add .i64 (.conv .i64 (.ivar .i32 0)) (.conv .i64 (.ivar .i32 1))) (.int .i64 0)), true) :: (((.cmp .lss (.conv .i64 (.ivar .i32 0)) (.int .i64 0)), true) :: (((.cmp .lss (.conv .i64 (.ivar .i32 1)) (.int .i64 0)), false) :: [])))))), (.bool false))]
def al4R14 : List (PC × SE) := [
  ((((.cmp .eql (.conv .i32 (.bin .sub .i64 (.int .i64 0) (.conv .i64 (.bin .quo .u64 (.bin .mul .u64 (.int .u64 1) (.bin .sub .u64 (.int .u64 0) (.conv .u64 (.bin .add .i64 (.conv .i64 (.ivar .i32 0)) (.int .i64 0))))) (.int .u64 1))))) (.ivar .i32 0)), false) :: (((.cmp .lss (.bin .mul .i64 (.conv .i64 (.ivar .i32 0)) (.conv .i64 (.ivar .i32 1))) (.int .i64 0)), false) :: (((.cmp .lss (.bin .add .i64 (.conv .i64 (.ivar .i32 0)) (.conv .i64 (.ivar .i32 1))) (.int .i64 0)), true) :: (((.cmp .lss (.conv .i64 (.ivar .i32 0)) (.int .i64 0)), true) :: (((.cmp .lss (.conv .i64 (.ivar .i32 1)) (.int .i64 0)), false) :: []))))), (.bool false))]
def al4R15 : List (PC × SE) := [
  ((((.cmp .eql (.conv .i32 (.bin .sub .i64 (.int .i64 0) (.conv .i64 (.bin .quo .u64 (.bin .mul .u64 (.int .u64 256) (.bin .sub .u64 (.int .u64 0) (.conv .u64 (.conv .i64 (.ivar .i32 0))))) (.int .u64 256))))) (.ivar .i32 0)), false) :: (((.cmp .eql (.conv .i32 (.bin .sub .i64 (.int .i64 0) (.conv .i64 (.bin .quo .u64 (.bin .mul .u64 (.int .u64 1) (.bin .sub .u64 (.int .u64 0) (.conv .u64 (.bin .mul .i64 (.conv .i64 (.ivar .i32 0)) (.int .i64 256))))) (.int .u64 256))))) (.ivar .i32 0)), true) :: (((.cmp .eql (.conv .i32 (.bin .sub .i64 (.int .i64 0) (.conv .i64 (.bin .quo .u64 (.bin .mul .u64 (.int .u64 1) (.bin .sub .u64 (.int .u64 0) (.conv .u64 (.bin .add .i64 (.conv .i64 (.ivar .i32 0)) (.int .i64 0))))) (.int .u64 1))))) (.ivar .i32 0)), true) :: (((.cmp .lss (.int .u64 2147483648) (.bin .add .u64 (.int .u64 1) (.bin .quo .u64 (.bin .mul .u64 (.int .u64 1) (.bin .sub .u64 (.int .u64 0) (.conv .u64 (.bin .mul .i64 (.conv .i64 (.ivar .i32 0)) (.conv .i64 (.ivar .i32 1)))))) (.int .u64 256)))), false) :: (((.cmp .lss (.bin .rem .u64 (.bin .mul .u64 (.int .u64 1) (.bin .sub .u64 (.int .u64 0) (.conv .u64 (.bin .mul .i64 (.conv .i64 (.ivar .i32 0)) (.conv .i64 (.ivar .i32 1)))))) (.int .u64 256)) (.bin .sub .u64 (.int .u64 256) (.bin .rem .u64 (.bin .mul .u64 (.int .u64 1) (.bin .sub .u64 (.int .u64 0) (.conv .u64 (.bin .mul .i64 (.conv .i64 (.ivar .i32 0)) (.conv .i64 (.ivar .i32 1)))))) (.int .u64 256)))), false) :: (((.cmp .lss (.bin .mul .i64 (.conv .i64 (.ivar .i32 0)) (.conv .i64 (.ivar .i32 1))) (.int .i64 0)), true) :: (((.cmp .lss (.bin .add .i64 (.conv .i64 (.ivar .i32 0)) (.conv .i64 (.ivar .i32 1))) (.int .i64 0)), false) :: (((.cmp .lss (.conv .i64 (.ivar .i32 0)) (.int .i64 0)), true) :: (((.cmp .lss (.conv .i64 (.ivar .i32 1)) (.int .i64 0)), false) :: []))))))))), (.bool false))]
def al4R16 : List (PC × SE) := [
  ((((.cmp .eql (.conv .i32 (.bin .sub .i64 (.int .i64 0) (.conv .i64 (.bin .quo .u64 (.bin .mul .u64 (.int .u64 1) (.bin .sub .u64 (.int .u64 0) (.conv .u64 (.bin .mul .i64 (.conv .i64 (.ivar .i32 0)) (.int .i64 256))))) (.int .u64 256))))) (.ivar .i32 0)), false) :: (((.cmp .eql (.conv .i32 (.bin .sub .i64 (.int .i64 0) (.conv .i64 (.bin .quo .u64 (.bin .mul .u64 (.int .u64 1) (.bin .sub .u64 (.int .u64 0) (.conv .u64 (.bin .add .i64 (.conv .i64 (.ivar .i32 0)) (.int .i64 0))))) (.int .u64 1))))) (.ivar .i32 0)), true) :: (((.cmp .lss (.int .u64 2147483648) (.bin .add .u64 (.int .u64 1) (.bin .quo .u64 (.bin .mul .u64 (.int .u64 1) (.bin .sub .u64 (.int .u64 0) (.conv .u64 (.bin .mul .i64 (.conv .i64 (.ivar .i32 0)) (.conv .i64 (.ivar .i32 1)))))) (.int .u64 256)))), false) :: (((.cmp .lss (.bin .rem .u64 (.bin .mul .u64 (.int .u64 1) (.bin .sub .u64 (.int .u64 0) (.conv .u64 (.bin .mul .i64 (.conv .i64 (.ivar .i32 0)) (.conv .i64 (.ivar .i32 1)))))) (.int .u64 256)) (.bin .sub .u64 (.int .u64 256) (.bin .rem .u64 (.bin .mul .u64 (.int .u64 1) (.bin .sub .u64 (.int .u64 0) (.conv .u64 (.bin .mul .i64 (.conv .i64 (.ivar .i32 0)) (.conv .i64 (.ivar .i32 1)))))) (.int .u64 256)))), false) :: (((.cmp .lss (.bin .mul .i64 (.conv .i64 (.ivar .i32 0)) (.conv .i64 (.ivar .i32 1))) (.int .i64 0)), true) :: (((.cmp .lss (.bin .add .i64 (.conv .i64 (.ivar .i32 0)) (.conv .i64 (.ivar .i32 1))) (.int .i64 0)), false) :: (((.cmp .lss (.conv .i64 (.ivar .i32 0)) (.int .i64 0)), true) :: (((.cmp .lss (.conv .i64 (.ivar .i32 1)) (.int .i64 0)), false) :: [])))))))), (.bool false))]
def al4R17 : List (PC × SE) := [
  ((((.cmp .eql (.conv .i32 (.bin .sub .i64 (.int .i64 0) (.conv .i64 (.bin .quo .u64 (.bin .mul .u64 (.int .u64 1) (.bin .sub .u64 (.int .u64 0) (.conv .u64 (.bin .add .i64 (.conv .i64 (.ivar .i32 0)) (.int .i64 0))))) (.int .u64 1))))) (.ivar .i32 0)), false) :: (((.cmp .lss (.int .u64 2147483648) (.bin .add .u64 (.int .u64 1) (.bin .quo .u64 (.bin .mul .u64 (.int .u64 1) (.bin .sub .u64 (.int .u64 0) (.conv .u64 (.bin .mul .i64 (.conv .i64 (.ivar .i32 0)) (.conv .i64 (.ivar .i32 1)))))) (.int .u64 256)))), false) :: (((.cmp .lss (.bin .rem .u64 (.bin .mul .u64 (.int .u64 1) (.bin .sub .u64 (.int .u64 0) (.conv .u64 (.bin .mul .i64 (.conv .i64 (.ivar .i32 0)) (.conv .i64 (.ivar .i32 1)))))) (.int .u64 256)) (.bin .sub .u64 (.int .u64 256) (.bin .rem .u64 (.bin .mul .u64 (.int .u64 1) (.bin .sub .u64 (.int .u64 0) (.conv .u64 (.bin .mul .i64 (.conv .i64 (.ivar .i32 0)) (.conv .i64 (.ivar .i32 1)))))) (.int .u64 256)))), false) :: (((.cmp .lss (.bin .mul .i64 (.conv .i64 (.ivar .i32 0)) (.conv .i64 (.ivar .i32 1))) (.int .i64 0)), true) :: (((.cmp .lss (.bin .add .i64 (.conv .i64 (.ivar .i32 0)) (.conv .i64 (.ivar .i32 1))) (.int .i64 0)), false) :: (((.cmp .lss (.conv .i64 (.ivar .i32 0)) (.int .i64 0)), true) :: (((.cmp .lss (.conv .i64 (.ivar .i32 1)) (.int .i64 0)), false) :: []))))))), (.bool false))]
def al4R18 : List (PC × SE) := [
  ((((.cmp .eql (.conv .i32 (.bin .sub .i64 (.int .i64 0) (.conv .i64 (.bin .quo .u64 (.bin .mul .u64 (.int .u64 256) (.bin .sub .u64 (.int .u64 0) (.conv .u64 (.conv .i64 (.ivar .i32 0))))) (.int .u64 256))))) (.ivar .i32 0)), false) :: (((.cmp .eql (.conv .i32 (.bin .sub .i64 (.int .i64 0) (.conv .i64 (.bin .quo .u64 (.bin .mul .u64 (.int .u64 1) (.bin .sub .u64 (.int .u64 0) (.conv .u64 (.bin .mul .i64 (.conv .i64 (.ivar .i32 0)) (.int .i64 256))))) (.int .u64 256))))) (.ivar .i32 0)), true) :: (((.cmp .eql (.conv .i32 (.bin .sub .i64 (.int .i64 0) (.conv .i64 (.bin .quo .u64 (.bin .mul .u64 (.int .u64 1) (.bin .sub .u64 (.int .u64 0) (.conv .u64 (.bin .add .i64 (.conv .i64 (.ivar .i32 0)) (.int .i64 0))))) (.int .u64 1))))) (.ivar .i32 0)), true) :: (((.cmp .lss (.int .u64 2147483648) (.bin .add .u64 (.int .u64 1) (.bin .quo .u64 (.bin .mul .u64 (.int .u64 1) (.bin .sub .u64 (.int .u64 0) (.conv .u64 (.bin .mul .i64 (.conv .i64 (.ivar .i32 0)) (.conv .i64 (.ivar .i32 1)))))) (.int .u64 256)))), true) :: (((.cmp .lss (.bin .rem .u64 (.bin .mul .u64 (.int .u64 1) (.bin .sub .u64 (.int .u64 0) (.conv .u64 (.bin .mul .i64 (.conv .i64 (.ivar .i32 0)) (.conv .i64 (.ivar .i32 1)))))) (.int .u64 256)) (.bin .sub .u64 (.int .u64 256) (.bin .rem .u64 (.bin .mul .u64 (.int .u64 1) (.bin .sub .u64 (.int .u64 0) (.conv .u64 (.bin .mul .i64 (.conv .i64 (.ivar .i32 0)) (.conv .i64 (.ivar .i32 1)))))) (.int .u64 256)))), false) :: (((.cmp .lss (.bin .mul .i64 (.conv .i64 (.ivar .i32 0)) (.conv .i64 (.ivar .i32 1))) (.int .i64 0)), true) :: (((.cmp .lss (.bin .add .i64 (.conv .i64 (.ivar .i32 0)) (.conv .i64 (.ivar .i32 1))) (.int .i64 0)), false) :: (((.cmp .lss (.conv .i64 (.ivar .i32 0)) (.int .i64 0)), true) :: (((.cmp .lss (.conv .i64 (.ivar .i32 1)) (.int .i64 0)), false) :: []))))))))), (.bool false))]
def al4R19 : List (PC × SE) := [
  ((((.cmp .eql (.conv .i32 (.bin .sub .i64 (.int .i64 0) (.conv .i64 (.bin .quo .u64 (.bin .mul .u64 (.int .u64 1) (.bin .sub .u64 (.int .u64 0) (.conv .u64 (.bin .mul .i64 (.conv .i64 (.ivar .i32 0)) (.int .i64 256))))) (.int .u64 256))))) (.ivar .i32 0)), false) :: (((.cmp .eql (.conv .i32 (.bin .sub .i64 (.int .i64 0) (.conv .i64 (.bin .quo .u64 (.bin .mul .u64 (.int .u64 1) (.bin .sub .u64 (.int .u64 0) (.conv .u64 (.bin .add .i64 (.conv .i64 (.ivar .i32 0)) (.int .i64 0))))) (.int .u64 1))))) (.ivar .i32 0)), true) :: (((.cmp .lss (.int .u64 2147483648) (.bin .add .u64 (.int .u64 1) (.bin .quo .u64 (.bin .mul .u64 (.int .u64 1) (.bin .sub .u64 (.int .u64 0) (.conv .u64 (.bin .mul .i64 (.conv .i64 (.ivar .i32 0)) (.conv .i64 (.ivar .i32 1)))))) (.int .u64 256)))), true) :: (((.cmp .lss (.bin .rem .u64 (.bin .mul .u64 (.int .u64 1) (.bin .sub .u64 (.int .u64 0) (.conv .u64 (.bin .mul .i64 (.conv .i64 (.ivar .i32 0)) (.conv .i64 (.ivar .i32 1)))))) (.int .u64 256)) (.bin .sub .u64 (.int .u64 256) (.bin .rem .u64 (.bin .mul .u64 (.int .u64 1) (.bin .sub .u64 (.int .u64 0) (.conv .u64 (.bin .mul .i64 (.conv .i64 (.ivar .i32 0)) (.conv .i64 (.ivar .i32 1)))))) (.int .u64 256)))), false) :: (((.cmp .lss (.bin .mul .i64 (.conv .i64 (.ivar .i32 0)) (.conv .i64 (.ivar .i32 1))) (.int .i64 0)), true) :: (((.cmp .lss (.bin .add .i64 (.conv .i64 (.ivar .i32 0)) (.conv .i64 (.ivar .i32 1))) (.int .i64 0)), false) :: (((.cmp .lss (.conv .i64 (.ivar .i32 0)) (.int .i64 0)), true) :: (((.cmp .lss (.conv .i64 (.ivar .i32 1)) (.int .i64 0)), false) :: [])))))))), (.bool false))]
def al4R20 : List (PC × SE) := [
  ((((.cmp .eql (.conv .i32 (.bin .sub .i64 (.int .i64 0) (.conv .i64 (.bin .quo .u64 (.bin .mul .u64 (.int .u64 1) (.bin .sub .u64 (.int .u64 0) (.conv .u64 (.bin .add .i64 (.conv .i64 (.ivar .i32 0)) (.int .i64 0))))) (.int .u64 1))))) (.ivar .i32 0)), false) :: (((.cmp .lss (.int .u64 2147483648) (.bin .add .u64 (.int .u64 1) (.bin .quo .u64 (.bin .mul .u64 (.int .u64 1) (.bin .sub .u64 (.int .u64 0) (.conv .u64 (.bin .mul .i64 (.conv .i64 (.ivar .i32 0)) (.conv .i64 (.ivar .i32 1)))))) (.int .u64 256)))), true) :: (((.cmp .lss (.bin .rem .u64 (.bin .mul .u64 (.int .u64 1) (.bin .sub .u64 (.int .u64 0) (.conv .u64 (.bin .mul .i64 (.conv .i64 (.ivar .i32 0)) (.conv .i64 (.ivar .i32 1)))))) (.int .u64 256)) (.bin .sub .u64 (.int .u64 256) (.bin .rem .u64 (.bin .mul .u64 (.int .u64 1) (.bin .sub .u64 (.int .u64 0) (.conv .u64 (.bin .mul .i64 (.conv .i64 (.ivar .i32 0)) (.conv .i64 (.ivar .i32 1)))))) (.int .u64 256)))), false) :: (((.cmp .lss (.bin .mul .i64 (.conv .i64 (.ivar .i32 0)) (.conv .i64 (.ivar .i32 1))) (.int .i64 0)), true) :: (((.cmp .lss (.bin .add .i64 (.conv .i64 (.ivar .i32 0)) (.conv .i64 (.ivar .i32 1))) (.int .i64 0)), false) :: (((.cmp .lss (.conv .i64 (.ivar .i32 0)) (.int .i64 0)), true) :: (((.cmp .lss (.conv .i64 (.ivar .i32 1)) (.int .i64 0)), false) :: []))))))), (.bool false))]
def al4R21 : List (PC × SE) := [
  ((((.cmp .eql (.conv .i32 (.bin .sub .i64 (.int .i64 0) (.conv .i64 (.bin .quo .u64 (.bin .mul .u64 (.int .u64 256) (.bin .sub .u64 (.int .u64 0) (.conv .u64 (.conv .i64 (.ivar .i32 0))))) (.int .u64 256))))) (.ivar .i32 0)), false) :: (((.cmp .eql (.conv .i32 (.bin .sub .i64 (.int .i64 0) (.conv .i64 (.bin .quo .u64 (.bin .mul .u64 (.int .u64 1) (.bin .sub .u64 (.int .u64 0) (.conv .u64 (.bin .mul .i64 (.conv .i64 (.ivar .i32 0)) (.int .i64 256))))) (.int .u64 256))))) (.ivar .i32 0)), true) :: (((.cmp .eql (.conv .i32 (.bin .sub .i64 (.int .i64 0) (.conv .i64 (.bin .quo .u64 (.bin .mul .u64 (.int .u64 1) (.bin .sub .u64 (.int .u64 0) (.conv .u64 (.bin .add .i64 (.conv .i64 (.ivar .i32 0)) (.int .i64 0))))) (.int .u64 1))))) (.ivar .i32 0)), true) :: (((.cmp .lss (.int .u64 2147483648) (.bin .quo .u64 (.bin .mul .u64 (.int .u64 1) (.bin .sub .u64 (.int .u64 0) (.conv .u64 (.bin .mul .i64 (.conv .i64 (.ivar .i32 0)) (.conv .i64 (.ivar .i32 1)))))) (.int .u64 256))), false) :: (((.cmp .lss (.bin .rem .u64 (.bin .mul .u64 (.int .u64 1) (.bin .sub .u64 (.int .u64 0) (.conv .u64 (.bin .mul .i64 (.conv .i64 (.ivar .i32 0)) (.conv .i64 (.ivar .i32 1)))))) (.int .u64 256)) (.bin .sub .u64 (.int .u64 256) (.bin .rem .u64 (.bin .mul .u64 (.int .u64 1) (.bin .sub .u64 (.int .u64 0) (.conv .u64 (.bin .mul .i64 (.conv .i64 (.ivar .i32 0)) (.conv .i64 (.ivar .i32 1)))))) (.int .u64 256)))), true) :: (((.cmp .lss (.bin .mul .i64 (.conv .i64 (.ivar .i32 0)) (.conv .i64 (.ivar .i32 1))) (.int .i64 0)), true) :: (((.cmp .lss (.bin .add .i64 (.conv .i64 (.ivar .i32 0)) (.conv .i64 (.ivar .i32 1))) (.int .i64 0)), false) :: (((.cmp .lss (.conv .i64 (.ivar .i32 0)) (.int .i64 0)), true) :: (((.cmp .lss (.conv .i64 (.ivar .i32 1)) (.int .i64 0)), false) :: []))))))))), (.bool false))]
def al4R22 : List (PC × SE) := [
  ((((.cmp .eql (.conv .i32 (.bin .sub .i64 (.int .i64 0) (.conv .i64 (.bin .quo .u64 (.bin .mul .u64 (.int .u64 1) (.bin .sub .u64 (.int .u64 0) (.conv .u64 (.bin .mul .i64 (.conv .i64 (.ivar .i32 0)) (.int .i64 256))))) (.int .u64 256))))) (.ivar .i32 0)), false) :: (((.cmp .eql (.conv .i32 (.bin .sub .i64 (.int .i64 0) (.conv .i64 (.bin .quo .u64 (.bin .mul .u64 (.int .u64 1) (.bin .sub .u64 (.int .u64 0) (.conv .u64 (.bin .add .i64 (.conv .i64 (.ivar .i32 0)) (.int .i64 0))))) (.int .u64 1))))) (.ivar .i32 0)), true) :: (((.cmp .lss (.int .u64 2147483648) (.bin .quo .u64 (.bin .mul .u64 (.int .u64 1) (.bin .sub .u64 (.int .u64 0) (.conv .u64 (.bin .mul .i64 (.conv .i64 (.ivar .i32 0)) (.conv .i64 (.ivar .i32 1)))))) (.int .u64 256))), false) :: (((.cmp .lss (.bin .rem .u64 (.bin .mul .u64 (.int .u64 1) (.bin .sub .u64 (.int .u64 0) (.conv .u64 (.bin .mul .i64 (.conv .i64 (.ivar .i32 0)) (.conv .i64 (.ivar .i32 1)))))) (.int .u64 256)) (.bin .sub .u64 (.int .u64 256) (.bin .rem .u64 (.bin .mul .u64 (.int .u64 1) (.bin .sub .u64 (.int .u64 0) (.conv .u64 (.bin .mul .i64 (.conv .i64 (.ivar .i32 0)) (.conv .i64 (.ivar .i32 1)))))) (.int .u64 256)))), true) :: (((.cmp .lss (.bin .mul .i64 (.conv .i64 (.ivar .i32 0)) (.conv .i64 (.ivar .i32 1))) (.int .i64 0)), true) :: (((.cmp .lss (.bin .add .i64 (.conv .i64 (.ivar .i32 0)) (.conv .i64 (.ivar .i32 1))) (.int .i64 0)), false) :: (((.cmp .lss (.conv .i64 (.ivar .i32 0)) (.int .i64 0)), true) :: (((.cmp .lss (.conv .i64 (.ivar .i32 1)) (.int .i64 0)), false) :: [])))))))), (.bool false))]
def al4R23 : List (PC × SE) := [
  ((((.cmp .eql (.conv .i32 (.bin .sub .i64 (.int .i64 0) (.conv .i64 (.bin .quo .u64 (.bin .mul .u64 (.int .u64 1) (.bin .sub .u64 (.int .u64 0) (.conv .u64 (.bin .add .i64 (.conv .i64 (.ivar .i32 0)) (.int .i64 0))))) (.int .u64 1))))) (.ivar .i32 0)), false) :: (((.cmp .lss (.int .u64 2147483648) (.bin .quo .u64 (.bin .mul .u64 (.int .u64 1) (.bin .sub .u64 (.int .u64 0) (.conv .u64 (.bin .mul .i64 (.conv .i64 (.ivar .i32 0)) (.conv .i64 (.ivar .i32 1)))))) (.int .u64 256))), false) :: (((.cmp .lss (.bin .rem .u64 (.bin .mul .u64 (.int .u64 1) (.bin .sub .u64 (.int .u64 0) (.conv .u64 (.bin .mul .i64 (.conv .i64 (.ivar .i32 0)) (.conv .i64 (.ivar .i32 1)))))) (.int .u64 256)) (.bin .sub .u64 (.int .u64 256) (.bin .rem .u64 (.bin .mul .u64 (.int .u64 1) (.bin .sub .u64 (.int .u64 0) (.conv .u64 (.bin .mul .i64 (.conv .i64 (.ivar .i32 0)) (.conv .i64 (.ivar .i32 1)))))) (.int .u64 256)))), true) :: (((.cmp .lss (.bin .mul .i64 (.conv .i64 (.ivar .i32 0)) (.conv .i64 (.ivar .i32 1))) (.int .i64 0)), true) :: (((.cmp .lss (.bin .add .i64 (.conv .i64 (.ivar .i32 0)) (.conv .i64 (.ivar .i32 1))) (.int .i64 0)), false) :: (((.cmp .lss (.conv .i64 (.ivar .i32 0)) (.int .i64 0)), true) :: (((.cmp .lss (.conv .i64 (.ivar .i32 1)) (.int .i64 0)), false) :: []))))))), (.bool false))]
def al4R24 : List (PC × SE) := [
  ((((.cmp .eql (.conv .i32 (.bin .sub .i64 (.int .i64 0) (.conv .i64 (.bin .quo .u64 (.bin .mul .u64 (.int .u64 256) (.bin .sub .u64 (.int .u64 0) (.conv .u64 (.conv .i64 (.ivar .i32 0))))) (.int .u64 256))))) (.ivar .i32 0)), false) :: (((.cmp .eql (.conv .i32 (.bin .sub .i64 (.int .i64 0) (.conv .i64 (.bin .quo .u64 (.bin .mul .u64 (.int .u64 1) (.bin .sub .u64 (.int .u64 0) (.conv .u64 (.bin .mul .i64 (.conv .i64 (.ivar .i32 0)) (.int .i64 256))))) (.int .u64 256))))) (.ivar .i32 0)), true) :: (((.cmp .eql (.conv .i32 (.bin .sub .i64 (.int .i64 0) (.conv .i64 (.bin .quo .u64 (.bin .mul .u64 (.int .u64 1) (.bin .sub .u64 (.int .u64 0) (.conv .u64 (.bin .add .i64 (.conv .i64 (.ivar .i32 0)) (.int .i64 0))))) (.int .u64 1))))) (.ivar .i32 0)), true) :: (((.cmp .lss (.int .u64 2147483648) (.bin .quo .u64 (.bin .mul .u64 (.int .u64 1) (.bin .sub .u64 (.int .u64 0) (.conv .u64 (.bin .mul .i64 (.conv .i64 (.ivar .i32 0)) (.conv .i64 (.ivar .i32 1)))))) (.int .u64 256))), true) :: (((.cmp .lss (.bin .rem .u64 (.bin .mul .u64 (.int .u64 1) (.bin .sub .u64 (.int .u64 0) (.conv .u64 (.bin .mul .i64 (.conv .i64 (.ivar .i32 0)) (.conv .i64 (.ivar .i32 1)))))) (.int .u64 256)) (.bin .sub .u64 (.int .u64 256) (.bin .rem .u64 (.bin .mul .u64 (.int .u64 1) (.bin .sub .u64 (.int .u64 0) (.conv .u64 (.bin .mul .i64 (.conv .i64 (.ivar .i32 0)) (.conv .i64 (.ivar .i32 1)))))) (.int .u64 256)))), true) :: (((.cmp .lss (.bin .mul .i64 (.conv .i64 (.ivar .i32 0)) (.conv .i64 (.ivar .i32 1))) (.int .i64 0)), true) :: (((.cmp .lss (.bin .add .i64 (.conv .i64 (.ivar .i32 0)) (.conv .i64 (.ivar .i32 1))) (.int .i64 0)), false) :: (((.cmp .lss (.conv .i64 (.ivar .i32 0)) (.int .i64 0)), true) :: (((.cmp .lss (.conv .i64 (.ivar .i32 1)) (.int .i64 0)), false) :: []))))))))), (.bool false))]
def al4R25 : List (PC × SE) := [
  ((((.cmp .eql (.conv .i32 (.bin .sub .i64 (.int .i64 0) (.conv .i64 (.bin .quo .u64 (.bin .mul .u64 (.int .u64 1) (.bin .sub .u64 (.int .u64 0) (.conv .u64 (.bin .mul .i64 (.conv .i64 (.ivar .i32 0)) (.int .i64 256))))) (.int .u64 256))))) (.ivar .i32 0)), false) :: (((.cmp .eql (.conv .i32 (.bin .sub .i64 (.int .i64 0) (.conv .i64 (.bin .quo .u64 (.bin .mul .u64 (.int .u64 1) (.bin .sub .u64 (.int .u64 0) (.conv .u64 (.bin .add .i64 (.conv .i64 (.ivar .i32 0)) (.int .i64 0))))) (.int .u64 1))))) (.ivar .i32 0)), true) :: (((.cmp .lss (.int .u64 2147483648) (.bin .quo .u64 (.bin .mul .u64 (.int .u64 1) (.bin .sub .u64 (.int .u64 0) (.conv .u64 (.bin .mul .i64 (.conv .i64 (.ivar .i32 0)) (.conv .i64 (.ivar .i32 1)))))) (.int .u64 256))), true) :: (((.cmp .lss (.bin .rem .u64 (.bin .mul .u64 (.int .u64 1) (.bin .sub .u64 (.int .u64 0) (.conv .u64 (.bin .mul .i64 (.conv .i64 (.ivar .i32 0)) (.conv .i64 (.ivar .i32 1)))))) (.int .u64 256)) (.bin .sub .u64 (.int .u64 256) (.bin .rem .u64 (.bin .mul .u64 (.int .u64 1) (.bin .sub .u64 (.int .u64 0) (.conv .u64 (.bin .mul .i64 (.conv .i64 (.ivar .i32 0)) (.conv .i64 (.ivar .i32 1)))))) (.int .u64 256)))), true) :: (((.cmp .lss (.bin .mul .i64 (.conv .i64 (.ivar .i32 0)) (.conv .i64 (.ivar .i32 1))) (.int .i64 0)), true) :: (((.cmp .lss (.bin .add .i64 (.conv .i64 (.ivar .i32 0)) (.conv .i64 (.ivar .i32 1))) (.int .i64 0)), false) :: (((.cmp .lss (.conv .i64 (.ivar .i32 0)) (.int .i64 0)), true) :: (((.cmp .lss (.conv .i64 (.ivar .i32 1)) (.int .i64 0)), false) :: [])))))))), (.bool false))]
def al4R26 : List (PC × SE) := [
  ((((.cmp .eql (.conv .i32 (.bin .sub .i64 (.int .i64 0) (.conv .i64 (.bin .quo .u64 (.bin .mul .u64 (.int .u64 1) (.bin .sub .u64 (.int .u64 0) (.conv .u64 (.bin .add .i64 (.conv .i64 (.ivar .i32 0)) (.int .i64 0))))) (.int .u64 1))))) (.ivar .i32 0)), false) :: (((.cmp .lss (.int .u64 2147483648) (.bin .quo .u64 (.bin .mul .u64 (.int .u64 1) (.bin .sub .u64 (.int .u64 0) (.conv .u64 (.bin .mul .i64 (.conv .i64 (.ivar .i32 0)) (.conv .i64 (.ivar .i32 1)))))) (.int .u64 256))), true) :: (((.cmp .lss (.bin .rem .u64 (.bin .mul .u64 (.int .u64 1) (.bin .sub .u64 (.int .u64 0) (.conv .u64 (.bin .mul .i64 (.conv .i64 (.ivar .i32 0)) (.conv .i64 (.ivar .i32 1)))))) (.int .u64 256)) (.bin .sub .u64 (.int .u64 256) (.bin .rem .u64 (.bin .mul .u64 (.int .u64 1) (.bin .sub .u64 (.int .u64 0) (.conv .u64 (.bin .mul .i64 (.conv .i64 (.ivar .i32 0)) (.conv .i64 (.ivar .i32 1)))))) (.int .u64 256)))), true) :: (((.cmp .lss (.bin .mul .i64 (.conv .i64 (.ivar .i32 0)) (.conv .i64 (.ivar .i32 1))) (.int .i64 0)), true) :: (((.cmp .lss (.bin .add .i64 (.conv .i64 (.ivar .i32 0)) (.conv .i64 (.ivar .i32 1))) (.int .i64 0)), false) :: (((.cmp .lss (.conv .i64 (.ivar .i32 0)) (.int .i64 0)), true) :: (((.cmp .lss (.conv .i64 (.ivar .i32 1)) (.int .i64 0)), false) :: []))))))), (.bool false))]
def al4R27 : List (PC × SE) := [
  ((((.cmp .eql (.conv .i32 (.bin .sub .i64 (.int .i64 0) (.conv .i64 (.bin .quo .u64 (.bin .mul .u64 (.int .u64 256) (.bin .sub .u64 (.int .u64 0) (.conv .u64 (.conv .i64 (.ivar .i32 0))))) (.int .u64 256))))) (.ivar .i32 0)), false) :: (((.cmp .eql (.conv .i32 (.bin .sub .i64 (.int .i64 0) (.conv .i64 (.bin .quo .u64 (.bin .mul .u64 (.int .u64 1) (.bin .sub .u64 (.int .u64 0) (.conv .u64 (.bin .mul .i64 (.conv .i64 (.ivar .i32 0)) (.int .i64 256))))) (.int .u64 256))))) (.ivar .i32 0)), true) :: (((.cmp .eql (.conv .i32 (.bin .sub .i64 (.int .i64 0) (.conv .i64 (.bin .quo .u64 (.bin .mul .u64 (.int .u64 1) (.bin .sub .u64 (.int .u64 0) (.conv .u64 (.bin .add .i64 (.conv .i64 (.ivar .i32 0)) (.int .i64 0))))) (.int .u64 1))))) (.ivar .i32 0)), true) :: (((.cmp .lss (.bin .mul .i64 (.conv .i64 (.ivar .i32 0)) (.conv .i64 (.ivar .i32 1))) (.int .i64 0)), false) :: (((.cmp .lss (.bin .add .i64 (.conv .i64 (.ivar .i32 0)) (.conv .i64 (.ivar .i32 1))) (.int .i64 0)), false) :: (((.cmp .lss (.conv .i64 (.ivar .i32 0)) (.int .i64 0)), true) :: (((.cmp .lss (.conv .i64 (.ivar .i32 1)) (.int .i64 0)), false) :: []))))))), (.bool false))]
def al4R28 : List (PC × SE) := [
  ((((.cmp .eql (.conv .i32 (.bin .sub .i64 (.int .i64 0) (.conv .i64 (.bin .quo .u64 (.bin .mul .u64 (.int .u64 1) (.bin .sub .u64 (.int .u64 0) (.conv .u64 (.bin .mul .i64 (.conv .i64 (.ivar .i32 0)) (.int .i64 256))))) (.int .u64 256))))) (.ivar .i32 0)), false) :: (((.cmp .eql (.conv .i32 (.bin .sub .i64 (.int .i64 0) (.conv .i64 (.bin .quo .u64 (.bin .mul .u64 (.int .u64 1) (.bin .sub .u64 (.int .u64 0) (.conv .u64 (.bin .add .i64 (.conv .i64 (.ivar .i32 0)) (.int .i64 0))))) (.int .u64 1))))) (.ivar .i32 0)), true) :: (((.cmp .lss (.bin .mul .i64 (.conv .i64 (.ivar .i32 0)) (.conv .i64 (.ivar .i32 1))) (.int .i64 0)), false) :: (((.cmp .lss (.bin .add .i64 (.conv .i64 (.ivar .i32 0)) (.conv .i64 (.ivar .i32 1))) (.int .i64 0)), false) :: (((.cmp .lss (.conv .i64 (.ivar .i32 0)) (.int .i64 0)), true) :: (((.cmp .lss (.conv .i64 (.ivar .i32 1)) (.int .i64 0)), false) :: [])))))), (.bool false))]
def al4R29 : List (PC × SE) := [
  ((((.cmp .eql (.conv .i32 (.bin .sub .i64 (.int .i64 0) (.conv .i64 (.bin .quo .u64 (.bin .mul .u64 (.int .u64 1) (.bin .sub .u64 (.int .u64 0) (.conv .u64 (.bin .add .i64 (.conv .i64 (.ivar .i32 0)) (.int .i64 0))))) (.int .u64 1))))) (.ivar .i32 0)), false) :: (((.cmp .lss (.bin .mul .i64 (.conv .i64 (.ivar .i32 0)) (.conv .i64 (.ivar .i32 1))) (.int .i64 0)), false) :: (((.cmp .lss (.bin .add .i64 (.conv .i64 (.ivar .i32 0)) (.conv .i64 (.ivar .i32 1))) (.int .i64 0)), false) :: (((.cmp .lss (.conv .i64 (.ivar .i32 0)) (.int .i64 0)), true) :: (((.cmp .lss (.conv .i64 (.ivar .i32 1)) (.int .i64 0)), false) :: []))))), (.bool false))]
def al4R : List (PC × SE) := al4R0 ++ (al4R1 ++ (al4R2 ++ (al4R3 ++ (al4R4 ++ (al4R5 ++ (al4R6 ++ (al4R7 ++ (al4R8 ++ (al4R9 ++ (al4R10 ++ (al4R11 ++ (al4R12 ++ (al4R13 ++ (al4R14 ++ (al4R15 ++ (al4R16 ++ (al4R17 ++ (al4R18 ++ (al4R19 ++ (al4R20 ++ (al4R21 ++ (al4R22 ++ (al4R23 ++ (al4R24 ++ (al4R25 ++ (al4R26 ++ (al4R27 ++ (al4R28 ++ (al4R29)))))))))))))))))))))))))))))
theorem al4_rest (ρ : Nat → Value) : restOf (callF kn Tryd.prog (tb.at ρ) 300 300 (pcAl true false) 10 ys2 H0) = some al4R := by kernel_rfl
theorem al4_true0 (ρ : Nat → Value) : ∀ q, q ∈ al4R0 → q.1.holds ρ → q.2.truth ρ = true := by
  have ha := v_bounds ρ .i32 0
  have hb := v_bounds ρ .i32 1
  simp only [IntKind.min, IntKind.max, IntKind.bits, IntKind.signed] at ha hb
  simp only [al4R0, all_cons, all_nil, h_cons, h_nil, t_eql, t_lss, t_bool, t_and, t_not, n_int, n_add, n_sub, n_mul, n_conv, n_shr, n_and, n_quo, n_rem, n_max]
  generalize (SE.ivar .i32 0).num ρ = a at ha ⊢
  generalize (SE.ivar .i32 1).num ρ = b at hb ⊢
  simp at ha hb
  have c1 : IntKind.wrap .i64 a = a := wid_i64 a (by omega) (by omega)
  have c2 : IntKind.wrap .i64 b = b := wid_i64 b (by omega) (by omega)
  have hp := prod a b ha hb
  simp only [c1, c2, reduceIte, Bool.false_eq_true, and_true, and_imp, ne_eq]
  clear c1 c2
  generalize a * b = t at hp ⊢
  simp (disch := omega) only [wid_u64, wid_i64, Int.add_zero, Int.one_mul, Int.mul_one]
  by_cases hx : a < 0
  · have e1 := neg_u64 a hx (by omega)
    have e2 := neg_u64 (a * 256) (by omega) (by omega)
    try simp only [e1, e2]
    clear e1 e2
    try simp (disch := omega) only [wid_u64, wid_i64, wid_i32, Int.tdiv_eq_ediv_of_nonneg, Int.tmod_eq_emod_of_nonneg, if_neg, Int.one_mul]
    try simp (disch := omega) only [wid_u64, wid_i64, wid_i32, Int.tdiv_eq_ediv_of_nonneg, Int.tmod_eq_emod_of_nonneg, if_neg, Int.one_mul]
    intros
    first | omega | skip
  · try simp (disch := omega) only [wid_u64, wid_i64, wid_i32, Int.tdiv_eq_ediv_of_nonneg, Int.tmod_eq_emod_of_nonneg, if_neg, Int.one_mul]
    try simp (disch := omega) only [wid_u64, wid_i64, wid_i32, Int.tdiv_eq_ediv_of_nonneg, Int.tmod_eq_emod_of_nonneg, if_neg, Int.one_mul]
    intros
    first | omega | skip
theorem al4_true1 (ρ : Nat → Value) : ∀ q, q ∈ al4R1 → q.1.holds ρ → q.2.truth ρ = true := by
  have ha := v_bounds ρ .i32 0
  have hb := v_bounds ρ .i32 1
  simp only [IntKind.min, IntKind.max, IntKind.bits, IntKind.signed] at ha hb
  simp only [al4R1, all_cons, all_nil, h_cons, h_nil, t_eql, t_lss, t_bool, t_and, t_not, n_int, n_add, n_sub, n_mul, n_conv, n_shr, n_and, n_quo, n_rem, n_max]
  generalize (SE.ivar .i32 0).num ρ = a at ha ⊢
  generalize (SE.ivar .i32 1).num ρ = b at hb ⊢
  simp at ha hb
  have c1 : IntKind.wrap .i64 a = a := wid_i64 a (by omega) (by omega)
  have c2 : IntKind.wrap .i64 b = b := wid_i64 b (by omega) (by omega)
  have hp := prod a b ha hb
  simp only [c1, c2, reduceIte, Bool.false_eq_true, and_true, and_imp, ne_eq]
  clear c1 c2
  generalize a * b = t at hp ⊢
  simp (disch := omega) only [wid_u64, wid_i64, Int.add_zero, Int.one_mul, Int.mul_one]
  by_cases hx : a < 0
  · have e1 := neg_u64 a hx (by omega)
    have e2 := neg_u64 (a * 256) (by omega) (by omega)
    try simp only [e1, e2]
    clear e1 e2
    try simp (disch := omega) only [wid_u64, wid_i64, wid_i32, Int.tdiv_eq_ediv_of_nonneg, Int.tmod_eq_emod_of_nonneg, if_neg, Int.one_mul]
    try simp (disch := omega) only [wid_u64, wid_i64, wid_i32, Int.tdiv_eq_ediv_of_nonneg, Int.tmod_eq_emod_of_nonneg, if_neg, Int.one_mul]
    intros
    first | omega | skip
  · try simp (disch := omega) only [wid_u64, wid_i64, wid_i32, Int.tdiv_eq_ediv_of_nonneg, Int.tmod_eq_emod_of_nonneg, if_neg, Int.one_mul]
    try simp (disch := omega) only [wid_u64, wid_i64, wid_i32, Int.tdiv_eq_ediv_of_nonneg, Int.tmod_eq_emod_of_nonneg, if_neg, Int.one_mul]
    intros
    first | omega | skip
theorem al4_true2 (ρ : Nat → Value) : ∀ q, q ∈ al4R2 → q.1.holds ρ → q.2.truth ρ = true := by
  have ha := v_bounds ρ .i32 0
  have hb := v_bounds ρ .i32 1
  simp only [IntKind.min, IntKind.max, IntKind.bits, IntKind.signed] at ha hb
  simp only [al4R2, all_cons, all_nil, h_cons, h_nil, t_eql, t_lss, t_bool, t_and, t_not, n_int, n_add, n_sub, n_mul, n_conv, n_shr, n_and, n_quo, n_rem, n_max]
  generalize (SE.ivar .i32 0).num ρ = a at ha ⊢
  generalize (SE.ivar .i32 1).num ρ = b at hb ⊢
  simp at ha hb
  have c1 : IntKind.wrap .i64 a = a := wid_i64 a (by omega) (by omega)
  have c2 : IntKind.wrap .i64 b = b := wid_i64 b (by omega) (by omega)
  have hp := prod a b ha hb
  simp only [c1, c2, reduceIte, Bool.false_eq_true, and_true, and_imp, ne_eq]
  clear c1 c2
  generalize a * b = t at hp ⊢
  simp (disch := omega) only [wid_u64, wid_i64, Int.add_zero, Int.one_mul, Int.mul_one]
  by_cases hx : a < 0
  · have e1 := neg_u64 a hx (by omega)
    have e2 := neg_u64 (a * 256) (by omega) (by omega)
    try simp only [e1, e2]
    clear e1 e2
    try simp (disch := omega) only [wid_u64, wid_i64, wid_i32, Int.tdiv_eq_ediv_of_nonneg, Int.tmod_eq_emod_of_nonneg, if_neg, Int.one_mul]
    try simp (disch := omega) only [wid_u64, wid_i64, wid_i32, Int.tdiv_eq_ediv_of_nonneg, Int.tmod_eq_emod_of_nonneg, if_neg, Int.one_mul]
    intros
    first | omega | skip
  · try simp (disch := omega) only [wid_u64, wid_i64, wid_i32, Int.tdiv_eq_ediv_of_nonneg, Int.tmod_eq_emod_of_nonneg, if_neg, Int.one_mul]
    try simp (disch := omega) only [wid_u64, wid_i64, wid_i32, Int.tdiv_eq_ediv_of_nonneg, Int.tmod_eq_emod_of_nonneg, if_neg, Int.one_mul]
    intros
    first | omega | skip
theorem al4_true3 (ρ : Nat → Value) : ∀ q, q ∈ al4R3 → q.1.holds ρ → q.2.truth ρ = true := by
  have ha := v_bounds ρ .i32 0
  have hb := v_bounds ρ .i32 1
  simp only [IntKind.min, IntKind.max, IntKind.bits, IntKind.signed] at ha hb
  simp only [al4R3, all_cons, all_nil, h_cons, h_nil, t_eql, t_lss, t_bool, t_and, t_not, n_int, n_add, n_sub, n_mul, n_conv, n_shr, n_and, n_quo, n_rem, n_max]
  generalize (SE.ivar .i32 0).num ρ = a at ha ⊢
  generalize (SE.ivar .i32 1).num ρ = b at hb ⊢
  simp at ha hb
  have c1 : IntKind.wrap .i64 a = a := wid_i64 a (by omega) (by omega)
  have c2 : IntKind.wrap .i64 b = b := wid_i64 b (by omega) (by omega)
  have hp := prod a b ha hb
  simp only [c1, c2, reduceIte, Bool.false_eq_true, and_true, and_imp, ne_eq]
  clear c1 c2
  generalize a * b = t at hp ⊢
  simp (disch := omega) only [wid_u64, wid_i64, Int.add_zero, Int.one_mul, Int.mul_one]
  by_cases hx : a < 0
  · have e1 := neg_u64 a hx (by omega)
    have e2 := neg_u64 (a * 256) (by omega) (by omega)
    try simp only [e1, e2]
    clear e1 e2
    try simp (disch := omega) only [wid_u64, wid_i64, wid_i32, Int.tdiv_eq_ediv_of_nonneg, Int.tmod_eq_emod_of_nonneg, if_neg, Int.one_mul]
    try simp (disch := omega) only [wid_u64, wid_i64, wid_i32, Int.tdiv_eq_ediv_of_nonneg, Int.tmod_eq_emod_of_nonneg, if_neg, Int.one_mul]
    intros
    first | omega | skip
  · try simp (disch := omega) only [wid_u64, wid_i64, wid_i32, Int.tdiv_eq_ediv_of_nonneg, Int.tmod_eq_emod_of_nonneg, if_neg, Int.one_mul]
    try simp (disch := omega) only [wid_u64, wid_i64, wid_i32, Int.tdiv_eq_ediv_of_nonneg, Int.tmod_eq_emod_of_nonneg, if_neg, Int.one_mul]
    intros
    first | omega | skip
theorem al4_true4 (ρ : Nat → Value) : ∀ q, q ∈ al4R4 → q.1.holds ρ → q.2.truth ρ = true := by
  have ha := v_bounds ρ .i32 0
  have hb := v_bounds ρ .i32 1
  simp only [IntKind.min, IntKind.max, IntKind.bits, IntKind.signed] at ha hb
  simp only [al4R4, all_cons, all_nil, h_cons, h_nil, t_eql, t_lss, t_bool, t_and, t_not, n_int, n_add, n_sub, n_mul, n_conv, n_shr, n_and, n_quo, n_rem, n_max]
  generalize (SE.ivar .i32 0).num ρ = a at ha ⊢
  generalize (SE.ivar .i32 1).num ρ = b at hb ⊢
  simp at ha hb
  have c1 : IntKind.wrap .i64 a = a := wid_i64 a (by omega) (by omega)
  have c2 : IntKind.wrap .i64 b = b := wid_i64 b (by omega) (by omega)
  have hp := prod a b ha hb
  simp only [c1, c2, reduceIte, Bool.false_eq_true, and_true, and_imp, ne_eq]
  clear c1 c2
  generalize a * b = t at hp ⊢
  simp (disch := omega) only [wid_u64, wid_i64, Int.add_zero, Int.one_mul, Int.mul_one]
  by_cases hx : a < 0
  · have e1 := neg_u64 a hx (by omega)
    have e2 := neg_u64 (a * 256) (by omega) (by omega)
    try simp only [e1, e2]
    clear e1 e2
    try simp (disch := omega) only [wid_u64, wid_i64, wid_i32, Int.tdiv_eq_ediv_of_nonneg, Int.tmod_eq_emod_of_nonneg, if_neg, Int.one_mul]
    try simp (disch := omega) only [wid_u64, wid_i64, wid_i32, Int.tdiv_eq_ediv_of_nonneg, Int.tmod_eq_emod_of_nonneg, if_neg, Int.one_mul]
    intros
    first | omega | skip
  · try simp (disch := omega) only [wid_u64, wid_i64, wid_i32, Int.tdiv_eq_ediv_of_nonneg, Int.tmod_eq_emod_of_nonneg, if_neg, Int.one_mul]
    try simp (disch := omega) only [wid_u64, wid_i64, wid_i32, Int.tdiv_eq_ediv_of_nonneg, Int.tmod_eq_emod_of_nonneg, if_neg, Int.one_mul]
    intros
    first | omega | skip
theorem al4_true5 (ρ : Nat → Value) : ∀ q, q ∈ al4R5 → q.1.holds ρ → q.2.truth ρ = true := by
  have ha := v_bounds ρ .i32 0
  have hb := v_bounds ρ .i32 1
  simp only [IntKind.min, IntKind.max, IntKind.bits, IntKind.signed] at ha hb
  simp only [al4R5, all_cons, all_nil, h_cons, h_nil, t_eql, t_lss, t_bool, t_and, t_not, n_int, n_add, n_sub, n_mul, n_conv, n_shr, n_and, n_quo, n_rem, n_max]
  generalize (SE.ivar .i32 0).num ρ = a at ha ⊢
  generalize (SE.ivar .i32 1).num ρ = b at hb ⊢
  simp at ha hb
  have c1 : IntKind.wrap .i64 a = a := wid_i64 a (by omega) (by omega)
  have c2 : IntKind.wrap .i64 b = b := wid_i64 b (by omega) (by omega)
  have hp := prod a b ha hb
  simp only [c1, c2, reduceIte, Bool.false_eq_true, and_true, and_imp, ne_eq]
  clear c1 c2
  generalize a * b = t at hp ⊢
  simp (disch := omega) only [wid_u64, wid_i64, Int.add_zero, Int.one_mul, Int.mul_one]
  by_cases hx : a < 0
  · have e1 := neg_u64 a hx (by omega)
    have e2 := neg_u64 (a * 256) (by omega) (by omega)
    try simp only [e1, e2]
    clear e1 e2
    try simp (disch := omega) only [wid_u64, wid_i64, wid_i32, Int.tdiv_eq_ediv_of_nonneg, Int.tmod_eq_emod_of_nonneg, if_neg, Int.one_mul]
    try simp (disch := omega) only [wid_u64, wid_i64, wid_i32, Int.tdiv_eq_ediv_of_nonneg, Int.tmod_eq_emod_of_nonneg, if_neg, Int.one_mul]
    intros
    first | omega | skip
  · try simp (disch := omega) only [wid_u64, wid_i64, wid_i32, Int.tdiv_eq_ediv_of_nonneg, Int.tmod_eq_emod_of_nonneg, if_neg, Int.one_mul]
    try simp (disch := omega) only [wid_u64, wid_i64, wid_i32, Int.tdiv_eq_ediv_of_nonneg, Int.tmod_eq_emod_of_nonneg, if_neg, Int.one_mul]
    intros
    first | omega | skip
theorem al4_true6 (ρ : Nat → Value) : ∀ q, q ∈ al4R6 → q.1.holds ρ → q.2.truth ρ = true := by
  have ha := v_bounds ρ .i32 0
  have hb := v_bounds ρ .i32 1
  simp only [IntKind.min, IntKind.max, IntKind.bits, IntKind.signed] at ha hb
  simp only [al4R6, all_cons, all_nil, h_cons, h_nil, t_eql, t_lss, t_bool, t_and, t_not, n_int, n_add, n_sub, n_mul, n_conv, n_shr, n_and, n_quo, n_rem, n_max]
  generalize (SE.ivar .i32 0).num ρ = a at ha ⊢
  generalize (SE.ivar .i32 1).num ρ = b at hb ⊢
  simp at ha hb
  have c1 : IntKind.wrap .i64 a = a := wid_i64 a (by omega) (by omega)
  have c2 : IntKind.wrap .i64 b = b := wid_i64 b (by omega) (by omega)
  have hp := prod a b ha hb
  simp only [c1, c2, reduceIte, Bool.false_eq_true, and_true, and_imp, ne_eq]
  clear c1 c2
  generalize a * b = t at hp ⊢
  simp (disch := omega) only [wid_u64, wid_i64, Int.add_zero, Int.one_mul, Int.mul_one]
  by_cases hx : a < 0
  · have e1 := neg_u64 a hx (by omega)
    have e2 := neg_u64 (a * 256) (by omega) (by omega)
    try simp only [e1, e2]
    clear e1 e2
    try simp (disch := omega) only [wid_u64, wid_i64, wid_i32, Int.tdiv_eq_ediv_of_nonneg, Int.tmod_eq_emod_of_nonneg, if_neg, Int.one_mul]
    try simp (disch := omega) only [wid_u64, wid_i64, wid_i32, Int.tdiv_eq_ediv_of_nonneg, Int.tmod_eq_emod_of_nonneg, if_neg, Int.one_mul]
    intros
    first | omega | skip
  · try simp (disch := omega) only [wid_u64, wid_i64, wid_i32, Int.tdiv_eq_ediv_of_nonneg, Int.tmod_eq_emod_of_nonneg, if_neg, Int.one_mul]
    try simp (disch := omega) only [wid_u64, wid_i64, wid_i32, Int.tdiv_eq_ediv_of_nonneg, Int.tmod_eq_emod_of_nonneg, if_neg, Int.one_mul]
    intros
    first | omega | skip
theorem al4_true7 (ρ : Nat → Value) : ∀ q, q ∈ al4R7 → q.1.holds ρ → q.2.truth ρ = true := by
  have ha := v_bounds ρ .i32 0
  have hb := v_bounds ρ .i32 1
  simp only [IntKind.min, IntKind.max, IntKind.bits, IntKind.signed] at ha hb
  simp only [al4R7, all_cons, all_nil, h_cons, h_nil, t_eql, t_lss, t_bool, t_and, t_not, n_int, n_add, n_sub, n_mul, n_conv, n_shr, n_and, n_quo, n_rem, n_max]
  generalize (SE.ivar .i32 0).num ρ = a at ha ⊢
  generalize (SE.ivar .i32 1).num ρ = b at hb ⊢
  simp at ha hb
  have c1 : IntKind.wrap .i64 a = a := wid_i64 a (by omega) (by omega)
  have c2 : IntKind.wrap .i64 b = b := wid_i64 b (by omega) (by omega)
  have hp := prod a b ha hb
  simp only [c1, c2, reduceIte, Bool.false_eq_true, and_true, and_imp, ne_eq]
  clear c1 c2
  generalize a * b = t at hp ⊢
  simp (disch := omega) only [wid_u64, wid_i64, Int.add_zero, Int.one_mul, Int.mul_one]
  by_cases hx : a < 0
  · have e1 := neg_u64 a hx (by omega)
    have e2 := neg_u64 (a * 256) (by omega) (by omega)
    try simp only [e1, e2]
    clear e1 e2
    try simp (disch := omega) only [wid_u64, wid_i64, wid_i32, Int.tdiv_eq_ediv_of_nonneg, Int.tmod_eq_emod_of_nonneg, if_neg, Int.one_mul]
    try simp (disch := omega) only [wid_u64, wid_i64, wid_i32, Int.tdiv_eq_ediv_of_nonneg, Int.tmod_eq_emod_of_nonneg, if_neg, Int.one_mul]
    intros
    first | omega | skip
  · try simp (disch := omega) only [wid_u64, wid_i64, wid_i32, Int.tdiv_eq_ediv_of_nonneg, Int.tmod_eq_emod_of_nonneg, if_neg, Int.one_mul]
    try simp (disch := omega) only [wid_u64, wid_i64, wid_i32, Int.tdiv_eq_ediv_of_nonneg, Int.tmod_eq_emod_of_nonneg, if_neg, Int.one_mul]
    intros
    first | omega | skip
theorem al4_true8 (ρ : Nat → Value) : ∀ q, q ∈ al4R8 → q.1.holds ρ → q.2.truth ρ = true := by
  have ha := v_bounds ρ .i32 0
  have hb := v_bounds ρ .i32 1
  simp only [IntKind.min, IntKind.max, IntKind.bits, IntKind.signed] at ha hb
  simp only [al4R8, all_cons, all_nil, h_cons, h_nil, t_eql, t_lss, t_bool, t_and, t_not, n_int, n_add, n_sub, n_mul, n_conv, n_shr, n_and, n_quo, n_rem, n_max]
  generalize (SE.ivar .i32 0).num ρ = a at ha ⊢
  generalize (SE.ivar .i32 1).num ρ = b at hb ⊢
  simp at ha hb
  have c1 : IntKind.wrap .i64 a = a := wid_i64 a (by omega) (by omega)
  have c2 : IntKind.wrap .i64 b = b := wid_i64 b (by omega) (by omega)
  have hp := prod a b ha hb
  simp only [c1, c2, reduceIte, Bool.false_eq_true, and_true, and_imp, ne_eq]
  clear c1 c2
  generalize a * b = t at hp ⊢
  simp (disch := omega) only [wid_u64, wid_i64, Int.add_zero, Int.one_mul, Int.mul_one]
  by_cases hx : a < 0
  · have e1 := neg_u64 a hx (by omega)
    have e2 := neg_u64 (a * 256) (by omega) (by omega)
    try simp only [e1, e2]
    clear e1 e2
    try simp (disch := omega) only [wid_u64, wid_i64, wid_i32, Int.tdiv_eq_ediv_of_nonneg, Int.tmod_eq_emod_of_nonneg, if_neg, Int.one_mul]
    try simp (disch := omega) only [wid_u64, wid_i64, wid_i32, Int.tdiv_eq_ediv_of_nonneg, Int.tmod_eq_emod_of_nonneg, if_neg, Int.one_mul]
    intros
    first | omega | skip
  · try simp (disch := omega) only [wid_u64, wid_i64, wid_i32, Int.tdiv_eq_ediv_of_nonneg, Int.tmod_eq_emod_of_nonneg, if_neg, Int.one_mul]
    try simp (disch := omega) only [wid_u64, wid_i64, wid_i32, Int.tdiv_eq_ediv_of_nonneg, Int.tmod_eq_emod_of_nonneg, if_neg, Int.one_mul]
    intros
    first | omega | skip
theorem al4_true9 (ρ : Nat → Value) : ∀ q, q ∈ al4R9 → q.1.holds ρ → q.2.truth ρ = true := by
  have ha := v_bounds ρ .i32 0
  have hb := v_bounds ρ .i32 1
  simp only [IntKind.min, IntKind.max, IntKind.bits, IntKind.signed] at ha hb
  simp only [al4R9, all_cons, all_nil, h_cons, h_nil, t_eql, t_lss, t_bool, t_and, t_not, n_int, n_add, n_sub, n_mul, n_conv, n_shr, n_and, n_quo, n_rem, n_max]
  generalize (SE.ivar .i32 0).num ρ = a at ha ⊢
  generalize (SE.ivar .i32 1).num ρ = b at hb ⊢
  simp at ha hb
  have c1 : IntKind.wrap .i64 a = a := wid_i64 a (by omega) (by omega)
  have c2 : IntKind.wrap .i64 b = b := wid_i64 b (by omega) (by omega)
  have hp := prod a b ha hb
  simp only [c1, c2, reduceIte, Bool.false_eq_true, and_true, and_imp, ne_eq]
  clear c1 c2
  generalize a * b = t at hp ⊢
  simp (disch := omega) only [wid_u64, wid_i64, Int.add_zero, Int.one_mul, Int.mul_one]
  by_cases hx : a < 0
  · have e1 := neg_u64 a hx (by omega)
    have e2 := neg_u64 (a * 256) (by omega) (by omega)
    try simp only [e1, e2]
    clear e1 e2
    try simp (disch := omega) only [wid_u64, wid_i64, wid_i32, Int.tdiv_eq_ediv_of_nonneg, Int.tmod_eq_emod_of_nonneg, if_neg, Int.one_mul]
    try simp (disch := omega) only [wid_u64, wid_i64, wid_i32, Int.tdiv_eq_ediv_of_nonneg, Int.tmod_eq_emod_of_nonneg, if_neg, Int.one_mul]
    intros
    first | omega | skip
  · try simp (disch := omega) only [wid_u64, wid_i64, wid_i32, Int.tdiv_eq_ediv_of_nonneg, Int.tmod_eq_emod_of_nonneg, if_neg, Int.one_mul]
    try simp (disch := omega) only [wid_u64, wid_i64, wid_i32, Int.tdiv_eq_ediv_of_nonneg, Int.tmod_eq_emod_of_nonneg, if_neg, Int.one_mul]
    intros
    first | omega | skip
theorem al4_true10 (ρ : Nat → Value) : ∀ q, q ∈ al4R10 → q.1.holds ρ → q.2.truth ρ = true := by
  have ha := v_bounds ρ .i32 0
  have hb := v_bounds ρ .i32 1
  simp only [IntKind.min, IntKind.max, IntKind.bits, IntKind.signed] at ha hb
  simp only [al4R10, all_cons, all_nil, h_cons, h_nil, t_eql, t_lss, t_bool, t_and, t_not, n_int, n_add, n_sub, n_mul, n_conv, n_shr, n_and, n_quo, n_rem, n_max]
  generalize (SE.ivar .i32 0).num ρ = a at ha ⊢
  generalize (SE.ivar .i32 1).num ρ = b at hb ⊢
  simp at ha hb
  have c1 : IntKind.wrap .i64 a = a := wid_i64 a (by omega) (by omega)
  have c2 : IntKind.wrap .i64 b = b := wid_i64 b (by omega) (by omega)
  have hp := prod a b ha hb
  simp only [c1, c2, reduceIte, Bool.false_eq_true, and_true, and_imp, ne_eq]
  clear c1 c2
  generalize a * b = t at hp ⊢
  simp (disch := omega) only [wid_u64, wid_i64, Int.add_zero, Int.one_mul, Int.mul_one]
  by_cases hx : a < 0
  · have e1 := neg_u64 a hx (by omega)
    have e2 := neg_u64 (a * 256) (by omega) (by omega)
    try simp only [e1, e2]
    clear e1 e2
    try simp (disch := omega) only [wid_u64, wid_i64, wid_i32, Int.tdiv_eq_ediv_of_nonneg, Int.tmod_eq_emod_of_nonneg, if_neg, Int.one_mul]
    try simp (disch := omega) only [wid_u64, wid_i64, wid_i32, Int.tdiv_eq_ediv_of_nonneg, Int.tmod_eq_emod_of_nonneg, if_neg, Int.one_mul]
    intros
    first | omega | skip
  · try simp (disch := omega) only [wid_u64, wid_i64, wid_i32, Int.tdiv_eq_ediv_of_nonneg, Int.tmod_eq_emod_of_nonneg, if_neg, Int.one_mul]
    try simp (disch := omega) only [wid_u64, wid_i64, wid_i32, Int.tdiv_eq_ediv_of_nonneg, Int.tmod_eq_emod_of_nonneg, if_neg, Int.one_mul]
    intros
    first | omega | skip
theorem al4_true11 (ρ : Nat → Value) : ∀ q, q ∈ al4R11 → q.1.holds ρ → q.2.truth ρ = true := by
  have ha := v_bounds ρ .i32 0
  have hb := v_bounds ρ .i32 1
  simp only [IntKind.min, IntKind.max, IntKind.bits, IntKind.signed] at ha hb
  simp only [al4R11, all_cons, all_nil, h_cons, h_nil, t_eql, t_lss, t_bool, t_and, t_not, n_int, n_add, n_sub, n_mul, n_conv, n_shr, n_and, n_quo, n_rem, n_max]
  generalize (SE.ivar .i32 0).num ρ = a at ha ⊢
  generalize (SE.ivar .i32 1).num ρ = b at hb ⊢
  simp at ha hb
  have c1 : IntKind.wrap .i64 a = a := wid_i64 a (by omega) (by omega)
  have c2 : IntKind.wrap .i64 b = b := wid_i64 b (by omega) (by omega)
  have hp := prod a b ha hb
  simp only [c1, c2, reduceIte, Bool.false_eq_true, and_true, and_imp, ne_eq]
  clear c1 c2
  generalize a * b = t at hp ⊢
  simp (disch := omega) only [wid_u64, wid_i64, Int.add_zero, Int.one_mul, Int.mul_one]
  by_cases hx : a < 0
  · have e1 := neg_u64 a hx (by omega)
    have e2 := neg_u64 (a * 256) (by omega) (by omega)
    try simp only [e1, e2]
    clear e1 e2
    try simp (disch := omega) only [wid_u64, wid_i64, wid_i32, Int.tdiv_eq_ediv_of_nonneg, Int.tmod_eq_emod_of_nonneg, if_neg, Int.one_mul]
    try simp (disch := omega) only [wid_u64, wid_i64, wid_i32, Int.tdiv_eq_ediv_of_nonneg, Int.tmod_eq_emod_of_nonneg, if_neg, Int.one_mul]
    intros
    first | omega | skip
  · try simp (disch := omega) only [wid_u64, wid_i64, wid_i32, Int.tdiv_eq_ediv_of_nonneg, Int.tmod_eq_emod_of_nonneg, if_neg, Int.one_mul]
    try simp (disch := omega) only [wid_u64, wid_i64, wid_i32, Int.tdiv_eq_ediv_of_nonneg, Int.tmod_eq_emod_of_nonneg, if_neg, Int.one_mul]
    intros
    first | omega | skip
theorem al4_true12 (ρ : Nat → Value) : ∀ q, q ∈ al4R12 → q.1.holds ρ → q.2.truth ρ = true := by
  have ha := v_bounds ρ .i32 0
  have hb := v_bounds ρ .i32 1
  simp only [IntKind.min, IntKind.max, IntKind.bits, IntKind.signed] at ha hb
  simp only [al4R12, all_cons, all_nil, h_cons, h_nil, t_eql, t_lss, t_bool, t_and, t_not, n_int, n_add, n_sub, n_mul, n_conv, n_shr, n_and, n_quo, n_rem, n_max]
  generalize (SE.ivar .i32 0).num ρ = a at ha ⊢
  generalize (SE.ivar .i32 1).num ρ = b at hb ⊢
  simp at ha hb
  have c1 : IntKind.wrap .i64 a = a := wid_i64 a (by omega) (by omega)
  have c2 : IntKind.wrap .i64 b = b := wid_i64 b (by omega) (by omega)
  have hp := prod a b ha hb
  simp only [c1, c2, reduceIte, Bool.false_eq_true, and_true, and_imp, ne_eq]
  clear c1 c2
  generalize a * b = t at hp ⊢
  simp (disch := omega) only [wid_u64, wid_i64, Int.add_zero, Int.one_mul, Int.mul_one]
  by_cases hx : a < 0
  · have e1 := neg_u64 a hx (by omega)
    have e2 := neg_u64 (a * 256) (by omega) (by omega)
    try simp only [e1, e2]
    clear e1 e2
    try simp (disch := omega) only [wid_u64, wid_i64, wid_i32, Int.tdiv_eq_ediv_of_nonneg, Int.tmod_eq_emod_of_nonneg, if_neg, Int.one_mul]
    try simp (disch := omega) only [wid_u64, wid_i64, wid_i32, Int.tdiv_eq_ediv_of_nonneg, Int.tmod_eq_emod_of_nonneg, if_neg, Int.one_mul]
    intros
    first | omega | skip
  · try simp (disch := omega) only [wid_u64, wid_i64, wid_i32, Int.tdiv_eq_ediv_of_nonneg, Int.tmod_eq_emod_of_nonneg, if_neg, Int.one_mul]
    try simp (disch := omega) only [wid_u64, wid_i64, wid_i32, Int.tdiv_eq_ediv_of_nonneg, Int.tmod_eq_emod_of_nonneg, if_neg, Int.one_mul]
    intros
    first | omega | skip
theorem al4_true13 (ρ : Nat → Value) : ∀ q, q ∈ al4R13 → q.1.holds ρ → q.2.truth ρ = true := by
  have ha := v_bounds ρ .i32 0
  have hb := v_bounds ρ .i32 1
  simp only [IntKind.min, IntKind.max, IntKind.bits, IntKind.signed] at ha hb
  simp only [al4R13, all_cons, all_nil, h_cons, h_nil, t_eql, t_lss, t_bool, t_and, t_not, n_int, n_add, n_sub, n_mul, n_conv, n_shr, n_and, n_quo, n_rem, n_max]
  generalize (SE.ivar .i32 0).num ρ = a at ha ⊢
  generalize (SE.ivar .i32 1).num ρ = b at hb ⊢
  simp at ha hb
  have c1 : IntKind.wrap .i64 a = a := wid_i64 a (by omega) (by omega)
  have c2 : IntKind.wrap .i64 b = b := wid_i64 b (by omega) (by omega)
  have hp := prod a b ha hb
  simp only [c1, c2, reduceIte, Bool.false_eq_true, and_true, and_imp, ne_eq]
  clear c1 c2
  generalize a * b = t at hp ⊢
  simp (disch := omega) only [wid_u64, wid_i64, Int.add_zero, Int.one_mul, Int.mul_one]
  by_cases hx : a < 0
  · have e1 := neg_u64 a hx (by omega)
    have e2 := neg_u64 (a * 256) (by omega) (by omega)
    try simp only [e1, e2]
    clear e1 e2
    try simp (disch := omega) only [wid_u64, wid_i64, wid_i32, Int.tdiv_eq_ediv_of_nonneg, Int.tmod_eq_emod_of_nonneg, if_neg, Int.one_mul]
    try simp (disch := omega) only [wid_u64, wid_i64, wid_i32, Int.tdiv_eq_ediv_of_nonneg, Int.tmod_eq_emod_of_nonneg, if_neg, Int.one_mul]
    intros
    first | omega | skip
  · try simp (disch := omega) only [wid_u64, wid_i64, wid_i32, Int.tdiv_eq_ediv_of_nonneg, Int.tmod_eq_emod_of_nonneg, if_neg, Int.one_mul]
    try simp (disch := omega) only [wid_u64, wid_i64, wid_i32, Int.tdiv_eq_ediv_of_nonneg, Int.tmod_eq_emod_of_nonneg, if_neg, Int.one_mul]
    intros
    first | omega | skip
theorem al4_true14 (ρ : Nat → Value) : ∀ q, q ∈ al4R14 → q.1.holds ρ → q.2.truth ρ = true := by
  have ha := v_bounds ρ .i32 0
  have hb := v_bounds ρ .i32 1
  simp only [IntKind.min, IntKind.max, IntKind.bits, IntKind.signed] at ha hb
  simp only [al4R14, all_cons, all_nil, h_cons, h_nil, t_eql, t_lss, t_bool, t_and, t_not, n_int, n_add, n_sub, n_mul, n_conv, n_shr, n_and, n_quo, n_rem, n_max]
  generalize (SE.ivar .i32 0).num ρ = a at ha ⊢
  generalize (SE.ivar .i32 1).num ρ = b at hb ⊢
  simp at ha hb
  have c1 : IntKind.wrap .i64 a = a := wid_i64 a (by omega) (by omega)
  have c2 : IntKind.wrap .i64 b = b := wid_i64 b (by omega) (by omega)
  have hp := prod a b ha hb
  simp only [c1, c2, reduceIte, Bool.false_eq_true, and_true, and_imp, ne_eq]
  clear c1 c2
  generalize a * b = t at hp ⊢
  simp (disch := omega) only [wid_u64, wid_i64, Int.add_zero, Int.one_mul, Int.mul_one]
  by_cases hx : a < 0
  · have e1 := neg_u64 a hx (by omega)
    have e2 := neg_u64 (a * 256) (by omega) (by omega)
    try simp only [e1, e2]
    clear e1 e2
    try simp (disch := omega) only [wid_u64, wid_i64, wid_i32, Int.tdiv_eq_ediv_of_nonneg, Int.tmod_eq_emod_of_nonneg, if_neg, Int.one_mul]
    try simp (disch := omega) only [wid_u64, wid_i64, wid_i32, Int.tdiv_eq_ediv_of_nonneg, Int.tmod_eq_emod_of_nonneg, if_neg, Int.one_mul]
    intros
    first | omega | skip
  · try simp (disch := omega) only [wid_u64, wid_i64, wid_i32, Int.tdiv_eq_ediv_of_nonneg, Int.tmod_eq_emod_of_nonneg, if_neg, Int.one_mul]
    try simp (disch := omega) only [wid_u64, wid_i64, wid_i32, Int.tdiv_eq_ediv_of_nonneg, Int.tmod_eq_emod_of_nonneg, if_neg, Int.one_mul]
    intros
    first | omega | skip
theorem al4_true15 (ρ : Nat → Value) : ∀ q, q ∈ al4R15 → q.1.holds ρ → q.2.truth ρ = true := by
  have ha := v_bounds ρ .i32 0
  have hb := v_bounds ρ .i32 1
  simp only [IntKind.min, IntKind.max, IntKind.bits, IntKind.signed] at ha hb
  simp only [al4R15, all_cons, all_nil, h_cons, h_nil, t_eql, t_lss, t_bool, t_and, t_not, n_int, n_add, n_sub, n_mul, n_conv, n_shr, n_and, n_quo, n_rem, n_max]
  generalize (SE.ivar .i32 0).num ρ = a at ha ⊢
  generalize (SE.ivar .i32 1).num ρ = b at hb ⊢
  simp at ha hb
  have c1 : IntKind.wrap .i64 a = a := wid_i64 a (by omega) (by omega)
  have c2 : IntKind.wrap .i64 b = b := wid_i64 b (by omega) (by omega)
  have hp := prod a b ha hb
  simp only [c1, c2, reduceIte, Bool.false_eq_true, and_true, and_imp, ne_eq]
  clear c1 c2
  generalize a * b = t at hp ⊢
  simp (disch := omega) only [wid_u64, wid_i64, Int.add_zero, Int.one_mul, Int.mul_one]
  by_cases hx : a < 0
  · have e1 := neg_u64 a hx (by omega)
    have e2 := neg_u64 (a * 256) (by omega) (by omega)
    try simp only [e1, e2]
    clear e1 e2
    try simp (disch := omega) only [wid_u64, wid_i64, wid_i32, Int.tdiv_eq_ediv_of_nonneg, Int.tmod_eq_emod_of_nonneg, if_neg, Int.one_mul]
    try simp (disch := omega) only [wid_u64, wid_i64, wid_i32, Int.tdiv_eq_ediv_of_nonneg, Int.tmod_eq_emod_of_nonneg, if_neg, Int.one_mul]
    intros
    first | omega | skip
  · try simp (disch := omega) only [wid_u64, wid_i64, wid_i32, Int.tdiv_eq_ediv_of_nonneg, Int.tmod_eq_emod_of_nonneg, if_neg, Int.one_mul]
    try simp (disch := omega) only [wid_u64, wid_i64, wid_i32, Int.tdiv_eq_ediv_of_nonneg, Int.tmod_eq_emod_of_nonneg, if_neg, Int.one_mul]
    intros
    first | omega | skip
theorem al4_true16 (ρ : Nat → Value) : ∀ q, q ∈ al4R16 → q.1.holds ρ → q.2.truth ρ = true := by
  have ha := v_bounds ρ .i32 0
  have hb := v_bounds ρ .i32 1
  simp only [IntKind.min, IntKind.max, IntKind.bits, IntKind.signed] at ha hb
  simp only [al4R16, all_cons, all_nil, h_cons, h_nil, t_eql, t_lss, t_bool, t_and, t_not, n_int, n_add, n_sub, n_mul, n_conv, n_shr, n_and, n_quo, n_rem, n_max]
  generalize (SE.ivar .i32 0).num ρ = a at ha ⊢
  generalize (SE.ivar .i32 1).num ρ = b at hb ⊢
  simp at ha hb
  have c1 : IntKind.wrap .i64 a = a := wid_i64 a (by omega) (by omega)
  have c2 : IntKind.wrap .i64 b = b := wid_i64 b (by omega) (by omega)
  have hp := prod a b ha hb
  simp only [c1, c2, reduceIte, Bool.false_eq_true, and_true, and_imp, ne_eq]
  clear c1 c2
  generalize a * b = t at hp ⊢
  simp (disch := omega) only [wid_u64, wid_i64, Int.add_zero, Int.one_mul, Int.mul_one]
  by_cases hx : a < 0
  · have e1 := neg_u64 a hx (by omega)
    have e2 := neg_u64 (a * 256) (by omega) (by omega)
    try simp only [e1, e2]
    clear e1 e2
    try simp (disch := omega) only [wid_u64, wid_i64, wid_i32, Int.tdiv_eq_ediv_of_nonneg, Int.tmod_eq_emod_of_nonneg, if_neg, Int.one_mul]
    try simp (disch := omega) only [wid_u64, wid_i64, wid_i32, Int.tdiv_eq_ediv_of_nonneg, Int.tmod_eq_emod_of_nonneg, if_neg, Int.one_mul]
    intros
    first | omega | skip
  · try simp (disch := omega) only [wid_u64, wid_i64, wid_i32, Int.tdiv_eq_ediv_of_nonneg, Int.tmod_eq_emod_of_nonneg, if_neg, Int.one_mul]
    try simp (disch := omega) only [wid_u64, wid_i64, wid_i32, Int.tdiv_eq_ediv_of_nonneg, Int.tmod_eq_emod_of_nonneg, if_neg, Int.one_mul]
    intros
    first | omega | skip
theorem al4_true17 (ρ : Nat → Value) : ∀ q, q ∈ al4R17 → q.1.holds ρ → q.2.truth ρ = true := by
  have ha := v_bounds ρ .i32 0
  have hb := v_bounds ρ .i32 1
  simp only [IntKind.min, IntKind.max, IntKind.bits, IntKind.signed] at ha hb
  simp only [al4R17, all_cons, all_nil, h_cons, h_nil, t_eql, t_lss, t_bool, t_and, t_not, n_int, n_add, n_sub, n_mul, n_conv, n_shr, n_and, n_quo, n_rem, n_max]
  generalize (SE.ivar .i32 0).num ρ = a at ha ⊢
  generalize (SE.ivar .i32 1).num ρ = b at hb ⊢
  simp at ha hb
  have c1 : IntKind.wrap .i64 a = a := wid_i64 a (by omega) (by omega)
  have c2 : IntKind.wrap .i64 b = b := wid_i64 b (by omega) (by omega)
  have hp := prod a b ha hb
  simp only [c1, c2, reduceIte, Bool.false_eq_true, and_true, and_imp, ne_eq]
  clear c1 c2
  generalize a * b = t at hp ⊢
  simp (disch := omega) only [wid_u64, wid_i64, Int.add_zero, Int.one_mul, Int.mul_one]
  by_cases hx : a < 0
  · have e1 := neg_u64 a hx (by omega)
    have e2 := neg_u64 (a * 256) (by omega) (by omega)
    try simp only [e1, e2]
    clear e1 e2
    try simp (disch := omega) only [wid_u64, wid_i64, wid_i32, Int.tdiv_eq_ediv_of_nonneg, Int.tmod_eq_emod_of_nonneg, if_neg, Int.one_mul]
    try simp (disch := omega) only [wid_u64, wid_i64, wid_i32, Int.tdiv_eq_ediv_of_nonneg, Int.tmod_eq_emod_of_nonneg, if_neg, Int.one_mul]
    intros
    first | omega | skip
  · try simp (disch := omega) only [wid_u64, wid_i64, wid_i32, Int.tdiv_eq_ediv_of_nonneg, Int.tmod_eq_emod_of_nonneg, if_neg, Int.one_mul]
    try simp (disch := omega) only [wid_u64, wid_i64, wid_i32, Int.tdiv_eq_ediv_of_nonneg, Int.tmod_eq_emod_of_nonneg, if_neg, Int.one_mul]
    intros
    first | omega | skip
theorem al4_true18 (ρ : Nat → Value) : ∀ q, q ∈ al4R18 → q.1.holds ρ → q.2.truth ρ = true := by
  have ha := v_bounds ρ .i32 0
  have hb := v_bounds ρ .i32 1
  simp only [IntKind.min, IntKind.max, IntKind.bits, IntKind.signed] at ha hb
  simp only [al4R18, all_cons, all_nil, h_cons, h_nil, t_eql, t_lss, t_bool, t_and, t_not, n_int, n_add, n_sub, n_mul, n_conv, n_shr, n_and, n_quo, n_rem, n_max]
  generalize (SE.ivar .i32 0).num ρ = a at ha ⊢
  generalize (SE.ivar .i32 1).num ρ = b at hb ⊢
  simp at ha hb
  have c1 : IntKind.wrap .i64 a = a := wid_i64 a (by omega) (by omega)
  have c2 : IntKind.wrap .i64 b = b := wid_i64 b (by omega) (by omega)
  have hp := prod a b ha hb
  simp only [c1, c2, reduceIte, Bool.false_eq_true, and_true, and_imp, ne_eq]
  clear c1 c2
  generalize a * b = t at hp ⊢
  simp (disch := omega) only [wid_u64, wid_i64, Int.add_zero, Int.one_mul, Int.mul_one]
  by_cases hx : a < 0
  · have e1 := neg_u64 a hx (by omega)
    have e2 := neg_u64 (a * 256) (by omega) (by omega)
    try simp only [e1, e2]
    clear e1 e2
    try simp (disch := omega) only [wid_u64, wid_i64, wid_i32, Int.tdiv_eq_ediv_of_nonneg, Int.tmod_eq_emod_of_nonneg, if_neg, Int.one_mul]
    try simp (disch := omega) only [wid_u64, wid_i64, wid_i32, Int.tdiv_eq_ediv_of_nonneg, Int.tmod_eq_emod_of_nonneg, if_neg, Int.one_mul]
    intros
    first | omega | skip
  · try simp (disch := omega) only [wid_u64, wid_i64, wid_i32, Int.tdiv_eq_ediv_of_nonneg, Int.tmod_eq_emod_of_nonneg, if_neg, Int.one_mul]
    try simp (disch := omega) only [wid_u64, wid_i64, wid_i32, Int.tdiv_eq_ediv_of_nonneg, Int.tmod_eq_emod_of_nonneg, if_neg, Int.one_mul]
    intros
    first | omega | skip
theorem al4_true19 (ρ : Nat → Value) : ∀ q, q ∈ al4R19 → q.1.holds ρ → q.2.truth ρ = true := by
  have ha := v_bounds ρ .i32 0
  have hb := v_bounds ρ .i32 1
  simp only [IntKind.min, IntKind.max, IntKind.bits, IntKind.signed] at ha hb
  simp only [al4R19, all_cons, all_nil, h_cons, h_nil, t_eql, t_lss, t_bool, t_and, t_not, n_int, n_add, n_sub, n_mul, n_conv, n_shr, n_and, n_quo, n_rem, n_max]
  generalize (SE.ivar .i32 0).num ρ = a at ha ⊢
  generalize (SE.ivar .i32 1).num ρ = b at hb ⊢
  simp at ha hb
  have c1 : IntKind.wrap .i64 a = a := wid_i64 a (by omega) (by omega)
  have c2 : IntKind.wrap .i64 b = b := wid_i64 b (by omega) (by omega)
  have hp := prod a b ha hb
  simp only [c1, c2, reduceIte, Bool.false_eq_true, and_true, and_imp, ne_eq]
  clear c1 c2
  generalize a * b = t at hp ⊢
  simp (disch := omega) only [wid_u64, wid_i64, Int.add_zero, Int.one_mul, Int.mul_one]
  by_cases hx : a < 0
  · have e1 := neg_u64 a hx (by omega)
    have e2 := neg_u64 (a * 256) (by omega) (by omega)
    try simp only [e1, e2]
    clear e1 e2
    try simp (disch := omega) only [wid_u64, wid_i64, wid_i32, Int.tdiv_eq_ediv_of_nonneg, Int.tmod_eq_emod_of_nonneg, if_neg, Int.one_mul]
    try simp (disch := omega) only [wid_u64, wid_i64, wid_i32, Int.tdiv_eq_ediv_of_nonneg, Int.tmod_eq_emod_of_nonneg, if_neg, Int.one_mul]
    intros
    first | omega | skip
  · try simp (disch := omega) only [wid_u64, wid_i64, wid_i32, Int.tdiv_eq_ediv_of_nonneg, Int.tmod_eq_emod_of_nonneg, if_neg, Int.one_mul]
    try simp (disch := omega) only [wid_u64, wid_i64, wid_i32, Int.tdiv_eq_ediv_of_nonneg, Int.tmod_eq_emod_of_nonneg, if_neg, Int.one_mul]
    intros
    first | omega | skip
theorem al4_true20 (ρ : Nat → Value) : ∀ q, q ∈ al4R20 → q.1.holds ρ → q.2.truth ρ = true := by
  have ha := v_bounds ρ .i32 0
  have hb := v_bounds ρ .i32 1
  simp only [IntKind.min, IntKind.max, IntKind.bits, IntKind.signed] at ha hb
  simp only [al4R20, all_cons, all_nil, h_cons, h_nil, t_eql, t_lss, t_bool, t_and, t_not, n_int, n_add, n_sub, n_mul, n_conv, n_shr, n_and, n_quo, n_rem, n_max]
  generalize (SE.ivar .i32 0).num ρ = a at ha ⊢
  generalize (SE.ivar .i32 1).num ρ = b at hb ⊢
  simp at ha hb
  have c1 : IntKind.wrap .i64 a = a := wid_i64 a (by omega) (by omega)
  have c2 : IntKind.wrap .i64 b = b := wid_i64 b (by omega) (by omega)
  have hp := prod a b ha hb
  simp only [c1, c2, reduceIte, Bool.false_eq_true, and_true, and_imp, ne_eq]
  clear c1 c2
  generalize a * b = t at hp ⊢
  simp (disch := omega) only [wid_u64, wid_i64, Int.add_zero, Int.one_mul, Int.mul_one]
  by_cases hx : a < 0
  · have e1 := neg_u64 a hx (by omega)
    have e2 := neg_u64 (a * 256) (by omega) (by omega)
    try simp only [e1, e2]
    clear e1 e2
    try simp (disch := omega) only [wid_u64, wid_i64, wid_i32, Int.tdiv_eq_ediv_of_nonneg, Int.tmod_eq_emod_of_nonneg, if_neg, Int.one_mul]
    try simp (disch := omega) only [wid_u64, wid_i64, wid_i32, Int.tdiv_eq_ediv_of_nonneg, Int.tmod_eq_emod_of_nonneg, if_neg, Int.one_mul]
    intros
    first | omega | skip
  · try simp (disch := omega) only [wid_u64, wid_i64, wid_i32, Int.tdiv_eq_ediv_of_nonneg, Int.tmod_eq_emod_of_nonneg, if_neg, Int.one_mul]
    try simp (disch := omega) only [wid_u64, wid_i64, wid_i32, Int.tdiv_eq_ediv_of_nonneg, Int.tmod_eq_emod_of_nonneg, if_neg, Int.one_mul]
    intros
    first | omega | skip
theorem al4_true21 (ρ : Nat → Value) : ∀ q, q ∈ al4R21 → q.1.holds ρ → q.2.truth ρ = true := by
  have ha := v_bounds ρ .i32 0
  have hb := v_bounds ρ .i32 1
  simp only [IntKind.min, IntKind.max, IntKind.bits, IntKind.signed] at ha hb
  simp only [al4R21, all_cons, all_nil, h_cons, h_nil, t_eql, t_lss, t_bool, t_and, t_not, n_int, n_add, n_sub, n_mul, n_conv, n_shr, n_and, n_quo, n_rem, n_max]
  generalize (SE.ivar .i32 0).num ρ = a at ha ⊢
  generalize (SE.ivar .i32 1).num ρ = b at hb ⊢
  simp at ha hb
  have c1 : IntKind.wrap .i64 a = a := wid_i64 a (by omega) (by omega)
  have c2 : IntKind.wrap .i64 b = b := wid_i64 b (by omega) (by omega)
  have hp := prod a b ha hb
  simp only [c1, c2, reduceIte, Bool.false_eq_true, and_true, and_imp, ne_eq]
  clear c1 c2
  generalize a * b = t at hp ⊢
  simp (disch := omega) only [wid_u64, wid_i64, Int.add_zero, Int.one_mul, Int.mul_one]
  by_cases hx : a < 0
  · have e1 := neg_u64 a hx (by omega)
    have e2 := neg_u64 (a * 256) (by omega) (by omega)
    try simp only [e1, e2]
    clear e1 e2
    try simp (disch := omega) only [wid_u64, wid_i64, wid_i32, Int.tdiv_eq_ediv_of_nonneg, Int.tmod_eq_emod_of_nonneg, if_neg, Int.one_mul]
    try simp (disch := omega) only [wid_u64, wid_i64, wid_i32, Int.tdiv_eq_ediv_of_nonneg, Int.tmod_eq_emod_of_nonneg, if_neg, Int.one_mul]
    intros
    first | omega | skip
  · try simp (disch := omega) only [wid_u64, wid_i64, wid_i32, Int.tdiv_eq_ediv_of_nonneg, Int.tmod_eq_emod_of_nonneg, if_neg, Int.one_mul]
    try simp (disch := omega) only [wid_u64, wid_i64, wid_i32, Int.tdiv_eq_ediv_of_nonneg, Int.tmod_eq_emod_of_nonneg, if_neg, Int.one_mul]
    intros
    first | omega | skip
theorem al4_true22 (ρ : Nat → Value) : ∀ q, q ∈ al4R22 → q.1.holds ρ → q.2.truth ρ = true := by
  have ha := v_bounds ρ .i32 0
  have hb := v_bounds ρ .i32 1
  simp only [IntKind.min, IntKind.max, IntKind.bits, IntKind.signed] at ha hb
  simp only [al4R22, all_cons, all_nil, h_cons, h_nil, t_eql, t_lss, t_bool, t_and, t_not, n_int, n_add, n_sub, n_mul, n_conv, n_shr, n_and, n_quo, n_rem, n_max]
  generalize (SE.ivar .i32 0).num ρ = a at ha ⊢
  generalize (SE.ivar .i32 1).num ρ = b at hb ⊢
  simp at ha hb
  have c1 : IntKind.wrap .i64 a = a := wid_i64 a (by omega) (by omega)
  have c2 : IntKind.wrap .i64 b = b := wid_i64 b (by omega) (by omega)
  have hp := prod a b ha hb
  simp only [c1, c2, reduceIte, Bool.false_eq_true, and_true, and_imp, ne_eq]
  clear c1 c2
  generalize a * b = t at hp ⊢
  simp (disch := omega) only [wid_u64, wid_i64, Int.add_zero, Int.one_mul, Int.mul_one]
  by_cases hx : a < 0
  · have e1 := neg_u64 a hx (by omega)
    have e2 := neg_u64 (a * 256) (by omega) (by omega)
    try simp only [e1, e2]
    clear e1 e2
    try simp (disch := omega) only [wid_u64, wid_i64, wid_i32, Int.tdiv_eq_ediv_of_nonneg, Int.tmod_eq_emod_of_nonneg, if_neg, Int.one_mul]
    try simp (disch := omega) only [wid_u64, wid_i64, wid_i32, Int.tdiv_eq_ediv_of_nonneg, Int.tmod_eq_emod_of_nonneg, if_neg, Int.one_mul]
    intros
    first | omega | skip
  · try simp (disch := omega) only [wid_u64, wid_i64, wid_i32, Int.tdiv_eq_ediv_of_nonneg, Int.tmod_eq_emod_of_nonneg, if_neg, Int.one_mul]
    try simp (disch := omega) only [wid_u64, wid_i64, wid_i32, Int.tdiv_eq_ediv_of_nonneg, Int.tmod_eq_emod_of_nonneg, if_neg, Int.one_mul]
    intros
    first | omega | skip
theorem al4_true23 (ρ : Nat → Value) : ∀ q, q ∈ al4R23 → q.1.holds ρ → q.2.truth ρ = true := by
  have ha := v_bounds ρ .i32 0
  have hb := v_bounds ρ .i32 1
  simp only [IntKind.min, IntKind.max, IntKind.bits, IntKind.signed] at ha hb
  simp only [al4R23, all_cons, all_nil, h_cons, h_nil, t_eql, t_lss, t_bool, t_and, t_not, n_int, n_add, n_sub, n_mul, n_conv, n_shr, n_and, n_quo, n_rem, n_max]
  generalize (SE.ivar .i32 0).num ρ = a at ha ⊢
  generalize (SE.ivar .i32 1).num ρ = b at hb ⊢
  simp at ha hb
  have c1 : IntKind.wrap .i64 a = a := wid_i64 a (by omega) (by omega)
  have c2 : IntKind.wrap .i64 b = b := wid_i64 b (by omega) (by omega)
  have hp := prod a b ha hb
  simp only [c1, c2, reduceIte, Bool.false_eq_true, and_true, and_imp, ne_eq]
  clear c1 c2
  generalize a * b = t at hp ⊢
  simp (disch := omega) only [wid_u64, wid_i64, Int.add_zero, Int.one_mul, Int.mul_one]
  by_cases hx : a < 0
  · have e1 := neg_u64 a hx (by omega)
    have e2 := neg_u64 (a * 256) (by omega) (by omega)
    try simp only [e1, e2]
    clear e1 e2
    try simp (disch := omega) only [wid_u64, wid_i64, wid_i32, Int.tdiv_eq_ediv_of_nonneg, Int.tmod_eq_emod_of_nonneg, if_neg, Int.one_mul]
    try simp (disch := omega) only [wid_u64, wid_i64, wid_i32, Int.tdiv_eq_ediv_of_nonneg, Int.tmod_eq_emod_of_nonneg, if_neg, Int.one_mul]
    intros
    first | omega | skip
  · try simp (disch := omega) only [wid_u64, wid_i64, wid_i32, Int.tdiv_eq_ediv_of_nonneg, Int.tmod_eq_emod_of_nonneg, if_neg, Int.one_mul]
    try simp (disch := omega) only [wid_u64, wid_i64, wid_i32, Int.tdiv_eq_ediv_of_nonneg, Int.tmod_eq_emod_of_nonneg, if_neg, Int.one_mul]
    intros
    first | omega | skip
theorem al4_true24 (ρ : Nat → Value) : ∀ q, q ∈ al4R24 → q.1.holds ρ → q.2.truth ρ = true := by
  have ha := v_bounds ρ .i32 0
  have hb := v_bounds ρ .i32 1
  simp only [IntKind.min, IntKind.max, IntKind.bits, IntKind.signed] at ha hb
  simp only [al4R24, all_cons, all_nil, h_cons, h_nil, t_eql, t_lss, t_bool, t_and, t_not, n_int, n_add, n_sub, n_mul, n_conv, n_shr, n_and, n_quo, n_rem, n_max]
  generalize (SE.ivar .i32 0).num ρ = a at ha ⊢
  generalize (SE.ivar .i32 1).num ρ = b at hb ⊢
  simp at ha hb
  have c1 : IntKind.wrap .i64 a = a := wid_i64 a (by omega) (by omega)
  have c2 : IntKind.wrap .i64 b = b := wid_i64 b (by omega) (by omega)
  have hp := prod a b ha hb
  simp only [c1, c2, reduceIte, Bool.false_eq_true, and_true, and_imp, ne_eq]
  clear c1 c2
  generalize a * b = t at hp ⊢
  simp (disch := omega) only [wid_u64, wid_i64, Int.add_zero, Int.one_mul, Int.mul_one]
  by_cases hx : a < 0
  · have e1 := neg_u64 a hx (by omega)
    have e2 := neg_u64 (a * 256) (by omega) (by omega)
    try simp only [e1, e2]
    clear e1 e2
    try simp (disch := omega) only [wid_u64, wid_i64, wid_i32, Int.tdiv_eq_ediv_of_nonneg, Int.tmod_eq_emod_of_nonneg, if_neg, Int.one_mul]
    try simp (disch := omega) only [wid_u64, wid_i64, wid_i32, Int.tdiv_eq_ediv_of_nonneg, Int.tmod_eq_emod_of_nonneg, if_neg, Int.one_mul]
    intros
    first | omega | skip
  · try simp (disch := omega) only [wid_u64, wid_i64, wid_i32, Int.tdiv_eq_ediv_of_nonneg, Int.tmod_eq_emod_of_nonneg, if_neg, Int.one_mul]
    try simp (disch := omega) only [wid_u64, wid_i64, wid_i32, Int.tdiv_eq_ediv_of_nonneg, Int.tmod_eq_emod_of_nonneg, if_neg, Int.one_mul]
    intros
    first | omega | skip
theorem al4_true25 (ρ : Nat → Value) : ∀ q, q ∈ al4R25 → q.1.holds ρ → q.2.truth ρ = true := by
  have ha := v_bounds ρ .i32 0
  have hb := v_bounds ρ .i32 1
  simp only [IntKind.min, IntKind.max, IntKind.bits, IntKind.signed] at ha hb
  simp only [al4R25, all_cons, all_nil, h_cons, h_nil, t_eql, t_lss, t_bool, t_and, t_not, n_int, n_add, n_sub, n_mul, n_conv, n_shr, n_and, n_quo, n_rem, n_max]
  generalize (SE.ivar .i32 0).num ρ = a at ha ⊢
  generalize (SE.ivar .i32 1).num ρ = b at hb ⊢
  simp at ha hb
  have c1 : IntKind.wrap .i64 a = a := wid_i64 a (by omega) (by omega)
  have c2 : IntKind.wrap .i64 b = b := wid_i64 b (by omega) (by omega)
  have hp := prod a b ha hb
  simp only [c1, c2, reduceIte, Bool.false_eq_true, and_true, and_imp, ne_eq]
  clear c1 c2
  generalize a * b = t at hp ⊢
  simp (disch := omega) only [wid_u64, wid_i64, Int.add_zero, Int.one_mul, Int.mul_one]
  by_cases hx : a < 0
  · have e1 := neg_u64 a hx (by omega)
    have e2 := neg_u64 (a * 256) (by omega) (by omega)
    try simp only [e1, e2]
    clear e1 e2
    try simp (disch := omega) only [wid_u64, wid_i64, wid_i32, Int.tdiv_eq_ediv_of_nonneg, Int.tmod_eq_emod_of_nonneg, if_neg, Int.one_mul]
    try simp (disch := omega) only [wid_u64, wid_i64, wid_i32, Int.tdiv_eq_ediv_of_nonneg, Int.tmod_eq_emod_of_nonneg, if_neg, Int.one_mul]
    intros
    first | omega | skip
  · try simp (disch := omega) only [wid_u64, wid_i64, wid_i32, Int.tdiv_eq_ediv_of_nonneg, Int.tmod_eq_emod_of_nonneg, if_neg, Int.one_mul]
    try simp (disch := omega) only [wid_u64, wid_i64, wid_i32, Int.tdiv_eq_ediv_of_nonneg, Int.tmod_eq_emod_of_nonneg, if_neg, Int.one_mul]
    intros
    first | omega | skip
theorem al4_true26 (ρ : Nat → Value) : ∀ q, q ∈ al4R26 → q.1.holds ρ → q.2.truth ρ = true := by
  have ha := v_bounds ρ .i32 0
  have hb := v_bounds ρ .i32 1
  simp only [IntKind.min, IntKind.max, IntKind.bits, IntKind.signed] at ha hb
  simp only [al4R26, all_cons, all_nil, h_cons, h_nil, t_eql, t_lss, t_bool, t_and, t_not, n_int, n_add, n_sub, n_mul, n_conv, n_shr, n_and, n_quo, n_rem, n_max]
  generalize (SE.ivar .i32 0).num ρ = a at ha ⊢
  generalize (SE.ivar .i32 1).num ρ = b at hb ⊢
  simp at ha hb
  have c1 : IntKind.wrap .i64 a = a := wid_i64 a (by omega) (by omega)
  have c2 : IntKind.wrap .i64 b = b := wid_i64 b (by omega) (by omega)
  have hp := prod a b ha hb
  simp only [c1, c2, reduceIte, Bool.false_eq_true, and_true, and_imp, ne_eq]
  clear c1 c2
  generalize a * b = t at hp ⊢
  simp (disch := omega) only [wid_u64, wid_i64, Int.add_zero, Int.one_mul, Int.mul_one]
  by_cases hx : a < 0
  · have e1 := neg_u64 a hx (by omega)
    have e2 := neg_u64 (a * 256) (by omega) (by omega)
    try simp only [e1, e2]
    clear e1 e2
    try simp (disch := omega) only [wid_u64, wid_i64, wid_i32, Int.tdiv_eq_ediv_of_nonneg, Int.tmod_eq_emod_of_nonneg, if_neg, Int.one_mul]
    try simp (disch := omega) only [wid_u64, wid_i64, wid_i32, Int.tdiv_eq_ediv_of_nonneg, Int.tmod_eq_emod_of_nonneg, if_neg, Int.one_mul]
    intros
    first | omega | skip
  · try simp (disch := omega) only [wid_u64, wid_i64, wid_i32, Int.tdiv_eq_ediv_of_nonneg, Int.tmod_eq_emod_of_nonneg, if_neg, Int.one_mul]
    try simp (disch := omega) only [wid_u64, wid_i64, wid_i32, Int.tdiv_eq_ediv_of_nonneg, Int.tmod_eq_emod_of_nonneg, if_neg, Int.one_mul]
    intros
    first | omega | skip
theorem al4_true27 (ρ : Nat → Value) : ∀ q, q ∈ al4R27 → q.1.holds ρ → q.2.truth ρ = true := by
  have ha := v_bounds ρ .i32 0
  have hb := v_bounds ρ .i32 1
  simp only [IntKind.min, IntKind.max, IntKind.bits, IntKind.signed] at ha hb
  simp only [al4R27, all_cons, all_nil, h_cons, h_nil, t_eql, t_lss, t_bool, t_and, t_not, n_int, n_add, n_sub, n_mul, n_conv, n_shr, n_and, n_quo, n_rem, n_max]
  generalize (SE.ivar .i32 0).num ρ = a at ha ⊢
  generalize (SE.ivar .i32 1).num ρ = b at hb ⊢
  simp at ha hb
  have c1 : IntKind.wrap .i64 a = a := wid_i64 a (by omega) (by omega)
  have c2 : IntKind.wrap .i64 b = b := wid_i64 b (by omega) (by omega)
  have hp := prod a b ha hb
  simp only [c1, c2, reduceIte, Bool.false_eq_true, and_true, and_imp, ne_eq]
  clear c1 c2
  generalize a * b = t at hp ⊢
  simp (disch := omega) only [wid_u64, wid_i64, Int.add_zero, Int.one_mul, Int.mul_one]
  by_cases hx : a < 0
  · have e1 := neg_u64 a hx (by omega)
    have e2 := neg_u64 (a * 256) (by omega) (by omega)
    try simp only [e1, e2]
    clear e1 e2
    try simp (disch := omega) only [wid_u64, wid_i64, wid_i32, Int.tdiv_eq_ediv_of_nonneg, Int.tmod_eq_emod_of_nonneg, if_neg, Int.one_mul]
    try simp (disch := omega) only [wid_u64, wid_i64, wid_i32, Int.tdiv_eq_ediv_of_nonneg, Int.tmod_eq_emod_of_nonneg, if_neg, Int.one_mul]
    intros
    first | omega | skip
  · try simp (disch := omega) only [wid_u64, wid_i64, wid_i32, Int.tdiv_eq_ediv_of_nonneg, Int.tmod_eq_emod_of_nonneg, if_neg, Int.one_mul]
    try simp (disch := omega) only [wid_u64, wid_i64, wid_i32, Int.tdiv_eq_ediv_of_nonneg, Int.tmod_eq_emod_of_nonneg, if_neg, Int.one_mul]
    intros
    first | omega | skip
theorem al4_true28 (ρ : Nat → Value) : ∀ q, q ∈ al4R28 → q.1.holds ρ → q.2.truth ρ = true := by
  have ha := v_bounds ρ .i32 0
  have hb := v_bounds ρ .i32 1
  simp only [IntKind.min, IntKind.max, IntKind.bits, IntKind.signed] at ha hb
  simp only [al4R28, all_cons, all_nil, h_cons, h_nil, t_eql, t_lss, t_bool, t_and, t_not, n_int, n_add, n_sub, n_mul, n_conv, n_shr, n_and, n_quo, n_rem, n_max]
  generalize (SE.ivar .i32 0).num ρ = a at ha ⊢
  generalize (SE.ivar .i32 1).num ρ = b at hb ⊢
  simp at ha hb
  have c1 : IntKind.wrap .i64 a = a := wid_i64 a (by omega) (by omega)
  have c2 : IntKind.wrap .i64 b = b := wid_i64 b (by omega) (by omega)
  have hp := prod a b ha hb
  simp only [c1, c2, reduceIte, Bool.false_eq_true, and_true, and_imp, ne_eq]
  clear c1 c2
  generalize a * b = t at hp ⊢
  simp (disch := omega) only [wid_u64, wid_i64, Int.add_zero, Int.one_mul, Int.mul_one]
  by_cases hx : a < 0
  · have e1 := neg_u64 a hx (by omega)
    have e2 := neg_u64 (a * 256) (by omega) (by omega)
    try simp only [e1, e2]
    clear e1 e2
    try simp (disch := omega) only [wid_u64, wid_i64, wid_i32, Int.tdiv_eq_ediv_of_nonneg, Int.tmod_eq_emod_of_nonneg, if_neg, Int.one_mul]
    try simp (disch := omega) only [wid_u64, wid_i64, wid_i32, Int.tdiv_eq_ediv_of_nonneg, Int.tmod_eq_emod_of_nonneg, if_neg, Int.one_mul]
    intros
    first | omega | skip
  · try simp (disch := omega) only [wid_u64, wid_i64, wid_i32, Int.tdiv_eq_ediv_of_nonneg, Int.tmod_eq_emod_of_nonneg, if_neg, Int.one_mul]
    try simp (disch := omega) only [wid_u64, wid_i64, wid_i32, Int.tdiv_eq_ediv_of_nonneg, Int.tmod_eq_emod_of_nonneg, if_neg, Int.one_mul]
    intros
    first | omega | skip
theorem al4_true29 (ρ : Nat → Value) : ∀ q, q ∈ al4R29 → q.1.holds ρ → q.2.truth ρ = true := by
  have ha := v_bounds ρ .i32 0
  have hb := v_bounds ρ .i32 1
  simp only [IntKind.min, IntKind.max, IntKind.bits, IntKind.signed] at ha hb
  simp only [al4R29, all_cons, all_nil, h_cons, h_nil, t_eql, t_lss, t_bool, t_and, t_not, n_int, n_add, n_sub, n_mul, n_conv, n_shr, n_and, n_quo, n_rem, n_max]
  generalize (SE.ivar .i32 0).num ρ = a at ha ⊢
  generalize (SE.ivar .i32 1).num ρ = b at hb ⊢
  simp at ha hb
  have c1 : IntKind.wrap .i64 a = a := wid_i64 a (by omega) (by omega)
  have c2 : IntKind.wrap .i64 b = b := wid_i64 b (by omega) (by omega)
  have hp := prod a b ha hb
  simp only [c1, c2, reduceIte, Bool.false_eq_true, and_true, and_imp, ne_eq]
  clear c1 c2
  generalize a * b = t at hp ⊢
  simp (disch := omega) only [wid_u64, wid_i64, Int.add_zero, Int.one_mul, Int.mul_one]
  by_cases hx : a < 0
  · have e1 := neg_u64 a hx (by omega)
    have e2 := neg_u64 (a * 256) (by omega) (by omega)
    try simp only [e1, e2]
    clear e1 e2
    try simp (disch := omega) only [wid_u64, wid_i64, wid_i32, Int.tdiv_eq_ediv_of_nonneg, Int.tmod_eq_emod_of_nonneg, if_neg, Int.one_mul]
    try simp (disch := omega) only [wid_u64, wid_i64, wid_i32, Int.tdiv_eq_ediv_of_nonneg, Int.tmod_eq_emod_of_nonneg, if_neg, Int.one_mul]
    intros
    first | omega | skip
  · try simp (disch := omega) only [wid_u64, wid_i64, wid_i32, Int.tdiv_eq_ediv_of_nonneg, Int.tmod_eq_emod_of_nonneg, if_neg, Int.one_mul]
    try simp (disch := omega) only [wid_u64, wid_i64, wid_i32, Int.tdiv_eq_ediv_of_nonneg, Int.tmod_eq_emod_of_nonneg, if_neg, Int.one_mul]
    intros
    first | omega | skip
theorem al4_true (ρ : Nat → Value) : ∀ q, q ∈ al4R → q.1.holds ρ → q.2.truth ρ = true := by
  intro q h
  simp only [al4R, List.mem_append] at h
  rcases h with h | h | h | h | h | h | h | h | h | h | h | h | h | h | h | h | h | h | h | h | h | h | h | h | h | h | h | h | h | h
  · exact al4_true0 ρ q h
  · exact al4_true1 ρ q h
  · exact al4_true2 ρ q h
  · exact al4_true3 ρ q h
  · exact al4_true4 ρ q h
  · exact al4_true5 ρ q h
  · exact al4_true6 ρ q h
  · exact al4_true7 ρ q h
  · exact al4_true8 ρ q h
  · exact al4_true9 ρ q h
  · exact al4_true10 ρ q h
  · exact al4_true11 ρ q h
  · exact al4_true12 ρ q h
  · exact al4_true13 ρ q h
  · exact al4_true14 ρ q h
  · exact al4_true15 ρ q h
  · exact al4_true16 ρ q h
  · exact al4_true17 ρ q h
  · exact al4_true18 ρ q h
  · exact al4_true19 ρ q h
  · exact al4_true20 ρ q h
  · exact al4_true21 ρ q h
  · exact al4_true22 ρ q h
  · exact al4_true23 ρ q h
  · exact al4_true24 ρ q h
  · exact al4_true25 ρ q h
  · exact al4_true26 ρ q h
  · exact al4_true27 ρ q h
  · exact al4_true28 ρ q h
  · exact al4_true29 ρ q h
end Go.Proofs.YtdblaloadklcfabDoor
