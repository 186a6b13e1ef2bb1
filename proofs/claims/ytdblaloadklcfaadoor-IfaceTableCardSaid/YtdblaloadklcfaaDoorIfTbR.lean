/- IfaceTable: what the runs share. -/
import Derived.Test.YtdblaloadklcfaaDoorIfC
set_option linter.unusedVariables false
namespace Go.Proofs.YtdblaloadklcfaaDoor
open Go.Sx
noncomputable section

/-- The tables, with what is dead when the name is chosen: the paths of the second index meet there. -/
def tbT : Tb := { tb with dead := fun k => if Nat.beq k 1048585 then [28, 29, 30, 31, 32, 33, 34, 35, 36, 37, 38, 39, 40, 41, 42, 43, 44, 45, 46, 47, 48, 49, 50] else [] }
def wE : SE := .bin .rem .i64 (.conv .i64 (.ivar .u8 1)) (.int .i64 15)
def xE : SE := .bin .rem .i64 (.conv .i64 (.ivar .u8 2)) (.int .i64 14)
def pcX (i x : Nat) : PC := addPC (.cmp .eql wE (.int .i64 (.ofNat i))) true (addPC (.cmp .eql xE (.int .i64 (.ofNat x))) true [])
def pcY (i k : Nat) : PC := addPC (.cmp .eql wE (.int .i64 (.ofNat i))) true (addPC (.cmp .lss xE (.int .i64 (.ofNat k))) false [])
def args3 : List V := [.sym (.int .u8) (.ivar .u8 1), .sym (.int .u8) (.ivar .u8 2), .sym (.int .u8) (.ivar .u8 3)]
def runT (ρ : Nat → Value) (pc : PC) : Bool := allTrue (callF kn Tryd.prog (tbT.atS ρ noSp noLp) 300 300 pc 10 args3 H0)
theorem exampleT (ρ : Nat → Value) : isTrue (callX Tryd.prog (tbT.atS ρ noSp noLp) 300 13 [] H0) = true := by kernel_rfl
end
end Go.Proofs.YtdblaloadklcfaaDoor
