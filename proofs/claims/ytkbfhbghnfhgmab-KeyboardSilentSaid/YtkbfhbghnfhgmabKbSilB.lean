/- KeyboardSilent: what its proofs share. -/
import Derived.Test.YtkbfhbghnfhgmabSx24
import Derived.Test.YtkbfhbghnfhgmabProg
set_option linter.unusedVariables false
namespace Go.Proofs.Ytkbfhbghnfhgmab
open Go.Sx

noncomputable def tb : Tb := tbOf Try.funcs.toList Try.types.toList
def kn (f : Nat) : Option V := if f == 9 then some (.val (.bool true)) else none
def ys : List V := [.agg [.sym (.int .u8) (.ivar .u8 0), .sym (.int .u8) (.ivar .u8 1), .sym (.int .i64) (.ivar .i64 2), .sym (.int .i64) (.ivar .i64 3)]]
def pc (a b : Int) : PC := [(.cmp .eql (.bin .rem .u8 (.ivar .u8 0) (.int .u8 5)) (.int .u8 a), true), (.cmp .eql (.bin .rem .u8 (.ivar .u8 1) (.int .u8 5)) (.int .u8 b), true)]
end Go.Proofs.Ytkbfhbghnfhgmab
