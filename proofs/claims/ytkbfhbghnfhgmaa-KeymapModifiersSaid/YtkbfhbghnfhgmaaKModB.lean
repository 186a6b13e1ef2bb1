/- KeymapModifiers: what its proofs share. -/
import Derived.Test.YtkbfhbghnfhgmaaSx24
import Derived.Test.YtkbfhbghnfhgmaaProg
set_option linter.unusedVariables false
namespace Go.Proofs.Ytkbfhbghnfhgmaa
open Go.Sx

noncomputable def tb : Tb := tbOf Try.funcs.toList Try.types.toList
def kn (f : Nat) : Option V := if f == 10 then some (.val (.bool true)) else none
def ys : List V := [.agg [.sym (.int .i64) (.ivar .i64 0), .sym (.int .i64) (.ivar .i64 1), .sym (.int .i64) (.ivar .i64 2), .sym (.int .i64) (.ivar .i64 3)], .sym (.int .u8) (.ivar .u8 4)]
/-- The number of layouts less one, and the layout's remainder. -/
def pc (j r : Int) : PC := [(.cmp .eql (.bin .rem .i64 (.ivar .i64 3) (.int .i64 (j + 1))) (.int .i64 r), true), (.cmp .eql (.bin .rem .u8 (.ivar .u8 4) (.int .u8 4)) (.int .u8 j), true)]
end Go.Proofs.Ytkbfhbghnfhgmaa
