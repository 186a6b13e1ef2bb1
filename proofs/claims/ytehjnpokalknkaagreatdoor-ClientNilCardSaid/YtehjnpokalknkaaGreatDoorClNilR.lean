/- ClientNil: the run. -/
import Derived.Test.YtehjnpokalknkaaGreatDoorClB
set_option linter.unusedVariables false
namespace Go.Proofs.YtehjnpokalknkaaGreatDoor
open Go.Sx

theorem run_nil (i0 i2 i3 i5 i7 i8 i9 : Int) (b1 b4 : Bool) (e1 e4 : List (List V)) (t1 t4 : Tok) (s : ByteArray) : isTrue (callX Tryz.prog tb 300 7 [.agg [.val (.int .i64 i0), .list b1 e1 t1, .val (.int .u32 i2), .val (.int .i64 i3), .list b4 e4 t4, .val (.int .u32 i5), .val (.string s), .val (.int .i64 i7), .val (.int .i64 i8), .val (.int .i64 i9)]] H0) = true := by kernel_rfl
end Go.Proofs.YtehjnpokalknkaaGreatDoor
