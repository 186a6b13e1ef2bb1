/- ServerNil: the law's run, the chapter's examples known. -/
import Derived.Test.YtbljlecphocmhaaGreatDoorSvEx
set_option linter.unusedVariables false
namespace Go.Proofs.YtbljlecphocmhaaGreatDoor
open Go.Sx

def reqV (k0 k1 k2 k3 k4 k5 k6 : Int) (b7 b8 b9 : Bool) (e7 e8 e9 : List (List V)) (t7 t8 t9 : Tok) : V :=
  .agg [.val (.int .i64 k0), .val (.int .i64 k1), .val (.int .i64 k2), .val (.int .i64 k3), .val (.int .i64 k4), .val (.int .i64 k5), .val (.int .u32 k6), .list b7 e7 t7, .list b8 e8 t8, .list b9 e9 t9]
def inpV (k0 k1 k2 k3 k4 k5 : Int) : V := .agg [.val (.int .i64 k0), .val (.int .i64 k1), .val (.int .i64 k2), .val (.int .i64 k3), .val (.int .i64 k4), .val (.int .i64 k5)]
def outV (s : ByteArray) (k1 k2 k3 k4 k5 k6 k7 : Int) : V := .agg [.val (.string s), .val (.int .i64 k1), .val (.int .i64 k2), .val (.int .i64 k3), .val (.int .i64 k4), .val (.int .i64 k5), .val (.int .i64 k6), .val (.int .i64 k7)]

theorem run_law (k0 k1 k2 k3 k4 k5 k6 : Int) (b7 b8 b9 : Bool) (e7 e8 e9 : List (List V)) (t7 t8 t9 : Tok) (j0 j1 j2 j3 j4 j5 : Int) (s : ByteArray) (l1 l2 l3 l4 l5 l6 l7 : Int) (i : Int) :
    allTrue (callF kn Tryz.prog tb 600 300 [] 3 [reqV k0 k1 k2 k3 k4 k5 k6 b7 b8 b9 e7 e8 e9 t7 t8 t9, inpV j0 j1 j2 j3 j4 j5, outV s l1 l2 l3 l4 l5 l6 l7, .val (.int .i64 i)] H0) = true := by kernel_rfl
end Go.Proofs.YtbljlecphocmhaaGreatDoor
