/- The reference's Parse: its loops and its paths. -/
import Derived.Test.YtkjfpjammlihpaaDoorFxWi
set_option linter.unusedVariables false
set_option linter.unusedSimpArgs false
namespace Go.Proofs.YtkjfpjammlihpaaDoor
open Go.Sx Go.ChangeShapes Go.WideShapes Go.ChangeAt Go.RowKit Go.Dec
noncomputable section

def subW : SE := .sub (.svar 1) (.int .i64 0) (.ivar .i64 9)
def subP : SE := .sub (.svar 1) (.bin .add .i64 (.ivar .i64 9) (.int .i64 1)) (.len (.svar 1))
def subN : SE := .sub (.svar 0) (.int .i64 1) (.len (.svar 0))
def eNx (e : SE) (b : Nat) : Entry := { f := 37, args := [.sym .str e], res := .sym .bool (.and (.bvar b) (.cmp .lss (.int .i64 0) (.len e))) }
def sumA : SE := .bin .add .u64 (.bin .quo .u64 (.ivar .u64 13) (.int .u64 390625)) (.bin .mul .u64 (.ivar .u64 16) (.int .u64 256))
def sumB : SE := .bin .add .u64 (.int .u64 0) (.bin .mul .u64 (.ivar .u64 16) (.int .u64 256))
def firstE : SE := .cmp .eql (.byte (.svar 0) (.int .i64 0)) (.int .u8 45)
def bV (b : Bool) : V := .sym .bool firstE
def eFa (b : Bool) : Entry := { f := 38, args := [bV b, .sym (.int .u64) sumA], res := .tuple [jv 17, iv 18] }
def eFb (b : Bool) : Entry := { f := 38, args := [bV b, .sym (.int .u64) sumB], res := .tuple [jv 19, iv 20] }
def spX (b : Bool) : Sp := spOf [eNx subW 6, eNx subP 8, eFa b, eFb b]
def tbX : Tb := tbO fun f => Nat.beq f 15
def rests (b : Bool) : List (Nat × V) := [(0, xv 1), (2, .val (.int .i32 0)), (3, .val (.int .i64 0)), (4, bV b)]
def bodyX (i : Nat) : Code := match (tb.func 15).bind fun fn => fn.body with
  | some c => (loopsOf c).getD i .skip
  | none => .skip

/-! ### The search for the point -/
def rest0 (b : Bool) : List (Nat × V) := rests b ++ tops ((List.range 22).map fun j => 12 + j)
def hd0 (b : Bool) : St := { env := mkE (rest0 b ++ [(5, iv 10)]), h := H0 }
def ex0 (b : Bool) : Env := mkE (rest0 b ++ [(5, iv 9)])
def D0 (b : Bool) : LoopD := { hd := hd0 b, ts := [5], outs := [(.exit 0, ex0 b, [5])] }
def S0 (n : Nat) : Bool := Nat.ble n 9 || Nat.ble 11 n
def pcX0 : PC := addPC (.cmp .leq (.int .i64 0) (.ivar .i64 10)) true []
def rn0 (b : Bool) (r : Nat → Value) := sums S0 (D0 b) (execF kn0 (callF kn0 Tryd.prog (tbX.atS r (spX b) noLp) 300 300) Tryd.prog (tbX.atS r (spX b) noLp) 300 (.code (bodyX 0)) pcX0 (D0 b).hd)
/-! ### The fraction's eight rounds -/
def rest2 (b : Bool) : List (Nat × V) := rests b ++ [(5, iv 9), (6, .sym .str subW), (7, xv 4)] ++ tops ([10, 11] ++ (List.range 86).map fun j => 12 + j)
def hd2 (b : Bool) : St := { env := mkE (rest2 b ++ [(8, uv 11), (9, iv 12)]), h := H0 }
def ex2 (b : Bool) : Env := mkE (rest2 b ++ [(8, uv 13), (9, .top)])
def D2 (b : Bool) : LoopD := { hd := hd2 b, ts := [8, 9], outs := [(.exit 2, ex2 b, [8])] }
def S2 (n : Nat) : Bool := Nat.ble n 10 || Nat.ble 13 n
def pcX2 : PC := addPC (.cmp .leq (.int .i64 0) (.ivar .i64 12)) true []
def rn2 (b : Bool) (r : Nat → Value) := sums S2 (D2 b) (execF kn0 (callF kn0 Tryd.prog (tbX.atS r (spX b) noLp) 300 300) Tryd.prog (tbX.atS r (spX b) noLp) 300 (.code (bodyX 1)) pcX2 (D2 b).hd)
/-! ### The whole number -/
def rest4 (b : Bool) (v : V) : List (Nat × V) := rests b ++ [(6, xv 3), (8, v)] ++ tops ([5, 7, 9] ++ (List.range 104).map fun j => 12 + j)
def hd4 (b : Bool) (v : V) : St := { env := mkE (rest4 b v ++ [(10, uv 14), (11, iv 15)]), h := H0 }
def ex4 (b : Bool) (v : V) : Env := mkE (rest4 b v ++ [(10, uv 16), (11, .top)])
def D4 (b : Bool) (v : V) : LoopD := { hd := hd4 b v, ts := [10, 11], outs := [(.exit 4, ex4 b v, [10])] }
def S4 (n : Nat) : Bool := Nat.ble n 13 || Nat.ble 16 n
def pcX4 : PC := addPC (.cmp .leq (.int .i64 0) (.ivar .i64 15)) true []
def rn4 (b : Bool) (v : V) (r : Nat → Value) := sums S4 (D4 b v) (execF kn0 (callF kn0 Tryd.prog (tbX.atS r (spX b) noLp) 300 300) Tryd.prog (tbX.atS r (spX b) noLp) 300 (.code (bodyX 2)) pcX4 (D4 b v).hd)

/-! ### The whole run -/
def dead0 (b : Bool) : OTree := .leaf .ret (ex0 b)
def good0 (b : Bool) : OTree := .leaf (.exit 0) (ex0 b)
def tree0 (b : Bool) : OTree := .node (.cmp .lss (.ivar .i64 9) (.int .i64 0)) (dead0 b) (.node (.cmp .lss (.ivar .i64 9) (.int .i64 4611686018427387904)) (.node (.cmp .lss (.ivar .i64 9) (.len (.svar 1))) (good0 b) (.node (.cmp .eql (.ivar .i64 9) (.len (.svar 1))) (good0 b) (dead0 b))) (dead0 b))
def txE (b : Bool) : SE := if b then subN else .svar 0
def eL0 (b : Bool) : LoopE := { key := 384, hd := hd0 b, ts := [0, 5], start := [(1, .str, txE b), (10, .int .i64, .int .i64 0)], S := S0, tree := tree0 b }
def eL2 (b : Bool) : LoopE := { key := 1088, hd := hd2 b, ts := [7, 8, 9], start := [(4, .str, subP), (11, .int .u64, .int .u64 0), (12, .int .i64, .int .i64 0)], S := S2, tree := .leaf (.exit 2) (ex2 b) }
def eL4 (b : Bool) (v : V) : LoopE := { key := 1664, hd := hd4 b v, ts := [6, 10, 11], start := [(3, .str, subW), (14, .int .u64, .int .u64 0), (15, .int .i64, .int .i64 0)], S := S4, tree := .leaf (.exit 4) (ex4 b v) }
def lpX (b : Bool) : Lp := lpOf [eL0 b, eL2 b, eL4 b (uv 13), eL4 b v0]
def pcX (b : Bool) : PC := addPC (.eqs (.svar 0) (.str ⟨#[]⟩)) false (addPC (.cmp .lss (.int .i64 0) (.len (.svar 0))) true (addPC firstE b (addPC (.cmp .lss (.len (.svar 0)) (.int .i64 1001)) true [])))
def rcX (b : Bool) (r : Nat → Value) := outsF (callF kn0 Tryd.prog (tbX.atS r (spX b) (lpX b)) 300 300 (pcX b) 15 [xv 0] H0)
def rn0t (r : Nat → Value) := rn0 true r
def rn2t (r : Nat → Value) := rn2 true r
def rn4t (r : Nat → Value) := rn4 true (uv 13) r
def keysX (_ : Nat → Value) := [loopK (bodyX 0), loopK (bodyX 1), loopK (bodyX 2)]
def rcXt (r : Nat → Value) := rcX true r
def rcXf (r : Nat → Value) := rcX false r
end
end Go.Proofs.YtkjfpjammlihpaaDoor
