/- A keymap in the heap, the reference's beside it: the calls of a step. -/
import Derived.Test.YtaidiaiedhbaoaaSxV
import Derived.Test.YtaidiaiedhbaoaaKmH
/- A keymap in the heap, the reference's beside it: the calls of a step. -/
set_option linter.unusedVariables false
set_option linter.unusedSimpArgs false
namespace Go.Proofs.Ytaidiaiedhbaoaa
open Go.Sx Go.ChangeShapes Go.WideShapes Go.ChangeAt Go.RowKit
noncomputable section
def kCells : List V := [.val (.bool true), iv 65, .sli shK (.bvar 63) (.dvar 64) .unk]
def hpK : Hp := [(1, kCells)]
def pK : V := .ptr 1 0
def mA : V := .agg [iv 91, iv 92, iv 93, iv 94]
def cC : V := .sym (.int .i64) (.dleaf (.int .i64) (.dcell (.dvar 3) (.ivar .i64 90) 0))
def wA : V := .agg [.sli shK (.bvar 73) (.dvar 74) .unk]
def xA : V := .agg [iv 96, .sli shL (.bvar 97) (.dvar 98) .unk]
def eFindT : EntryV := { f := 24, args := [pK, cC], hp := hpK, res := .tuple [xA, .val (.bool true)] }
def eFindN : EntryV := { f := 24, args := [pK, cC], hp := hpK, res := .tuple [.agg [.val (.int .i64 0), .list true [] .full], .val (.bool false)] }
def eLayK : EntryV := { f := 38, args := [pK, mA], hp := hpK, res := iv 100 }
def eEffK : EntryV := { f := 17, args := [mA], res := iv 101 }
def eSymk : EntryV := { f := 28, args := [pK, mA, xA], hp := hpK, res := iv 102 }
def eSymK : EntryV := { f := 15, args := [pK, mA, cC], hp := hpK, res := iv 102 }
def mP : V := .agg [iv 103, iv 104, iv 105, iv 106]
def mR : V := .agg [iv 107, iv 92, iv 93, iv 94]
def ePressK : EntryV := { f := 21, args := [pK, mA, cC], hp := hpK, res := .tuple [mP, iv 102] }
def eRelK : EntryV := { f := 19, args := [pK, mA, cC], hp := hpK, res := mR }
def fsS : List Nat := [4, 15, 28, 38, 24, 27, 32, 17, 21, 36, 39, 19, 33, 16, 30, 14, 18, 31, 29, 22, 35, 34, 20]
def tbS : Tb := tb.only fsS
def pcL : PC := addPC (.cmp .lss (.int .i64 0) (.ivar .i64 65)) true []
def pcX : PC := addPC (.cmp .leq (.dleaf (.int .i64) (.dcell (.dcell (.dvar 98) (.int .i64 0) 0) (.int .i64 0) 0)) (.int .i64 16777223)) true (addPC (.cmp .leq (.int .i64 0) (.ivar .i64 100)) true (addPC (.cmp .lss (.int .i64 0) (.dlen (.dcell (.dvar 98) (.int .i64 0) 0))) true (addPC (.cmp .lss (.int .i64 0) (.dlen (.dvar 98))) true pcL)))
def spS1 : Sp := spV [eLayK, eEffK]
def spS2 : Sp := spV [eFindT, eLayK, eEffK, eSymk]
def spS3 : Sp := spV [eFindN]
def is1 (n m : Nat) : Bool := Nat.beq m n
def is4 (m : Nat) : Bool := Nat.ble 103 m && Nat.ble m 106 || Nat.beq m 102
def rnLay (r : Nat → Value) := outsV (is1 100) (iv 100) (callF kn0 Try.prog (tbS.atS r noSp noLp) 100 100 pcL 38 [pK, mA] (hpOf hpK))
def rnEff (r : Nat → Value) := outsV (is1 101) (iv 101) (callF kn0 Try.prog (tbS.atS r noSp noLp) 100 100 [] 17 [mA] (hpOf []))
def rnSymk (r : Nat → Value) := outsV (is1 102) (iv 102) (callF kn0 Try.prog (tbS.atS r spS1 noLp) 100 100 pcX 28 [pK, mA, xA] (hpOf hpK))
def rnSymT (r : Nat → Value) := outsV (is1 102) (iv 102) (callF kn0 Try.prog (tbS.atS r spS2 noLp) 100 100 [] 15 [pK, mA, cC] (hpOf hpK))
def rnSymN (r : Nat → Value) := outsV (is1 102) (iv 102) (callF kn0 Try.prog (tbS.atS r spS3 noLp) 100 100 [] 15 [pK, mA, cC] (hpOf hpK))
def rnPrT (r : Nat → Value) := outsV is4 (.tuple [mP, iv 102]) (callF kn0 Try.prog (tbS.atS r spS2 noLp) 100 100 pcX 21 [pK, mA, cC] (hpOf hpK))
def rnPrN (r : Nat → Value) := outsV is4 (.tuple [mP, iv 102]) (callF kn0 Try.prog (tbS.atS r spS3 noLp) 100 100 [] 21 [pK, mA, cC] (hpOf hpK))
def rnReT (r : Nat → Value) := outsV (is1 107) mR (callF kn0 Try.prog (tbS.atS r spS2 noLp) 100 100 pcX 19 [pK, mA, cC] (hpOf hpK))
def rnReN (r : Nat → Value) := outsV (is1 107) mR (callF kn0 Try.prog (tbS.atS r spS3 noLp) 100 100 [] 19 [pK, mA, cC] (hpOf hpK))
/-! ### What the calls give -/
abbrev i64 (i : Int) : SE := .int .i64 i
def lfS (e : SE) : SE := .dleaf (.int .i64) e
def l102 (e : SE) : DT := .leaf [(102, .sc (.int .i64), e)]
def rowS (lv j : SE) : SE := .dcell lv j 0
def symOf (R : SE) (j : Int) : SE := lfS (.dcell R (i64 j) 0)
def getT (R : SE) (j : Int) : DT := .node (.cmp .lss (i64 j) (.dlen R)) (l102 (symOf R j)) (l102 (symOf R 0))
def bitE (ef : SE) (b : Int) : SE := .cmp .eql (.bin .and .i64 ef (i64 b)) (i64 0)
def lev0T (R ef : SE) : DT := .node (bitE ef 16) (l102 (symOf R 0)) (getT R 2)
def lev1T (R ef : SE) : DT := .node (bitE ef 16) (getT R 1) (getT R 3)
def flipT (R ef : SE) (b : Bool) : DT := .node (bitE ef 1) (if b then lev1T R ef else lev0T R ef) (if b then lev0T R ef else lev1T R ef)
def tailT (R ef : SE) : DT := .node (bitE ef 2) (flipT R ef false) (.node (.cmp .lss (symOf R 0) (i64 97)) (flipT R ef false) (.node (.cmp .lss (i64 122) (symOf R 0)) (flipT R ef false) (flipT R ef true)))
def firstS (lv : SE) : SE := symOf (rowS lv (i64 0)) 0
def symT (lv lay ef : SE) : DT := .node (.cmp .lss (firstS lv) (i64 16777217)) (.node (.cmp .lss lay (.dlen lv)) (.node (.cmp .lss (i64 0) (.dlen (rowS lv lay))) (tailT (rowS lv lay) ef) (tailT (rowS lv (i64 0)) ef)) (tailT (rowS lv (i64 0)) ef)) (l102 (firstS lv))
def layT (x n : SE) : DT := .node (.cmp .lss (.bin .rem .i64 x n) (i64 0)) (.leaf [(100, .sc (.int .i64), .bin .add .i64 n (.bin .rem .i64 x n))]) (.leaf [(100, .sc (.int .i64), .bin .rem .i64 x n)])
def effT : DT := .leaf [(101, .sc (.int .i64), .bin .and .i64 (.bin .or .i64 (.bin .or .i64 (.ivar .i64 91) (.ivar .i64 92)) (.ivar .i64 93)) (i64 31))]
def okLay (r : Nat → Value) := agreeL (layT (.ivar .i64 94) (.ivar .i64 65)) (rnLay r)
def okEff (r : Nat → Value) := agreeL effT (rnEff r)
def okSymk (r : Nat → Value) := agreeL (symT (.dvar 98) (.ivar .i64 100) (.ivar .i64 101)) (rnSymk r)
end
end Go.Proofs.Ytaidiaiedhbaoaa
