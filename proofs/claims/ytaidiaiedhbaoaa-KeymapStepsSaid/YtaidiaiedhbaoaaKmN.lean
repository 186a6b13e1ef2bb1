/- keymap.New within the law's run. -/
import Derived.Test.YtaidiaiedhbaoaaKmH
/- keymap.New within the law's run. -/
set_option linter.unusedVariables false
set_option linter.unusedSimpArgs false
namespace Go.Proofs.Ytaidiaiedhbaoaa
open Go.Sx Go.ChangeShapes Go.WideShapes Go.ChangeAt Go.RowKit
noncomputable section
def fsN : List Nat := [3, 11, 24, 12, 26, 13, 27]
def tbN : Tb := tb.only fsN
def argN : List V := [.sli shK (.dnil (.dvar 2)) (.dvar 2) .unk]
def knN (f : Nat) : Option V := if Nat.beq f 10 then some (.val (.bool true)) else none
def eLarge : Entry := { f := 9, args := [.sli shK (.dnil (.dvar 2)) (.dvar 2) .unk], res := .val (.bool false) }
def spN0 : Sp := spOf [eLarge]
def entN1 : St := { env := ((((Tr.leaf.node (some (V.sli ((Sh.sc (STy.int .i64)).cons ((((Sh.sc (STy.int .i64)).cons Sh.nil).li.cons Sh.nil).li.cons Sh.nil)).li (SE.dvar 2).dnil (SE.dvar 2) Tok.unk)) Tr.leaf).node none Tr.leaf).node (some (V.val (Value.int .i64 0))) Tr.leaf).node none (((Tr.leaf.node (some (V.val (Value.int .i64 0))) Tr.leaf).node none Tr.leaf).node none (Tr.leaf.node (some (V.agg [V.val (Value.bool true), V.val (Value.int .i64 1), V.list true [] Tok.full])) Tr.leaf))).node (some (V.sli ((Sh.sc (STy.int .i64)).cons ((((Sh.sc (STy.int .i64)).cons Sh.nil).li.cons Sh.nil).li.cons Sh.nil)).li (SE.dvar 2).dnil (SE.dvar 2) Tok.unk)) ((((Tr.leaf.node (some (V.sym (STy.int .i64) (SE.dvar 2).dlen)) Tr.leaf).node none Tr.leaf).node (some (V.ptr 0 0)) Tr.leaf).node (some (V.val (Value.pointer none))) (Tr.leaf.node none (Tr.leaf.node (some (V.ptr 0 0)) Tr.leaf))), h := { tab := Tr.leaf.node (some (Blk.cells [V.val (Value.bool true), V.val (Value.int .i64 1), V.list true [] Tok.full])) Tr.leaf, next := 1, base := 0, low := none } }
def pcN0 : PC := addPC (.cmp .leq (.int .i64 0) (.ivar .i64 50)) true (addPC (.cmp .lss (.dlen (.dvar 52)) (.int .i64 301)) true (addPC (.cmp .lss (.dlen (.dvar 2)) (.int .i64 301)) true []))
def pcN1 : PC := addPC (.cmp .lss (.ivar .i64 50) (.dlen (.dvar 2))) true pcN0
def pcN1e : PC := addPC (.cmp .lss (.ivar .i64 50) (.dlen (.dvar 2))) false pcN0
def resN (n : Nat) : Bool := Nat.ble 62 n && Nat.ble n 65
def LN1 : LoopP where
  f := 11
  i := 0
  key := 1179904
  D := mkLoop (loopAt tbN 11 0) entN1 [(17, iv 50)] [(0, .cells [.val (.bool true), iv 53, .sli shK (.bvar 51) (.dvar 52) (.own 1 2)]), (1, .tail true)]
    [(.exit 0, [], [(0, .cells [.val (.bool true), iv 65, .sli shK (.bvar 63) (.dvar 64) .unk])]), (.ret, [(2, .val (.pointer none)), (3, iv 62)], [(0, .cells [.val (.bool true), iv 65, .sli shK (.bvar 63) (.dvar 64) .unk])])] 2 100 (famPat 50 [51, 52, 53, 55, 56, 60, 61, 67, 68, 69]) resN
  cs := [.cmp .eql (.ivar .i64 62) (.int .i64 0)]
def stN1 := startOf LN1.D
def entN2 : St := { env := ((Tr.leaf.node none (Tr.leaf.node (some (V.sli ((Sh.sc (STy.int .i64)).cons ((((Sh.sc (STy.int .i64)).cons Sh.nil).li.cons Sh.nil).li.cons Sh.nil)).li (SE.bvar 51) (SE.dvar 52) (Tok.own 1 2))) Tr.leaf)).node (some (V.sym (STy.int .i64) (SE.dleaf (STy.int .i64) ((SE.dvar 2).dcell (SE.ivar .i64 50) 0)))) ((Tr.leaf.node (some (V.ptr 0 0)) Tr.leaf).node (some (V.val (Value.bool false))) (Tr.leaf.node (some (V.val (Value.int .i64 0))) Tr.leaf))).node (some (V.ptr 0 0)) (((Tr.leaf.node (some (V.ptr 0 0)) Tr.leaf).node (some (V.ptr 3 0)) (Tr.leaf.node (some (V.sym (STy.int .i64) (SE.dvar 52).dlen)) Tr.leaf)).node none ((Tr.leaf.node (some (V.ptr 0 2)) Tr.leaf).node none Tr.leaf)), h := { tab := ((Tr.leaf.node (some (Blk.cells [V.val (Value.int .i64 0), V.list true [] Tok.full])) Tr.leaf).node (some (Blk.tail true)) Tr.leaf).node (some (Blk.cells [V.val (Value.bool true), V.sym (STy.int .i64) (SE.ivar .i64 53), V.sli ((Sh.sc (STy.int .i64)).cons ((((Sh.sc (STy.int .i64)).cons Sh.nil).li.cons Sh.nil).li.cons Sh.nil)).li (SE.bvar 51) (SE.dvar 52) (Tok.own 1 2)])) (Tr.leaf.node (some (Blk.cells [V.sym (STy.int .i64) (SE.dleaf (STy.int .i64) ((SE.dvar 2).dcell (SE.ivar .i64 50) 0)), V.sli (((Sh.sc (STy.int .i64)).cons Sh.nil).li.cons Sh.nil).li ((SE.dvar 2).dcell (SE.ivar .i64 50) 1).dnil ((SE.dvar 2).dcell (SE.ivar .i64 50) 1) Tok.unk])) Tr.leaf), next := 4, base := 3, low := none } }
def eCheck : Entry := { f := 25, args := [.agg [.sym (.int .i64) (.dleaf (.int .i64) (.dcell (.dvar 2) (.ivar .i64 50) 0)), .sli shL (.dnil (.dcell (.dvar 2) (.ivar .i64 50) 1)) (.dcell (.dvar 2) (.ivar .i64 50) 1) .unk]], res := iv 56 }
def spN : Sp := spOf [eLarge, eCheck]
def pcN2 : PC := addPC (.cmp .leq (.int .i64 0) (.ivar .i64 54)) true []
def LN2 : LoopP where
  f := 24
  i := 0
  key := 917696
  D := mkLoop (loopAt tbN 24 0) entN2 [(13, iv 54)] [] [(.exit 0, [], []), (.ret, [(5, .val (.bool true))], [(3, .cells [iv 67, .sli shL (.bvar 68) (.dvar 69) .unk])])] 4 6 (famPat 54 []) (fun n => Nat.ble 67 n && Nat.ble n 69)
  cs := [.cmp .lss (.ivar .i64 55) (.int .i64 0)]
theorem st_N2 : startOf LN2.D = some [(54, .sc (.int .i64), .int .i64 0)] := by kernel_rfl
def rnN2 (r : Nat → Value) := sums LN2.D (execF kn0 (callF kn0 Try.prog (tbN.atS r noSp noLp) 100 100) Try.prog (tbN.atS r noSp noLp) 100 (.code (loopAt tbN 24 0)) pcN2 LN2.D.hd)
def lpN2 : Lp := lpOf [LN2.e]
def entN3 : St := { env := ((((((Tr.leaf.node (some V.top) Tr.leaf).node (some (V.ptr 2 0)) Tr.leaf).node (some (V.sli ((Sh.sc (STy.int .i64)).cons ((((Sh.sc (STy.int .i64)).cons Sh.nil).li.cons Sh.nil).li.cons Sh.nil)).li (SE.dvar 2).dnil (SE.dvar 2) Tok.unk)) ((Tr.leaf.node (some V.top) Tr.leaf).node (some (V.sym (STy.int .i64) ((SE.dvar 2).dcell (SE.ivar .i64 50) 1).dlen)) Tr.leaf)).node (some (V.ptr 6 0)) (((Tr.leaf.node (some V.top) Tr.leaf).node (some (V.sym (STy.int .i64) (SE.ivar .i64 56))) Tr.leaf).node (some (V.sym STy.bool (SE.cmp .lss (SE.dleaf (STy.int .i64) ((SE.dvar 2).dcell (SE.ivar .i64 50) 0)) (SE.int .i64 0)))) (Tr.leaf.node (some V.top) Tr.leaf))).node (some V.top) ((((Tr.leaf.node (some V.top) Tr.leaf).node (some (V.val (Value.bool false))) Tr.leaf).node (some (V.cptr [V.sym (STy.int .i64) (SE.dleaf (STy.int .i64) ((SE.dvar 2).dcell (SE.ivar .i64 50) 0)), V.sli (((Sh.sc (STy.int .i64)).cons Sh.nil).li.cons Sh.nil).li ((SE.dvar 2).dcell (SE.ivar .i64 50) 1).dnil ((SE.dvar 2).dcell (SE.ivar .i64 50) 1) Tok.unk])) (Tr.leaf.node (some V.top) Tr.leaf)).node none (((Tr.leaf.node (some V.top) Tr.leaf).node (some (V.sym (STy.int .i64) (SE.dleaf (STy.int .i64) ((SE.dvar 2).dcell (SE.ivar .i64 50) 0)))) Tr.leaf).node (some (V.sym STy.bool (SE.cmp .geq (SE.dleaf (STy.int .i64) ((SE.dvar 2).dcell (SE.ivar .i64 50) 0)) (SE.int .i64 256)))) (Tr.leaf.node (some V.top) Tr.leaf)))).node none (((((Tr.leaf.node (some V.top) Tr.leaf).node (some (V.tuple [V.agg [V.val (Value.int .i64 0), V.list true [] Tok.full], V.val (Value.bool false)])) Tr.leaf).node (some (V.sym (STy.int .i64) (SE.ivar .i64 50))) ((Tr.leaf.node (some V.top) Tr.leaf).node (some V.top) Tr.leaf)).node (some (V.sym (STy.int .i64) (SE.ivar .i64 56))) (((Tr.leaf.node (some V.top) Tr.leaf).node (some V.top) Tr.leaf).node (some (V.ptr 2 0)) (Tr.leaf.node (some V.top) Tr.leaf))).node none ((((Tr.leaf.node (some V.top) Tr.leaf).node (some (V.agg [V.sym (STy.int .i64) (SE.dleaf (STy.int .i64) ((SE.dvar 2).dcell (SE.ivar .i64 50) 0)), V.sli (((Sh.sc (STy.int .i64)).cons Sh.nil).li.cons Sh.nil).li ((SE.dvar 2).dcell (SE.ivar .i64 50) 1).dnil ((SE.dvar 2).dcell (SE.ivar .i64 50) 1) Tok.unk])) Tr.leaf).node (some (V.ptr 2 0)) (Tr.leaf.node (some V.top) Tr.leaf)).node (some (V.agg [V.val (Value.bool true), V.val (Value.int .i64 1), V.list true [] Tok.full])) (((Tr.leaf.node (some V.top) Tr.leaf).node (some (V.ptr 2 1)) Tr.leaf).node (some (V.tuple [V.agg [V.val (Value.int .i64 0), V.list true [] Tok.full], V.val (Value.bool false)])) (Tr.leaf.node (some V.top) Tr.leaf))))).node (some (V.sli ((Sh.sc (STy.int .i64)).cons ((((Sh.sc (STy.int .i64)).cons Sh.nil).li.cons Sh.nil).li.cons Sh.nil)).li (SE.dvar 2).dnil (SE.dvar 2) Tok.unk)) ((((((Tr.leaf.node (some V.top) Tr.leaf).node (some (V.sym (STy.int .i64) (SE.dleaf (STy.int .i64) ((SE.dvar 2).dcell (SE.ivar .i64 50) 0)))) Tr.leaf).node (some (V.sym (STy.int .i64) (SE.dvar 2).dlen)) ((Tr.leaf.node (some V.top) Tr.leaf).node (some (V.val (Value.int .i64 0))) Tr.leaf)).node (some (V.val (Value.bool false))) (((Tr.leaf.node (some V.top) Tr.leaf).node (some (V.sym STy.bool (SE.cmp .neq (SE.ivar .i64 56) (SE.int .i64 0)))) Tr.leaf).node (some (V.sym STy.bool (SE.cmp .lss (SE.dleaf (STy.int .i64) ((SE.dvar 2).dcell (SE.ivar .i64 50) 0)) (SE.int .i64 0)))) (Tr.leaf.node (some V.top) Tr.leaf))).node (some (V.ptr 0 0)) ((((Tr.leaf.node (some V.top) Tr.leaf).node (some (V.val (Value.bool false))) Tr.leaf).node (some (V.agg [V.sym (STy.int .i64) (SE.dleaf (STy.int .i64) ((SE.dvar 2).dcell (SE.ivar .i64 50) 0)), V.sli (((Sh.sc (STy.int .i64)).cons Sh.nil).li.cons Sh.nil).li ((SE.dvar 2).dcell (SE.ivar .i64 50) 1).dnil ((SE.dvar 2).dcell (SE.ivar .i64 50) 1) Tok.unk])) (Tr.leaf.node (some V.top) Tr.leaf)).node (some V.top) (((Tr.leaf.node (some V.top) Tr.leaf).node (some (V.agg [V.sym (STy.int .i64) (SE.dleaf (STy.int .i64) ((SE.dvar 2).dcell (SE.ivar .i64 50) 0)), V.list true [] Tok.full])) Tr.leaf).node (some (V.sym STy.bool (SE.cmp .geq (SE.dleaf (STy.int .i64) ((SE.dvar 2).dcell (SE.ivar .i64 50) 0)) (SE.int .i64 256)))) (Tr.leaf.node (some V.top) Tr.leaf)))).node (some V.top) (((((Tr.leaf.node (some V.top) Tr.leaf).node (some (V.agg [V.val (Value.int .i64 0), V.list true [] Tok.full])) Tr.leaf).node (some (V.sym STy.bool (SE.cmp .lss (SE.ivar .i64 50) (SE.dvar 2).dlen))) ((Tr.leaf.node (some V.top) Tr.leaf).node (some V.top) Tr.leaf)).node (some (V.ptr 7 0)) (((Tr.leaf.node (some V.top) Tr.leaf).node (some (V.ptr 2 0)) Tr.leaf).node (some (V.sym (STy.int .i64) (SE.dleaf (STy.int .i64) ((SE.dvar 2).dcell (SE.ivar .i64 50) 0)))) (Tr.leaf.node (some V.top) Tr.leaf))).node (some (V.ptr 2 0)) ((((Tr.leaf.node (some V.top) Tr.leaf).node (some (V.sym (STy.int .i64) (SE.ivar .i64 56))) Tr.leaf).node (some (V.sym (STy.int .i64) (SE.dleaf (STy.int .i64) ((SE.dvar 2).dcell (SE.ivar .i64 50) 0)))) (Tr.leaf.node (some V.top) Tr.leaf)).node (some (V.ptr 0 0)) (((Tr.leaf.node (some V.top) Tr.leaf).node (some (V.sli (((Sh.sc (STy.int .i64)).cons Sh.nil).li.cons Sh.nil).li ((SE.dvar 2).dcell (SE.ivar .i64 50) 1).dnil ((SE.dvar 2).dcell (SE.ivar .i64 50) 1) Tok.unk)) Tr.leaf).node (some (V.ptr 0 0)) (Tr.leaf.node (some V.top) Tr.leaf))))), h := { tab := (((Tr.leaf.node (some (Blk.cells [V.sym (STy.int .i64) (SE.dleaf (STy.int .i64) ((SE.dvar 2).dcell (SE.ivar .i64 50) 0)), V.list true [] Tok.full])) Tr.leaf).node (some (Blk.cells [V.val (Value.int .i64 0), V.list true [] Tok.full])) Tr.leaf).node (some (Blk.tail true)) Tr.leaf).node (some (Blk.cells [V.val (Value.bool true), V.sym (STy.int .i64) (SE.ivar .i64 53), V.sli ((Sh.sc (STy.int .i64)).cons ((((Sh.sc (STy.int .i64)).cons Sh.nil).li.cons Sh.nil).li.cons Sh.nil)).li (SE.bvar 51) (SE.dvar 52) (Tok.own 1 2)])) (Tr.leaf.node (some (Blk.cells [V.sym (STy.int .i64) (SE.dleaf (STy.int .i64) ((SE.dvar 2).dcell (SE.ivar .i64 50) 0)), V.sli (((Sh.sc (STy.int .i64)).cons Sh.nil).li.cons Sh.nil).li ((SE.dvar 2).dcell (SE.ivar .i64 50) 1).dnil ((SE.dvar 2).dcell (SE.ivar .i64 50) 1) Tok.unk])) (Tr.leaf.node (some (Blk.cells [V.val (Value.int .i64 0), V.list true [] Tok.full])) Tr.leaf)), next := 8, base := 0, low := none } }
def pcN3 : PC := addPC (.cmp .leq (.int .i64 0) (.ivar .i64 57)) true (addPC (.cmp .lss (.dlen (.dcell (.dcell (.dvar 2) (.ivar .i64 50) 1) (.ivar .i64 57) 0)) (.int .i64 1001)) true (addPC (.cmp .lss (.dlen (.dvar 59)) (.int .i64 1001)) true []))
def cdN : V := .sym (.int .i64) (.dleaf (.int .i64) (.dcell (.dvar 2) (.ivar .i64 50) 0))
def LN3 : LoopP where
  f := 11
  i := 1
  key := 3212288
  D := mkLoop (loopAt tbN 11 1) entN3 [(48, iv 57)] [(7, .cells [cdN, .sli shL (.bvar 58) (.dvar 59) (.own 8 1)]), (8, .tail true)] [(.exit 2, [], [(7, .cells [cdN, .sli shL (.bvar 60) (.dvar 61) .unk])])] 9 20 (famPat 57 [58, 59]) (fun n => Nat.ble 60 n && Nat.ble n 61)
  cs := []
def stN3 := startOf LN3.D
def rnN3 (r : Nat → Value) := sums LN3.D (execF kn0 (callF kn0 Try.prog (tbN.atS r noSp noLp) 100 100) Try.prog (tbN.atS r noSp noLp) 100 (.code (loopAt tbN 11 1)) pcN3 LN3.D.hd)
def lpN1 : Lp := lpOf [LN2.e, LN3.e]
def rnN1 (r : Nat → Value) := sums LN1.D (execF kn0 (callF kn0 Try.prog (tbN.atS r spN lpN1) 100 100) Try.prog (tbN.atS r spN lpN1) 100 (.code (loopAt tbN 11 0)) pcN1 LN1.D.hd)
def rnN1e (r : Nat → Value) := sums LN1.D (execF kn0 (callF kn0 Try.prog (tbN.atS r noSp noLp) 100 100) Try.prog (tbN.atS r noSp noLp) 100 (.code (loopAt tbN 11 0)) pcN1e LN1.D.hd)
def MN2 : List (PC × Sm) := [([(SE.cmp .eql (SE.dleaf (.int .i64) ((SE.dvar 52).dcell (SE.ivar .i64 54) 0)) (SE.dleaf (.int .i64) ((SE.dvar 2).dcell (SE.ivar .i64 50) 0)), true), (SE.cmp .lss (SE.ivar .i64 54) (SE.dvar 52).dlen, true), (SE.cmp .lss (SE.ivar .i64 54) (SE.int .i64 0), false)], Sm.out 1 [(67, UTy.sc (.int .i64), SE.dleaf (.int .i64) ((SE.dvar 52).dcell (SE.ivar .i64 54) 0)), (68, UTy.sc .bool, ((SE.dvar 52).dcell (SE.ivar .i64 54) 1).dnil), (69, UTy.dat, (SE.dvar 52).dcell (SE.ivar .i64 54) 1)]), ([(SE.cmp .eql (SE.dleaf (.int .i64) ((SE.dvar 52).dcell (SE.ivar .i64 54) 0)) (SE.dleaf (.int .i64) ((SE.dvar 2).dcell (SE.ivar .i64 50) 0)), false), (SE.cmp .lss (SE.ivar .i64 54) (SE.dvar 52).dlen, true), (SE.cmp .lss (SE.ivar .i64 54) (SE.int .i64 0), false)], Sm.next [(54, UTy.sc (.int .i64), SE.bin .add .i64 (SE.ivar .i64 54) (SE.int .i64 1))]), ([(SE.cmp .lss (SE.ivar .i64 54) (SE.dvar 52).dlen, false), (SE.cmp .lss (SE.ivar .i64 54) (SE.int .i64 0), false)], Sm.out 0 [])]
def MN3 : List (PC × Sm) := [([(SE.cmp .eql (((SE.dvar 2).dcell (SE.ivar .i64 50) 1).dcell (SE.ivar .i64 57) 0).dlen (SE.int .i64 0), true), (SE.cmp .lss (SE.ivar .i64 57) ((SE.dvar 2).dcell (SE.ivar .i64 50) 1).dlen, true), (SE.cmp .lss (SE.ivar .i64 57) (SE.int .i64 0), false), (SE.cmp .lss (((SE.dvar 2).dcell (SE.ivar .i64 50) 1).dcell (SE.ivar .i64 57) 0).dlen (SE.int .i64 1001), true), (SE.cmp .lss (SE.dvar 59).dlen (SE.int .i64 1001), true)], Sm.next [(57, UTy.sc (.int .i64), SE.bin .add .i64 (SE.ivar .i64 57) (SE.int .i64 1)), (58, UTy.sc .bool, SE.bool false), (59, UTy.dat, (SE.dvar 59).dsnoc (SE.dlst.dsnoc ((SE.bool false).dli SE.dlst)))]), ([(SE.cmp .eql (((SE.dvar 2).dcell (SE.ivar .i64 50) 1).dcell (SE.ivar .i64 57) 0).dlen (SE.int .i64 0), false), (SE.cmp .lss (SE.ivar .i64 57) ((SE.dvar 2).dcell (SE.ivar .i64 50) 1).dlen, true), (SE.cmp .lss (SE.ivar .i64 57) (SE.int .i64 0), false), (SE.cmp .lss (((SE.dvar 2).dcell (SE.ivar .i64 50) 1).dcell (SE.ivar .i64 57) 0).dlen (SE.int .i64 1001), true), (SE.cmp .lss (SE.dvar 59).dlen (SE.int .i64 1001), true)], Sm.next [(57, UTy.sc (.int .i64), SE.bin .add .i64 (SE.ivar .i64 57) (SE.int .i64 1)), (58, UTy.sc .bool, SE.bool false), (59, UTy.dat, (SE.dvar 59).dsnoc (SE.dlst.dsnoc ((SE.bool false).dli (SE.dlst.dcat (((SE.dvar 2).dcell (SE.ivar .i64 50) 1).dcell (SE.ivar .i64 57) 0)))))]), ([(SE.cmp .lss (SE.ivar .i64 57) ((SE.dvar 2).dcell (SE.ivar .i64 50) 1).dlen, false), (SE.cmp .lss (SE.ivar .i64 57) (SE.int .i64 0), false), (SE.cmp .lss (((SE.dvar 2).dcell (SE.ivar .i64 50) 1).dcell (SE.ivar .i64 57) 0).dlen (SE.int .i64 1001), true), (SE.cmp .lss (SE.dvar 59).dlen (SE.int .i64 1001), true)], Sm.out 0 [(60, UTy.sc .bool, SE.bvar 58), (61, UTy.dat, SE.dvar 59)])]
def MN1 : List (PC × Sm) := [([(SE.cmp .lss (SE.dleaf (.int .i64) ((SE.dvar 2).dcell (SE.ivar .i64 50) 0)) (SE.int .i64 0), true), (SE.cmp .lss (SE.ivar .i64 50) (SE.dvar 2).dlen, true), (SE.cmp .lss (SE.ivar .i64 50) (SE.int .i64 0), false), (SE.cmp .lss (SE.dvar 52).dlen (SE.int .i64 301), true), (SE.cmp .lss (SE.dvar 2).dlen (SE.int .i64 301), true)], Sm.out 1 [(62, UTy.sc (.int .i64), SE.int .i64 6), (65, UTy.sc (.int .i64), SE.ivar .i64 53), (63, UTy.sc .bool, SE.bvar 51), (64, UTy.dat, SE.dvar 52)]), ([(SE.cmp .lss (SE.dleaf (.int .i64) ((SE.dvar 2).dcell (SE.ivar .i64 50) 0)) (SE.int .i64 256), false), (SE.cmp .lss (SE.dleaf (.int .i64) ((SE.dvar 2).dcell (SE.ivar .i64 50) 0)) (SE.int .i64 0), false), (SE.cmp .lss (SE.ivar .i64 50) (SE.dvar 2).dlen, true), (SE.cmp .lss (SE.ivar .i64 50) (SE.int .i64 0), false), (SE.cmp .lss (SE.dvar 52).dlen (SE.int .i64 301), true), (SE.cmp .lss (SE.dvar 2).dlen (SE.int .i64 301), true)], Sm.out 1 [(62, UTy.sc (.int .i64), SE.int .i64 6), (65, UTy.sc (.int .i64), SE.ivar .i64 53), (63, UTy.sc .bool, SE.bvar 51), (64, UTy.dat, SE.dvar 52)]), ([(SE.cmp .eql (SE.ivar .i64 56) (SE.int .i64 0), false), (SE.cmp .lss (SE.ivar .i64 55) (SE.int .i64 0), true), (SE.cmp .lss (SE.dleaf (.int .i64) ((SE.dvar 2).dcell (SE.ivar .i64 50) 0)) (SE.int .i64 256), true), (SE.cmp .lss (SE.dleaf (.int .i64) ((SE.dvar 2).dcell (SE.ivar .i64 50) 0)) (SE.int .i64 0), false), (SE.cmp .lss (SE.ivar .i64 50) (SE.dvar 2).dlen, true), (SE.cmp .lss (SE.ivar .i64 50) (SE.int .i64 0), false), (SE.cmp .lss (SE.dvar 52).dlen (SE.int .i64 301), true), (SE.cmp .lss (SE.dvar 2).dlen (SE.int .i64 301), true)], Sm.out 1 [(62, UTy.sc (.int .i64), SE.ivar .i64 56), (65, UTy.sc (.int .i64), SE.ivar .i64 53), (63, UTy.sc .bool, SE.bvar 51), (64, UTy.dat, SE.dvar 52)]), ([(SE.cmp .eql (SE.ivar .i64 56) (SE.int .i64 0), true), (SE.cmp .lss (SE.ivar .i64 55) (SE.int .i64 0), true), (SE.cmp .lss (SE.dleaf (.int .i64) ((SE.dvar 2).dcell (SE.ivar .i64 50) 0)) (SE.int .i64 256), true), (SE.cmp .lss (SE.dleaf (.int .i64) ((SE.dvar 2).dcell (SE.ivar .i64 50) 0)) (SE.int .i64 0), false), (SE.cmp .lss (SE.ivar .i64 50) (SE.dvar 2).dlen, true), (SE.cmp .lss (SE.ivar .i64 50) (SE.int .i64 0), false), (SE.cmp .lss (SE.dvar 52).dlen (SE.int .i64 301), true), (SE.cmp .lss (SE.dvar 2).dlen (SE.int .i64 301), true)], Sm.next [(50, UTy.sc (.int .i64), SE.bin .add .i64 (SE.ivar .i64 50) (SE.int .i64 1)), (53, UTy.sc (.int .i64), SE.max true (SE.ivar .i64 53) (SE.dvar 61).dlen), (51, UTy.sc .bool, SE.bool false), (52, UTy.dat, (SE.dvar 52).dsnoc ((SE.dlst.dsnoc (SE.dsc (.int .i64) (SE.dleaf (.int .i64) ((SE.dvar 2).dcell (SE.ivar .i64 50) 0)))).dsnoc ((SE.bvar 60).dli (SE.dvar 61))))]), ([(SE.cmp .lss (SE.ivar .i64 55) (SE.int .i64 0), false), (SE.cmp .lss (SE.dleaf (.int .i64) ((SE.dvar 2).dcell (SE.ivar .i64 50) 0)) (SE.int .i64 256), true), (SE.cmp .lss (SE.dleaf (.int .i64) ((SE.dvar 2).dcell (SE.ivar .i64 50) 0)) (SE.int .i64 0), false), (SE.cmp .lss (SE.ivar .i64 50) (SE.dvar 2).dlen, true), (SE.cmp .lss (SE.ivar .i64 50) (SE.int .i64 0), false), (SE.cmp .lss (SE.dvar 52).dlen (SE.int .i64 301), true), (SE.cmp .lss (SE.dvar 2).dlen (SE.int .i64 301), true)], Sm.out 1 [(62, UTy.sc (.int .i64), SE.int .i64 7), (65, UTy.sc (.int .i64), SE.ivar .i64 53), (63, UTy.sc .bool, SE.bvar 51), (64, UTy.dat, SE.dvar 52)])]
def MN1e : List (PC × Sm) := [([(SE.cmp .lss (SE.ivar .i64 50) (SE.dvar 2).dlen, false), (SE.cmp .lss (SE.ivar .i64 50) (SE.int .i64 0), false), (SE.cmp .lss (SE.dvar 52).dlen (SE.int .i64 301), true), (SE.cmp .lss (SE.dvar 2).dlen (SE.int .i64 301), true)], Sm.out 0 [(65, UTy.sc (.int .i64), SE.ivar .i64 53), (63, UTy.sc .bool, SE.bvar 51), (64, UTy.dat, SE.dvar 52)])]
theorem run_N1 (r : Nat → Value) : rnN1 r = some MN1 := by kernel_rfl
theorem run_N1e (r : Nat → Value) : rnN1e r = some MN1e := by kernel_rfl
theorem run_N2 (r : Nat → Value) : rnN2 r = some MN2 := by kernel_rfl
theorem run_N3 (r : Nat → Value) : rnN3 r = some MN3 := by kernel_rfl
theorem st_N1 : startOf LN1.D = some [(50, .sc (.int .i64), .int .i64 0), (53, .sc (.int .i64), .int .i64 1), (51, .sc .bool, .bool true), (52, .dat, .dlst)] := by kernel_rfl
theorem st_N3 : startOf LN3.D = some [(57, .sc (.int .i64), .int .i64 0), (58, .sc .bool, .bool true), (59, .dat, .dlst)] := by kernel_rfl
theorem noneN_ok (ρ : Nat → Value) : SpecOk Try.prog (tbN.atS ρ noSp noLp) := SpecOk.none (fun _ _ _ => rfl) (fun _ _ => rfl)
/-- A level, a key as New keeps them. -/
def cpL (lr : Value) : Value := listD [listD (symsD lr)]
def cpK (r : Value) : Value := listD [.int .i64 (codeD r), if (levD r).length = 0 then .nilFunc else listD ((levD r).map cpL)]
theorem codeD_rng (r : Value) : -9223372036854775808 ≤ codeD r ∧ codeD r ≤ 9223372036854775807 := ⟨(wrap_range .i64 _).1 _ rfl, (wrap_range .i64 _).2 _ rfl⟩
theorem code_cpK (r : Value) : codeD (cpK r) = codeD r := i64_id (codeD_rng r).1 (codeD_rng r).2
theorem lev_cpK (r : Value) : levD (cpK r) = (levD r).map cpL := by
  show elsD (if (levD r).length = 0 then .nilFunc else listD ((levD r).map cpL)) = _
  split
  · rename_i h
    rw [List.length_eq_zero_iff.1 h]
    rfl
  · show ((levD r).map cpL).toArray.toList = _
    simp
theorem els_list (l : List Value) : elsD (listD l) = l := by show l.toArray.toList = l; simp
theorem syms_cpL (lr : Value) : symsD (cpL lr) = symsD lr := by
  show elsD (listD (symsD lr)) = _
  rw [els_list]
theorem idx_map {c : Int} {f : Value → Value} (hf : ∀ r, codeD (f r) = codeD r) : ∀ l : List Value, idxD c (l.map f) = idxD c l
  | [] => rfl
  | r :: l => by simp only [List.map_cons, idxD, hf, idx_map hf l]
/-- A number of the row that the unknown 50 counts. -/
theorem code_num {ρ : Nat → Value} {z : Nat} (h : (SE.ivar .i64 50).num ρ = z) : (SE.dleaf (.int .i64) (.dcell (.dvar 2) (.ivar .i64 50) 0)).num ρ = codeD ((elsD (ρ 2)).getD z .nilFunc) := by
  rw [n_leaf, d_cell, h, Int.toNat_natCast]
  rfl
theorem LN2_ok {ρ : Nat → Value} {c : Int} (hc : (SE.dleaf (.int .i64) (.dcell (.dvar 2) (.ivar .i64 50) 0)).num ρ = c) (h54 : ρ 54 = .int .i64 0) (h55 : ρ 55 = .int .i64 (idxD c (elsD (ρ 52))))
    (h67 : ρ 67 = .int .i64 (codeD ((elsD (ρ 52)).getD (idxD c (elsD (ρ 52))).toNat .nilFunc))) (h68 : truthOf (ρ 68) = isNilD (cellD ((elsD (ρ 52)).getD (idxD c (elsD (ρ 52))).toNat .nilFunc) 1)) (h69 : ρ 69 = cellD ((elsD (ρ 52)).getD (idxD c (elsD (ρ 52))).toNat .nilFunc) 1)
    (hn : (elsD (ρ 52)).length ≤ 1000) : LoopPOk Try.prog (tbN.atS ρ noSp noLp) LN2 := by
  have hr := idxD_range c (elsD (ρ 52))
  have e55 : (SE.ivar .i64 55).num ρ = idxD c (elsD (ρ 52)) := iv_at h55 (by omega) (by omega)
  refine fam_loop (Tb.only_ok tb_ok _) (Tb.only_wf tb_wf _) (m := 54) (ms := []) (g := fun _ => ρ) (n := (elsD (ρ 52)).length) (Q := fun x => idxFrom c (elsD (ρ 52)) x = idxD c (elsD (ρ 52))) h54 (fun k hk => by simp at hk)
    (fun x _ _ => noneN_ok _) (by kernel_rfl) rfl rfl (idxFrom_zero _ _) st_N2 (UpdOk.int (ivar_zero h54) .nil) (fun _ => rfl) (kn := kn0) (n0 := 100) (n1 := 100) (n2 := 100) (fun x => kn0_ok) (pc := pcN2) (fun x hx _ => pc_fam (by omega) (PC.holds_nil _)) run_N2 ?_
  intro x hx1 hx2
  rw [show wayOf ρ LN2.cs = if (SE.ivar .i64 55).num ρ < 0 then 0 else 1 from way_neg, e55]
  have h2 : (SE.dvar 52).data (fam ρ 54 [] (fun _ => ρ) x) = ρ 52 := rfl
  have h0 : (SE.dleaf (.int .i64) (.dcell (.dvar 2) (.ivar .i64 50) 0)).num (fam ρ 54 [] (fun _ => ρ) x) = c := hc
  have hN := n_fam (ρ := ρ) (m := 54) (ms := []) (g := fun _ => ρ) (show x ≤ 9223372036854775807 by omega)
  have hrow : ∀ j, (SE.dcell (.dvar 52) (.ivar .i64 54) j).data (fam ρ 54 [] (fun _ => ρ) x) = cellD ((elsD (ρ 52)).getD x .nilFunc) j := fun j => by rw [d_cell, h2, hN, Int.toNat_natCast]
  have hcd : (SE.dleaf (.int .i64) (.dcell (.dvar 52) (.ivar .i64 54) 0)).num (fam ρ 54 [] (fun _ => ρ) x) = codeD ((elsD (ρ 52)).getD x .nilFunc) := by rw [n_leaf, hrow]; rfl
  unfold MN2
  rw [all_cons, all_cons, all_cons]
  refine ⟨fun hp => ?_, fun hp => ?_, fun hp => ?_, fun _ h => by simp at h⟩
  all_goals simp only [h_cons, h_nil, t_lss, t_eql, n_int, n_dlen, h0, h2, hN, hcd, if_true, Bool.false_eq_true, if_false] at hp
  · obtain ⟨h1, h3, _⟩ := hp
    rw [idxFrom_hit (by omega) h1] at hx2
    have hix : (idxD c (elsD (ρ 52))).toNat = x := by rw [← hx2]; simp
    rw [hix] at h67 h68 h69
    refine ⟨by rw [← hx2, if_neg (by omega)], UpdOk.int ?_ (UpdOk.bool ?_ (UpdOk.dat ?_ .nil))⟩
    · rw [hcd]
      exact (iv_at (show fam ρ 54 [] (fun _ => ρ) x 67 = _ from h67) (codeD_rng _).1 (codeD_rng _).2).symm
    · show isNilD ((SE.dcell (.dvar 52) (.ivar .i64 54) 1).data _) = truthOf (ρ 68)
      rw [hrow, h68]
    · rw [hrow]
      exact h69.symm
  · obtain ⟨h1, h3, _⟩ := hp
    rw [idxFrom_miss (by omega) h1] at hx2
    exact ⟨by omega, hx2, UpdOk.int (next_fam (by omega)) .nil⟩
  · rw [idxFrom_end (by omega)] at hx2
    rw [← hx2]
    exact ⟨rfl, .nil⟩
theorem LN3_ok {ρ : Nat → Value} {z : Nat} (h50 : (SE.ivar .i64 50).num ρ = z) (h57 : ρ 57 = .int .i64 0) (h58 : ρ 58 = .bool true) (h59 : ρ 59 = listD []) (h60 : ρ 60 = .bool (decide ((levD ((elsD (ρ 2)).getD z .nilFunc)).length = 0))) (h61 : ρ 61 = listD ((levD ((elsD (ρ 2)).getD z .nilFunc)).map cpL))
    (hn : smallLv (levD ((elsD (ρ 2)).getD z .nilFunc))) : LoopPOk Try.prog (tbN.atS ρ noSp noLp) LN3 := by
  generalize hL : levD ((elsD (ρ 2)).getD z .nilFunc) = L at *
  generalize hg : (fun (x n : Nat) => if Nat.beq n 58 then Value.bool (decide (x = 0)) else listD ((L.take x).map cpL)) = g
  have hn1 := hn.1
  have h2 : ∀ x, (SE.dvar 2).data (fam ρ 57 [58, 59] g x) = ρ 2 := fun x => rfl
  have h50x : ∀ x, (SE.ivar .i64 50).num (fam ρ 57 [58, 59] g x) = z := fun x => h50
  have hN : ∀ x, x ≤ L.length → (SE.ivar .i64 57).num (fam ρ 57 [58, 59] g x) = x := fun x hx => n_fam (by omega)
  have h58x : ∀ x, fam ρ 57 [58, 59] g x 58 = .bool (decide (x = 0)) := fun x => by rw [← hg]; rfl
  have h59x : ∀ x, fam ρ 57 [58, 59] g x 59 = listD ((L.take x).map cpL) := fun x => by rw [← hg]; rfl
  have hd59 : ∀ x, (SE.dvar 59).data (fam ρ 57 [58, 59] g x) = listD ((L.take x).map cpL) := h59x
  have hlv : ∀ x, elsD ((SE.dcell (.dvar 2) (.ivar .i64 50) 1).data (fam ρ 57 [58, 59] g x)) = L := fun x => by rw [d_cell, h2, h50x, Int.toNat_natCast]; exact hL
  have hrow : ∀ x, x ≤ L.length → elsD ((SE.dcell (.dcell (.dvar 2) (.ivar .i64 50) 1) (.ivar .i64 57) 0).data (fam ρ 57 [58, 59] g x)) = symsD (L.getD x .nilFunc) := fun x hx => by rw [d_cell, hlv, hN x hx, Int.toNat_natCast]; rfl
  refine fam_loop (Tb.only_ok tb_ok _) (Tb.only_wf tb_wf _) (m := 57) (ms := [58, 59]) (g := g) (n := L.length) (Q := fun x => True) h57 (fun k hk => by
      rcases List.mem_cons.1 hk with rfl | hk
      · rw [h58, ← hg]; rfl
      · rw [List.mem_singleton.1 hk, h59, ← hg]; rfl)
    (fun x _ _ => noneN_ok _) (by kernel_rfl) rfl rfl trivial st_N3 (UpdOk.int (ivar_zero h57) (UpdOk.bool (by rw [h58]; rfl) (UpdOk.dat (by rw [h59]; rfl) .nil))) (fun _ => rfl) (kn := kn0) (n0 := 100) (n1 := 100) (n2 := 100) (fun x => kn0_ok) (pc := pcN3)
    (fun x hx _ => pc_fam (by omega) (addPC_ok (addPC_ok (PC.holds_nil _) (by rw [t_lss, if_pos rfl, n_dlen, n_int, hd59, els_list, List.length_map, List.length_take]; omega)) (by rw [t_lss, if_pos rfl, n_dlen, n_int, hrow x hx]; have := small_row hn x; omega))) run_N3 ?_
  intro x hx1 _
  have nxt : ∀ (h : x < L.length) (e : SE), e.data (fam ρ 57 [58, 59] g x) = cpL (L.getD x .nilFunc) → (SE.dsnoc (.dvar 59) e).data (fam ρ 57 [58, 59] g x) = fam ρ 57 [58, 59] g (x + 1) 59 := by
    intro h e he
    show listD (elsD ((SE.dvar 59).data _) ++ [e.data _]) = _
    rw [hd59, els_list, he, h59x, List.take_add_one, List.getElem?_eq_getElem h, List.map_append, getD_at h]
    rfl
  unfold MN3
  rw [all_cons, all_cons, all_cons]
  refine ⟨fun hp => ?_, fun hp => ?_, fun hp => ?_, fun _ h => by simp at h⟩
  all_goals simp only [h_cons, h_nil, t_lss, t_eql, n_int, n_dlen, hlv, hrow x hx1, hN x hx1, if_true, Bool.false_eq_true, if_false] at hp
  · obtain ⟨h1, h3, _⟩ := hp
    refine ⟨by omega, trivial, UpdOk.int (next_fam (by omega)) (UpdOk.bool (by rw [h58x]; rfl) (UpdOk.dat (nxt (by omega) _ ?_) .nil))⟩
    show listD ([] ++ [listD []]) = listD [listD (symsD (L.getD x .nilFunc))]
    rw [List.length_eq_zero_iff.1 (show (symsD (L.getD x .nilFunc)).length = 0 by omega)]
    rfl
  · obtain ⟨h1, h3, _⟩ := hp
    refine ⟨by omega, trivial, UpdOk.int (next_fam (by omega)) (UpdOk.bool (by rw [h58x]; rfl) (UpdOk.dat (nxt (by omega) _ ?_) .nil))⟩
    show listD ([] ++ [listD (elsD (listD ([] ++ elsD ((SE.dcell (.dcell (.dvar 2) (.ivar .i64 50) 1) (.ivar .i64 57) 0).data _))))]) = listD [listD (symsD (L.getD x .nilFunc))]
    rw [hrow x hx1, els_list]
    rfl
  · obtain ⟨h1, _⟩ := hp
    have hxe : x = L.length := by omega
    refine ⟨rfl, UpdOk.bool ?_ (UpdOk.dat ?_ .nil)⟩
    · show truthOf (fam ρ 57 [58, 59] g x 58) = truthOf (ρ 60)
      rw [h58x, h60, hxe]
    · rw [hd59, hxe, List.take_length]
      exact h61.symm
/-- The first error from some keys before the end on. -/
def errN (l : List Value) : Nat → Int
  | 0 => 0
  | k + 1 => if refErr l (l.length - (k + 1)) = 0 then errN l k else refErr l (l.length - (k + 1))
def errD (l : List Value) (x : Nat) : Int := errN l (l.length - x)
theorem errN_succ (l : List Value) (k : Nat) : errN l (k + 1) = if refErr l (l.length - (k + 1)) = 0 then errN l k else refErr l (l.length - (k + 1)) := rfl
theorem errD_lt {l : List Value} {x : Nat} (h : x < l.length) : errD l x = if refErr l x = 0 then errD l (x + 1) else refErr l x := by
  unfold errD
  rw [show l.length - x = (l.length - (x + 1)) + 1 by omega]
  rw [errN_succ, show l.length - (l.length - (x + 1) + 1) = x by omega]
theorem errD_end {l : List Value} {x : Nat} (h : l.length ≤ x) : errD l x = 0 := by
  unfold errD
  rw [show l.length - x = 0 by omega]
  rfl
/-- How many keys come before the first error. -/
def ixN (l : List Value) : Nat → Nat
  | 0 => l.length
  | k + 1 => if refErr l (l.length - (k + 1)) = 0 then ixN l k else l.length - (k + 1)
def ixD (l : List Value) (x : Nat) : Nat := ixN l (l.length - x)
theorem ixN_succ (l : List Value) (k : Nat) : ixN l (k + 1) = if refErr l (l.length - (k + 1)) = 0 then ixN l k else l.length - (k + 1) := rfl
theorem ixD_lt {l : List Value} {x : Nat} (h : x < l.length) : ixD l x = if refErr l x = 0 then ixD l (x + 1) else x := by
  unfold ixD
  rw [show l.length - x = (l.length - (x + 1)) + 1 by omega]
  rw [ixN_succ, show l.length - (l.length - (x + 1) + 1) = x by omega]
theorem ixD_end {l : List Value} {x : Nat} (h : l.length ≤ x) : ixD l x = l.length := by
  unfold ixD
  rw [show l.length - x = 0 by omega]
  rfl
theorem ix_of_ok (l : List Value) : ∀ k, errN l k = 0 → ixN l k = l.length
  | 0, _ => rfl
  | k + 1, h => by
    rw [errN_succ] at h
    rw [ixN_succ]
    split at h
    · rename_i hc
      rw [if_pos hc]
      exact ix_of_ok l k h
    · rename_i hc
      exact absurd h hc
theorem chkD_rng (ls : List Value) : 0 ≤ chkD ls 5 2 6 ∧ chkD ls 5 2 6 ≤ 6 := by
  unfold chkD
  split
  · omega
  · split
    · omega
    · split
      · omega
      · split <;> omega
theorem refErr_rng (l : List Value) (x : Nat) : 0 ≤ refErr l x ∧ refErr l x ≤ 7 := by
  unfold refErr
  have := chkD_rng (levD (l.getD x .nilFunc))
  split
  · omega
  · split <;> omega
theorem errN_rng (l : List Value) : ∀ k, 0 ≤ errN l k ∧ errN l k ≤ 7
  | 0 => by simp [errN]
  | k + 1 => by
    unfold errN
    split
    · exact errN_rng l k
    · exact refErr_rng l _
theorem errD_rng (l : List Value) (x : Nat) : 0 ≤ errD l x ∧ errD l x ≤ 7 := errN_rng l _
/-- What the unknowns are after some keys. -/
def gN (l : List Value) (x n : Nat) : Value :=
  if Nat.beq n 51 then .bool (decide (x = 0)) else if Nat.beq n 52 then listD ((l.take x).map cpK) else if Nat.beq n 53 then .int .i64 (laysD (l.take x)) else
  if Nat.beq n 55 then .int .i64 (idxD (codeD (l.getD x .nilFunc)) ((l.take x).map cpK)) else if Nat.beq n 56 then .int .i64 (chkD (levD (l.getD x .nilFunc)) 5 2 6) else
  if Nat.beq n 60 then .bool (decide ((levD (l.getD x .nilFunc)).length = 0)) else if Nat.beq n 61 then listD ((levD (l.getD x .nilFunc)).map cpL) else
  if Nat.beq n 67 then .int .i64 (codeD (((l.take x).map cpK).getD (idxD (codeD (l.getD x .nilFunc)) ((l.take x).map cpK)).toNat .nilFunc)) else
  if Nat.beq n 68 then .bool (isNilD (cellD (((l.take x).map cpK).getD (idxD (codeD (l.getD x .nilFunc)) ((l.take x).map cpK)).toNat .nilFunc) 1)) else
  cellD (((l.take x).map cpK).getD (idxD (codeD (l.getD x .nilFunc)) ((l.take x).map cpK)).toNat .nilFunc) 1
def msN : List Nat := [51, 52, 53, 55, 56, 60, 61, 67, 68, 69]
theorem way_eq0 {ρ : Nat → Value} {e : SE} : wayOf ρ [.cmp .eql e (.int .i64 0)] = if e.num ρ = 0 then 0 else 1 := by
  show (if (SE.cmp .eql e (.int .i64 0)).truth ρ = true then 0 else 0 + 1) = _
  rw [(truth_cmp _ _ _).1]
  have : (SE.int .i64 0).num ρ = 0 := rfl
  rw [this]
  by_cases h : e.num ρ = 0 <;> simp [h]
theorem large_at {ρ : Nat → Value} (hb : Bnd (ρ 2)) (hl : largeD (elsD (ρ 2)) = false) : EntryOk Try.prog tb.glob ρ eLarge := by
  refine ⟨⟨_, Try.func9, by kernel_rfl, by kernel_rfl⟩, by kernel_rfl, fun q hq => by simp [eLarge] at hq, ?_⟩
  have key := large_fnc (ρ := envL [(1, .bool (isNilD (ρ 2))), (2, ρ 2), (10, .int .i64 0), (20, .int .i64 0), (21, .bool ((levD ((elsD (ρ 2)).getD 0 .nilFunc)).any wideL)), (11, .bool ((elsD (ρ 2)).any wideK))]) rfl rfl rfl rfl hb
  have e : largeD (elsD (envL [(1, Value.bool (isNilD (ρ 2))), (2, ρ 2), (10, .int .i64 0), (20, .int .i64 0), (21, .bool ((levD ((elsD (ρ 2)).getD 0 .nilFunc)).any wideL)), (11, .bool ((elsD (ρ 2)).any wideK))] 2)) = false := hl
  rw [e] at key
  exact key.at (us := [(1, .sc .bool, .dnil (.dvar 2)), (2, .dat, .dvar 2)]) (by kernel_rfl) (UpdOk.bool rfl (UpdOk.dat rfl .nil))
theorem check_at {ρ : Nat → Value} {z : Nat} (h50 : (SE.ivar .i64 50).num ρ = z) (h56 : ρ 56 = .int .i64 (chkD (levD ((elsD (ρ 2)).getD z .nilFunc)) 5 2 6)) (hn : smallLv (levD ((elsD (ρ 2)).getD z .nilFunc))) : EntryOk Try.prog tb.glob ρ eCheck := by
  refine ⟨⟨_, Try.func25, by kernel_rfl, by kernel_rfl⟩, by kernel_rfl, fun q hq => by simp [eCheck] at hq, ?_⟩
  have hr := chkD_rng (levD ((elsD (ρ 2)).getD z .nilFunc))
  have e6 : eCheck.res.atR ρ = .int .i64 (chkD (levD ((elsD (ρ 2)).getD z .nilFunc)) 5 2 6) := by
    show Value.int .i64 ((SE.ivar .i64 56).num ρ) = _
    rw [iv_at h56 (by omega) (by omega)]
  rw [e6]
  have hd : (SE.dcell (.dvar 2) (.ivar .i64 50) 1).data ρ = cellD ((elsD (ρ 2)).getD z .nilFunc) 1 := by rw [d_cell, h50, Int.toNat_natCast]; rfl
  have key := check_fnc (ρ := envL [(0, .int .i64 (codeD ((elsD (ρ 2)).getD z .nilFunc))), (1, .bool (isNilD (cellD ((elsD (ρ 2)).getD z .nilFunc) 1))), (2, cellD ((elsD (ρ 2)).getD z .nilFunc) 1), (10, .int .i64 0), (11, .bool ((levD ((elsD (ρ 2)).getD z .nilFunc)).any manyD)), (20, .int .i64 0), (30, .int .i64 0),
    (31, .bool (wildsD ((levD ((elsD (ρ 2)).getD z .nilFunc)).getD 0 .nilFunc))), (21, .bool ((levD ((elsD (ρ 2)).getD z .nilFunc)).any wildsD))]) rfl rfl rfl rfl rfl rfl hn
  refine key.at (us := [(0, .sc (.int .i64), .dleaf (.int .i64) (.dcell (.dvar 2) (.ivar .i64 50) 0)), (1, .sc .bool, .dnil (.dcell (.dvar 2) (.ivar .i64 50) 1)), (2, .dat, .dcell (.dvar 2) (.ivar .i64 50) 1)]) (by kernel_rfl) ?_
  refine UpdOk.int ?_ (UpdOk.bool ?_ (UpdOk.dat hd .nil))
  · rw [code_num h50]
    exact (i64_id (codeD_rng _).1 (codeD_rng _).2).symm
  · show isNilD ((SE.dcell (.dvar 2) (.ivar .i64 50) 1).data ρ) = _
    rw [hd]
    rfl
theorem LN1_ok {ρ : Nat → Value} (hb : Bnd (ρ 2)) (hl : largeD (elsD (ρ 2)) = false) (h50 : ρ 50 = .int .i64 0) (hms : ∀ k, k ∈ msN → ρ k = gN (elsD (ρ 2)) 0 k) (h54 : ρ 54 = .int .i64 0) (h57 : ρ 57 = .int .i64 0) (h58 : ρ 58 = .bool true) (h59 : ρ 59 = listD [])
    (h62 : ρ 62 = .int .i64 (errD (elsD (ρ 2)) 0)) (h63 : ρ 63 = .bool (decide (ixD (elsD (ρ 2)) 0 = 0))) (h64 : ρ 64 = listD (((elsD (ρ 2)).take (ixD (elsD (ρ 2)) 0)).map cpK)) (h65 : ρ 65 = .int .i64 (laysD ((elsD (ρ 2)).take (ixD (elsD (ρ 2)) 0)))) : LoopPOk Try.prog (tbN.atS ρ spN lpN1) LN1 := by
  obtain ⟨hl1, hsm, hl3⟩ := large_small hl
  generalize hL : elsD (ρ 2) = L at *
  have hF : ∀ x, fam ρ 50 msN (gN L) x = fam ρ 50 msN (gN L) x := fun _ => rfl
  have h2 : ∀ x, (SE.dvar 2).data (fam ρ 50 msN (gN L) x) = ρ 2 := fun x => rfl
  have h2e : ∀ x, elsD (fam ρ 50 msN (gN L) x 2) = L := fun x => hL
  have hN : ∀ x, x ≤ L.length → (SE.ivar .i64 50).num (fam ρ 50 msN (gN L) x) = x := fun x hx => n_fam (by omega)
  have v52 : ∀ x, (SE.dvar 52).data (fam ρ 50 msN (gN L) x) = listD ((L.take x).map cpK) := fun x => rfl
  have e52 : ∀ x, elsD (fam ρ 50 msN (gN L) x 52) = (L.take x).map cpK := fun x => els_list _
  have hcode : ∀ x, x ≤ L.length → (SE.dleaf (.int .i64) (.dcell (.dvar 2) (.ivar .i64 50) 0)).num (fam ρ 50 msN (gN L) x) = codeD (L.getD x .nilFunc) := fun x hx => by rw [code_num (hN x hx), h2e]
  have hidx := fun x => idxD_range (codeD (L.getD x .nilFunc)) ((L.take x).map cpK)
  have hlen : ∀ x, ((L.take x).map cpK).length ≤ 300 := fun x => by rw [List.length_map, List.length_take]; omega
  have e55 : ∀ x, (SE.ivar .i64 55).num (fam ρ 50 msN (gN L) x) = idxD (codeD (L.getD x .nilFunc)) (L.take x) := fun x => by
    rw [iv_at (show fam ρ 50 msN (gN L) x 55 = .int .i64 (idxD (codeD (L.getD x .nilFunc)) ((L.take x).map cpK)) from rfl) (by have := hidx x; omega) (by have := hidx x; have := hlen x; omega), idx_map code_cpK]
  have hchk := fun x => chkD_rng (levD (L.getD x .nilFunc))
  have e56 : ∀ x, (SE.ivar .i64 56).num (fam ρ 50 msN (gN L) x) = chkD (levD (L.getD x .nilFunc)) 5 2 6 := fun x => iv_at (show fam ρ 50 msN (gN L) x 56 = _ from rfl) (by have := hchk x; omega) (by have := hchk x; omega)
  have e53 : ∀ x, (SE.ivar .i64 53).num (fam ρ 50 msN (gN L) x) = laysD (L.take x) := fun x => n_iv (show fam ρ 50 msN (gN L) x 53 = _ from rfl) (by have := hsm.lays x; omega)
  have her := errD_rng L 0
  have e62 : ∀ x, (SE.ivar .i64 62).num (fam ρ 50 msN (gN L) x) = errD L 0 := fun x => iv_at (show fam ρ 50 msN (gN L) x 62 = _ from h62) (by omega) (by omega)
  have hcs : ∀ x, wayOf (fam ρ 50 msN (gN L) x) LN1.cs = if errD L 0 = 0 then 0 else 1 := fun x => by
    show wayOf _ [.cmp .eql (.ivar .i64 62) (.int .i64 0)] = _
    rw [way_eq0, e62]
  have hw : wayOf ρ LN1.cs = if errD L 0 = 0 then 0 else 1 := by
    show wayOf _ [.cmp .eql (.ivar .i64 62) (.int .i64 0)] = _
    rw [way_eq0, iv_at h62 (by omega) (by omega)]
  have hpc0 : ∀ x, x ≤ L.length → pcN0.holds (fam ρ 50 msN (gN L) x) := fun x hx => pc_fam (by omega) (addPC_ok (addPC_ok (PC.holds_nil _) (by rw [t_lss, if_pos rfl, n_dlen, n_int, h2, hL]; omega)) (by rw [t_lss, if_pos rfl, n_dlen, n_int, v52, els_list]; have := hlen x; omega))
  have outs : ∀ x, x = ixD L 0 → UpdOk (fam ρ 50 msN (gN L) x) (fam ρ 50 msN (gN L) x) [(65, .sc (.int .i64), .ivar .i64 53), (63, .sc .bool, .bvar 51), (64, .dat, .dvar 52)] := by
    intro x hx
    refine UpdOk.int ?_ (UpdOk.bool ?_ (UpdOk.dat ?_ .nil))
    · rw [e53, hx]
      exact (n_iv (show fam ρ 50 msN (gN L) (ixD L 0) 65 = _ from h65) (by have := hsm.lays (ixD L 0); omega)).symm
    · show decide (x = 0) = truthOf (ρ 63)
      rw [h63, hx]
      rfl
    · rw [v52, hx]
      exact h64.symm
  refine fam_loopE (Tb.only_ok tb_ok _) (Tb.only_wf tb_wf _) (m := 50) (ms := msN) (g := gN L) (n := L.length) (Q := fun x => errD L x = errD L 0 ∧ ixD L x = ixD L 0) h50 hms
    (fun x hx _ => specP_of (l := [LN2, LN3]) (fs := fsN) (fun f fn hf => (Tb.only_func hf).1) (spOf_ok (tb := tbN) (l := [eLarge, eCheck]) (fun e he => by
        rcases List.mem_cons.1 he with rfl | he
        · exact large_at hb (by rw [h2e]; exact hl)
        · rw [List.mem_singleton.1 he]
          exact check_at (z := x) (hN x (by omega)) (by rw [h2e]; rfl) (by rw [h2e]; exact hsm.row x))) (by kernel_rfl) (fun e he => by
      rcases List.mem_cons.1 he with rfl | he
      · refine LoopPOk.tb (tb := tbN.atS (fam ρ 50 msN (gN L) x) noSp noLp) (tb' := tbN.atS (fam ρ 50 msN (gN L) x) spN noLp) rfl rfl rfl (LN2_ok (c := codeD (L.getD x .nilFunc)) (hcode x (by omega)) h54 ?_ ?_ ?_ ?_ ?_)
        · rw [e52]; rfl
        · rw [e52]; rfl
        · rw [e52]; rfl
        · rw [e52]; rfl
        · rw [e52]; have := hlen x; omega
      · rw [List.mem_singleton.1 he]
        exact LoopPOk.tb (tb := tbN.atS (fam ρ 50 msN (gN L) x) noSp noLp) (tb' := tbN.atS (fam ρ 50 msN (gN L) x) spN noLp) rfl rfl rfl (LN3_ok (z := x) (hN x (by omega)) h57 h58 h59 (by rw [h2e]; rfl) (by rw [h2e]; rfl) (by rw [h2e]; exact hsm.row x))))
    (by kernel_rfl) rfl rfl ⟨rfl, rfl⟩ st_N1 (UpdOk.int (ivar_zero h50) (UpdOk.int (by rw [n_int]; exact (n_iv (x := 1) (hms 53 (by decide)) (by omega)).symm) (UpdOk.bool (by rw [hms 51 (by decide)]; rfl) (UpdOk.dat (by rw [hms 52 (by decide)]; rfl) .nil)))) (fun x => (hcs x).trans hw.symm)
    (kn := kn0) (n0 := 100) (n1 := 100) (n2 := 100) (fun x => kn0_ok) (fun x => kn0_ok) (pc := pcN1) (pcE := pcN1e)
    (fun x hx _ => addPC_ok (hpc0 x (by omega)) (by rw [t_lss, if_pos rfl, hN x (by omega), n_dlen, h2, hL]; omega))
    (fun _ => addPC_ok (hpc0 _ (Nat.le_refl _)) (by rw [t_lss, if_neg (by simp), hN _ (Nat.le_refl _), n_dlen, h2, hL]; omega)) run_N1 run_N1e ?_ ?_
  · intro x hx1 hx2
    have hx1' : x ≤ L.length := Nat.le_of_lt hx1
    obtain ⟨hx2, hx3⟩ := hx2
    rw [errD_lt hx1] at hx2
    rw [ixD_lt hx1] at hx3
    have hre := refErr_rng L x
    rw [hw]
    have bad : ∀ e : SE, e.num (fam ρ 50 msN (gN L) x) = refErr L x → refErr L x ≠ 0 → RdOk (fam ρ 50 msN (gN L)) L.length (fun x => errD L x = errD L 0 ∧ ixD L x = ixD L 0) (if errD L 0 = 0 then 0 else 1) x (.out 1 [(62, .sc (.int .i64), e), (65, .sc (.int .i64), .ivar .i64 53), (63, .sc .bool, .bvar 51), (64, .dat, .dvar 52)]) := by
      intro e he h0
      rw [if_neg h0] at hx2 hx3
      refine ⟨by rw [← hx2, if_neg h0], UpdOk.int ?_ (outs x hx3)⟩
      rw [he, e62, hx2]
    unfold MN1
    rw [all_cons, all_cons, all_cons, all_cons, all_cons]
    refine ⟨fun hp => ?_, fun hp => ?_, fun hp => ?_, fun hp => ?_, fun hp => ?_, fun _ h => by simp at h⟩
    all_goals simp only [h_cons, h_nil, t_lss, t_eql, n_int, hcode x hx1', e55, e56, if_true, Bool.false_eq_true, if_false] at hp
    · have hv : refErr L x = 6 := by unfold refErr; rw [if_pos (.inl hp.1)]
      exact bad (.int .i64 6) (by rw [hv]; rfl) (by omega)
    · have hv : refErr L x = 6 := by unfold refErr; rw [if_pos (.inr (by omega))]
      exact bad (.int .i64 6) (by rw [hv]; rfl) (by omega)
    · have hv : refErr L x = chkD (levD (L.getD x .nilFunc)) 5 2 6 := by unfold refErr; rw [if_neg (by omega), if_neg (by omega)]
      exact bad (.ivar .i64 56) (by rw [hv, e56]) (by rw [hv]; exact hp.1)
    · have hv : refErr L x = 0 := by unfold refErr; rw [if_neg (by omega), if_neg (by omega)]; exact hp.1
      rw [if_pos hv] at hx2 hx3
      refine ⟨hx1, ⟨hx2, hx3⟩, UpdOk.int (next_fam (by omega)) (UpdOk.int ?_ (UpdOk.bool rfl (UpdOk.dat ?_ .nil)))⟩
      · rw [n_max, e53, e53, n_dlen, lays_take hx1]
        have h61 : elsD ((SE.dvar 61).data (fam ρ 50 msN (gN L) x)) = (levD (L.getD x .nilFunc)).map cpL := els_list _
        rw [h61, List.length_map]
        split <;> omega
      · show listD (elsD ((SE.dvar 52).data _) ++ [listD (elsD (listD (elsD (listD []) ++ [.int .i64 ((SE.dleaf (.int .i64) (.dcell (.dvar 2) (.ivar .i64 50) 0)).num _)])) ++ [if (decide ((levD (L.getD x .nilFunc)).length = 0)) = true then .nilFunc else listD (elsD (listD ((levD (L.getD x .nilFunc)).map cpL)))])]) = listD ((L.take (x + 1)).map cpK)
        rw [v52, els_list, els_list, els_list, els_list, hcode x hx1', List.take_add_one, List.getElem?_eq_getElem hx1, List.map_append, getD_at hx1]
        show listD (_ ++ [listD [.int .i64 (codeD L[x]), if decide ((levD L[x]).length = 0) = true then .nilFunc else listD ((levD L[x]).map cpL)]]) = listD (_ ++ [cpK L[x]])
        unfold cpK
        by_cases hz : (levD L[x]).length = 0 <;> simp [hz]
    · have hv : refErr L x = 7 := by unfold refErr; rw [if_neg (by omega), if_pos (by omega)]
      exact bad (.int .i64 7) (by rw [hv]; rfl) (by omega)
  · intro hx2
    obtain ⟨hx2, hx3⟩ := hx2
    rw [errD_end (Nat.le_refl _)] at hx2
    rw [ixD_end (Nat.le_refl _)] at hx3
    rw [hw]
    unfold MN1e
    rw [all_cons]
    refine ⟨fun hp => ?_, fun _ h => by simp at h⟩
    exact ⟨by rw [← hx2]; rfl, outs _ hx3⟩
end
end Go.Proofs.Ytaidiaiedhbaoaa
