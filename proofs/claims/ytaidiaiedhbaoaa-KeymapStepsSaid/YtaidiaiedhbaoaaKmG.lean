/- The reference's check, as a contract. -/
import Derived.Test.YtaidiaiedhbaoaaKmA2
/- The reference's check, as a contract. -/
set_option linter.unusedVariables false
set_option linter.unusedSimpArgs false
namespace Go.Proofs.Ytaidiaiedhbaoaa
open Go.Sx Go.ChangeShapes Go.WideShapes Go.ChangeAt Go.RowKit
noncomputable section
def tbC : Tb := tb.only [37]
def argC : List V := [.sli shK (.bvar 1) (.dvar 2) .unk, iv 5]
def eFind : Entry := { f := 29, args := [.sli shK (.bvar 1) (.dcut (.dvar 2) (.int .i64 0) (.ivar .i64 5)) .unk, .sym (.int .i64) (.dleaf (.int .i64) (.dcell (.dvar 2) (.ivar .i64 5) 0))], res := iv 6 }
def spC : Sp := spOf [eFind]
def pcC0 : PC := addPC (.cmp .lss (.ivar .i64 5) (.dlen (.dvar 2))) true (addPC (.cmp .leq (.int .i64 0) (.ivar .i64 5)) true [])
def entC1 : St := { env := (((((Tr.leaf.node (some (V.sym STy.bool (SE.cmp .gtr ((SE.dvar 2).dcell (SE.ivar .i64 5) 1).dlen (SE.int .i64 4)))) Tr.leaf).node (some (V.sym STy.bool (SE.cmp .lss (SE.dleaf (STy.int .i64) ((SE.dvar 2).dcell (SE.ivar .i64 5) 0)) (SE.int .i64 0)))) Tr.leaf).node none (Tr.leaf.node (some (V.sli ((Sh.sc (STy.int .i64)).cons ((((Sh.sc (STy.int .i64)).cons Sh.nil).li.cons Sh.nil).li.cons Sh.nil)).li (SE.bvar 1) ((SE.dvar 2).dcut (SE.int .i64 0) (SE.ivar .i64 5)) Tok.unk)) Tr.leaf)).node none ((Tr.leaf.node (some (V.sym STy.bool (SE.cmp .gtr (SE.dleaf (STy.int .i64) ((SE.dvar 2).dcell (SE.ivar .i64 5) 0)) (SE.int .i64 255)))) Tr.leaf).node (some (V.cptr [V.sym (STy.int .i64) (SE.dleaf (STy.int .i64) ((SE.dvar 2).dcell (SE.ivar .i64 5) 0)), V.sli (((Sh.sc (STy.int .i64)).cons Sh.nil).li.cons Sh.nil).li ((SE.dvar 2).dcell (SE.ivar .i64 5) 1).dnil ((SE.dvar 2).dcell (SE.ivar .i64 5) 1) Tok.unk])) (Tr.leaf.node (some (V.sym STy.bool (SE.cmp .geq (SE.ivar .i64 6) (SE.int .i64 0)))) Tr.leaf))).node (some (V.sym (STy.int .i64) (SE.ivar .i64 5))) (((Tr.leaf.node (some (V.ptr 0 0)) Tr.leaf).node (some (V.sli ((Sh.sc (STy.int .i64)).cons ((((Sh.sc (STy.int .i64)).cons Sh.nil).li.cons Sh.nil).li.cons Sh.nil)).li (SE.bvar 1) (SE.dvar 2) Tok.unk)) (Tr.leaf.node (some (V.sym (STy.int .i64) (SE.dleaf (STy.int .i64) ((SE.dvar 2).dcell (SE.ivar .i64 5) 0)))) Tr.leaf)).node (some (V.ptr 0 0)) ((Tr.leaf.node (some (V.sli ((Sh.sc (STy.int .i64)).cons ((((Sh.sc (STy.int .i64)).cons Sh.nil).li.cons Sh.nil).li.cons Sh.nil)).li (SE.bvar 1) (SE.dvar 2) Tok.unk)) Tr.leaf).node (some (V.ptr 0 0)) (Tr.leaf.node (some (V.sli (((Sh.sc (STy.int .i64)).cons Sh.nil).li.cons Sh.nil).li ((SE.dvar 2).dcell (SE.ivar .i64 5) 1).dnil ((SE.dvar 2).dcell (SE.ivar .i64 5) 1) Tok.unk)) Tr.leaf)))).node (some (V.sli ((Sh.sc (STy.int .i64)).cons ((((Sh.sc (STy.int .i64)).cons Sh.nil).li.cons Sh.nil).li.cons Sh.nil)).li (SE.bvar 1) (SE.dvar 2) Tok.unk)) ((((Tr.leaf.node (some (V.sym STy.bool (SE.cmp .lss (SE.dleaf (STy.int .i64) ((SE.dvar 2).dcell (SE.ivar .i64 5) 0)) (SE.int .i64 0)))) Tr.leaf).node none (Tr.leaf.node (some (V.ptr 0 0)) Tr.leaf)).node (some (V.val (Value.int .i64 0))) ((Tr.leaf.node (some (V.sym STy.bool (SE.cmp .gtr (SE.dleaf (STy.int .i64) ((SE.dvar 2).dcell (SE.ivar .i64 5) 0)) (SE.int .i64 255)))) Tr.leaf).node (some (V.agg [V.sym (STy.int .i64) (SE.dleaf (STy.int .i64) ((SE.dvar 2).dcell (SE.ivar .i64 5) 0)), V.sli (((Sh.sc (STy.int .i64)).cons Sh.nil).li.cons Sh.nil).li ((SE.dvar 2).dcell (SE.ivar .i64 5) 1).dnil ((SE.dvar 2).dcell (SE.ivar .i64 5) 1) Tok.unk])) (Tr.leaf.node (some (V.ptr 0 1)) Tr.leaf))).node none (((Tr.leaf.node (some (V.sym (STy.int .i64) (SE.dleaf (STy.int .i64) ((SE.dvar 2).dcell (SE.ivar .i64 5) 0)))) Tr.leaf).node (some (V.sym (STy.int .i64) (SE.ivar .i64 5))) (Tr.leaf.node (some (V.sym (STy.int .i64) (SE.ivar .i64 6))) Tr.leaf)).node (some (V.val (Value.int .i64 0))) ((Tr.leaf.node (some (V.sym (STy.int .i64) (SE.ivar .i64 5))) Tr.leaf).node (some (V.sym (STy.int .i64) (SE.dleaf (STy.int .i64) ((SE.dvar 2).dcell (SE.ivar .i64 5) 0)))) (Tr.leaf.node (some (V.sym (STy.int .i64) ((SE.dvar 2).dcell (SE.ivar .i64 5) 1).dlen)) Tr.leaf)))), h := { tab := Tr.leaf.node (some (Blk.cells [V.sym (STy.int .i64) (SE.dleaf (STy.int .i64) ((SE.dvar 2).dcell (SE.ivar .i64 5) 0)), V.sli (((Sh.sc (STy.int .i64)).cons Sh.nil).li.cons Sh.nil).li ((SE.dvar 2).dcell (SE.ivar .i64 5) 1).dnil ((SE.dvar 2).dcell (SE.ivar .i64 5) 1) Tok.unk])) Tr.leaf, next := 1, base := 0, low := none } }
def pcC1 : PC := addPC (.cmp .leq (.int .i64 0) (.ivar .i64 10)) true pcC0
def LC1 : LoopP where
  f := 37
  i := 0
  key := 11141760
  D := mkLoop (loopAt tbC 37 0) entC1 [(6, iv 10)] [] [(.exit 0, [], []), (.ret, [(4, .val (.int .i64 5))], [])] 0 300 (famPat 10 []) (fun _ => false)
  cs := [.not (.bvar 11)]
theorem st_C1 : startOf LC1.D = some [(10, .sc (.int .i64), .int .i64 0)] := by kernel_rfl
def rnC1 (r : Nat → Value) := sums LC1.D (execF kn0 (callF kn0 Try.prog (tbC.atS r noSp noLp) 100 100) Try.prog (tbC.atS r noSp noLp) 100 (.code (loopAt tbC 37 0)) pcC1 LC1.D.hd)
def entC2 : St := { env := (((((Tr.leaf.node (some (V.sym STy.bool (SE.cmp .gtr ((SE.dvar 2).dcell (SE.ivar .i64 5) 1).dlen (SE.int .i64 4)))) Tr.leaf).node (some (V.sym STy.bool (SE.cmp .lss (SE.dleaf (STy.int .i64) ((SE.dvar 2).dcell (SE.ivar .i64 5) 0)) (SE.int .i64 0)))) (Tr.leaf.node (some (V.sli (((Sh.sc (STy.int .i64)).cons Sh.nil).li.cons Sh.nil).li ((SE.dvar 2).dcell (SE.ivar .i64 5) 1).dnil ((SE.dvar 2).dcell (SE.ivar .i64 5) 1) Tok.unk)) Tr.leaf)).node (some (V.val (Value.int .i64 0))) ((Tr.leaf.node (some V.top) Tr.leaf).node (some (V.sli ((Sh.sc (STy.int .i64)).cons ((((Sh.sc (STy.int .i64)).cons Sh.nil).li.cons Sh.nil).li.cons Sh.nil)).li (SE.bvar 1) ((SE.dvar 2).dcut (SE.int .i64 0) (SE.ivar .i64 5)) Tok.unk)) (Tr.leaf.node (some (V.sym (STy.int .i64) (((SE.dvar 2).dcell (SE.ivar .i64 5) 1).dcell (SE.int .i64 0) 0).dlen)) Tr.leaf))).node none (((Tr.leaf.node (some V.top) Tr.leaf).node (some (V.sym STy.bool (SE.cmp .gtr (SE.dleaf (STy.int .i64) ((SE.dvar 2).dcell (SE.ivar .i64 5) 0)) (SE.int .i64 255)))) (Tr.leaf.node (some (V.ptr 0 1)) Tr.leaf)).node (some (V.cptr [V.sym (STy.int .i64) (SE.dleaf (STy.int .i64) ((SE.dvar 2).dcell (SE.ivar .i64 5) 0)), V.sli (((Sh.sc (STy.int .i64)).cons Sh.nil).li.cons Sh.nil).li ((SE.dvar 2).dcell (SE.ivar .i64 5) 1).dnil ((SE.dvar 2).dcell (SE.ivar .i64 5) 1) Tok.unk])) ((Tr.leaf.node (some V.top) Tr.leaf).node (some (V.sym STy.bool (SE.cmp .geq (SE.ivar .i64 6) (SE.int .i64 0)))) Tr.leaf))).node (some (V.sym (STy.int .i64) (SE.ivar .i64 5))) ((((Tr.leaf.node (some V.top) Tr.leaf).node (some (V.ptr 0 0)) (Tr.leaf.node (some (V.sym STy.bool (SE.cmp .eql ((SE.dvar 2).dcell (SE.ivar .i64 5) 1).dlen (SE.int .i64 0)))) Tr.leaf)).node (some (V.sli ((Sh.sc (STy.int .i64)).cons ((((Sh.sc (STy.int .i64)).cons Sh.nil).li.cons Sh.nil).li.cons Sh.nil)).li (SE.bvar 1) (SE.dvar 2) Tok.unk)) ((Tr.leaf.node (some V.top) Tr.leaf).node (some (V.sym (STy.int .i64) (SE.dleaf (STy.int .i64) ((SE.dvar 2).dcell (SE.ivar .i64 5) 0)))) (Tr.leaf.node (some (V.sym STy.bool (SE.cmp .eql (((SE.dvar 2).dcell (SE.ivar .i64 5) 1).dcell (SE.int .i64 0) 0).dlen (SE.int .i64 0)))) Tr.leaf))).node (some (V.ptr 0 0)) (((Tr.leaf.node (some V.top) Tr.leaf).node (some (V.sli ((Sh.sc (STy.int .i64)).cons ((((Sh.sc (STy.int .i64)).cons Sh.nil).li.cons Sh.nil).li.cons Sh.nil)).li (SE.bvar 1) (SE.dvar 2) Tok.unk)) (Tr.leaf.node (some (V.cptr [V.sli ((Sh.sc (STy.int .i64)).cons Sh.nil).li (((SE.dvar 2).dcell (SE.ivar .i64 5) 1).dcell (SE.int .i64 0) 0).dnil (((SE.dvar 2).dcell (SE.ivar .i64 5) 1).dcell (SE.int .i64 0) 0) Tok.unk])) Tr.leaf)).node (some (V.ptr 0 0)) ((Tr.leaf.node (some V.top) Tr.leaf).node (some (V.sli (((Sh.sc (STy.int .i64)).cons Sh.nil).li.cons Sh.nil).li ((SE.dvar 2).dcell (SE.ivar .i64 5) 1).dnil ((SE.dvar 2).dcell (SE.ivar .i64 5) 1) Tok.unk)) Tr.leaf)))).node (some (V.sli ((Sh.sc (STy.int .i64)).cons ((((Sh.sc (STy.int .i64)).cons Sh.nil).li.cons Sh.nil).li.cons Sh.nil)).li (SE.bvar 1) (SE.dvar 2) Tok.unk)) (((((Tr.leaf.node (some V.top) Tr.leaf).node (some (V.sym STy.bool (SE.cmp .lss (SE.dleaf (STy.int .i64) ((SE.dvar 2).dcell (SE.ivar .i64 5) 0)) (SE.int .i64 0)))) (Tr.leaf.node (some (V.sym (STy.int .i64) ((SE.dvar 2).dcell (SE.ivar .i64 5) 1).dlen)) Tr.leaf)).node none ((Tr.leaf.node (some V.top) Tr.leaf).node (some (V.ptr 0 0)) (Tr.leaf.node (some (V.sym STy.bool (SE.cmp .eql (((SE.dvar 2).dcell (SE.ivar .i64 5) 1).dcell (SE.int .i64 0) 0).dlen (SE.int .i64 0)))) Tr.leaf))).node (some V.top) (((Tr.leaf.node (some V.top) Tr.leaf).node (some (V.sym STy.bool (SE.cmp .gtr (SE.dleaf (STy.int .i64) ((SE.dvar 2).dcell (SE.ivar .i64 5) 0)) (SE.int .i64 255)))) (Tr.leaf.node (some (V.sli (((Sh.sc (STy.int .i64)).cons Sh.nil).li.cons Sh.nil).li ((SE.dvar 2).dcell (SE.ivar .i64 5) 1).dnil ((SE.dvar 2).dcell (SE.ivar .i64 5) 1) Tok.unk)) Tr.leaf)).node (some (V.agg [V.sym (STy.int .i64) (SE.dleaf (STy.int .i64) ((SE.dvar 2).dcell (SE.ivar .i64 5) 0)), V.sli (((Sh.sc (STy.int .i64)).cons Sh.nil).li.cons Sh.nil).li ((SE.dvar 2).dcell (SE.ivar .i64 5) 1).dnil ((SE.dvar 2).dcell (SE.ivar .i64 5) 1) Tok.unk])) ((Tr.leaf.node (some V.top) Tr.leaf).node (some (V.ptr 0 1)) Tr.leaf))).node none ((((Tr.leaf.node (some V.top) Tr.leaf).node (some (V.sym (STy.int .i64) (SE.dleaf (STy.int .i64) ((SE.dvar 2).dcell (SE.ivar .i64 5) 0)))) (Tr.leaf.node (some (V.sym STy.bool (SE.cmp .eql ((SE.dvar 2).dcell (SE.ivar .i64 5) 1).dlen (SE.int .i64 0)))) Tr.leaf)).node (some (V.sym (STy.int .i64) (SE.ivar .i64 5))) ((Tr.leaf.node (some V.top) Tr.leaf).node (some (V.sym (STy.int .i64) (SE.ivar .i64 6))) Tr.leaf)).node (some V.top) (((Tr.leaf.node (some V.top) Tr.leaf).node (some (V.sym (STy.int .i64) (SE.ivar .i64 5))) (Tr.leaf.node (some (V.sli ((Sh.sc (STy.int .i64)).cons Sh.nil).li (((SE.dvar 2).dcell (SE.ivar .i64 5) 1).dcell (SE.int .i64 0) 0).dnil (((SE.dvar 2).dcell (SE.ivar .i64 5) 1).dcell (SE.int .i64 0) 0) Tok.unk)) Tr.leaf)).node (some (V.sym (STy.int .i64) (SE.dleaf (STy.int .i64) ((SE.dvar 2).dcell (SE.ivar .i64 5) 0)))) ((Tr.leaf.node (some (V.ptr 0 1)) Tr.leaf).node (some (V.sym (STy.int .i64) ((SE.dvar 2).dcell (SE.ivar .i64 5) 1).dlen)) Tr.leaf)))), h := { tab := Tr.leaf.node (some (Blk.cells [V.sym (STy.int .i64) (SE.dleaf (STy.int .i64) ((SE.dvar 2).dcell (SE.ivar .i64 5) 0)), V.sli (((Sh.sc (STy.int .i64)).cons Sh.nil).li.cons Sh.nil).li ((SE.dvar 2).dcell (SE.ivar .i64 5) 1).dnil ((SE.dvar 2).dcell (SE.ivar .i64 5) 1) Tok.unk])) Tr.leaf, next := 300, base := 0, low := none } }
def pcC2 : PC := addPC (.cmp .leq (.int .i64 0) (.ivar .i64 20)) true pcC0
def LC2 : LoopP where
  f := 37
  i := 1
  key := 19661888
  D := mkLoop (loopAt tbC 37 1) entC2 [(7, iv 20)] [] [(.exit 2, [], []), (.ret, [(4, .val (.int .i64 6))], [])] 0 300 (famPat 20 [31]) (fun _ => false)
  cs := [.not (.bvar 21)]
theorem st_C2 : startOf LC2.D = some [(20, .sc (.int .i64), .int .i64 0)] := by kernel_rfl
def entC3 : St := { env := ((((((Tr.leaf.node (some V.top) Tr.leaf).node (some (V.sym STy.bool (SE.cmp .gtr ((SE.dvar 2).dcell (SE.ivar .i64 5) 1).dlen (SE.int .i64 4)))) Tr.leaf).node (some (V.sym STy.bool (SE.cmp .lss (SE.dleaf (STy.int .i64) ((SE.dvar 2).dcell (SE.ivar .i64 5) 0)) (SE.int .i64 0)))) ((Tr.leaf.node (some V.top) Tr.leaf).node (some (V.sli (((Sh.sc (STy.int .i64)).cons Sh.nil).li.cons Sh.nil).li ((SE.dvar 2).dcell (SE.ivar .i64 5) 1).dnil ((SE.dvar 2).dcell (SE.ivar .i64 5) 1) Tok.unk)) Tr.leaf)).node (some (V.sym (STy.int .i64) (SE.ivar .i64 20))) (((Tr.leaf.node (some V.top) Tr.leaf).node (some V.top) Tr.leaf).node (some (V.sli ((Sh.sc (STy.int .i64)).cons ((((Sh.sc (STy.int .i64)).cons Sh.nil).li.cons Sh.nil).li.cons Sh.nil)).li (SE.bvar 1) ((SE.dvar 2).dcut (SE.int .i64 0) (SE.ivar .i64 5)) Tok.unk)) ((Tr.leaf.node (some V.top) Tr.leaf).node (some (V.sym (STy.int .i64) (((SE.dvar 2).dcell (SE.ivar .i64 5) 1).dcell (SE.int .i64 0) 0).dlen)) Tr.leaf))).node none ((((Tr.leaf.node (some V.top) Tr.leaf).node (some V.top) Tr.leaf).node (some (V.sym STy.bool (SE.cmp .gtr (SE.dleaf (STy.int .i64) ((SE.dvar 2).dcell (SE.ivar .i64 5) 0)) (SE.int .i64 255)))) ((Tr.leaf.node (some V.top) Tr.leaf).node (some (V.ptr 0 1)) Tr.leaf)).node (some (V.cptr [V.sym (STy.int .i64) (SE.dleaf (STy.int .i64) ((SE.dvar 2).dcell (SE.ivar .i64 5) 0)), V.sli (((Sh.sc (STy.int .i64)).cons Sh.nil).li.cons Sh.nil).li ((SE.dvar 2).dcell (SE.ivar .i64 5) 1).dnil ((SE.dvar 2).dcell (SE.ivar .i64 5) 1) Tok.unk])) (((Tr.leaf.node (some V.top) Tr.leaf).node (some V.top) Tr.leaf).node (some (V.sym STy.bool (SE.cmp .geq (SE.ivar .i64 6) (SE.int .i64 0)))) ((Tr.leaf.node (some V.top) Tr.leaf).node (some (V.ptr 0 1)) Tr.leaf)))).node (some (V.sym (STy.int .i64) (SE.ivar .i64 5))) (((((Tr.leaf.node (some V.top) Tr.leaf).node (some V.top) Tr.leaf).node (some (V.ptr 0 0)) ((Tr.leaf.node (some V.top) Tr.leaf).node (some (V.sym STy.bool (SE.cmp .eql ((SE.dvar 2).dcell (SE.ivar .i64 5) 1).dlen (SE.int .i64 0)))) Tr.leaf)).node (some (V.sli ((Sh.sc (STy.int .i64)).cons ((((Sh.sc (STy.int .i64)).cons Sh.nil).li.cons Sh.nil).li.cons Sh.nil)).li (SE.bvar 1) (SE.dvar 2) Tok.unk)) (((Tr.leaf.node (some V.top) Tr.leaf).node (some V.top) Tr.leaf).node (some (V.sym (STy.int .i64) (SE.dleaf (STy.int .i64) ((SE.dvar 2).dcell (SE.ivar .i64 5) 0)))) ((Tr.leaf.node (some V.top) Tr.leaf).node (some (V.sym STy.bool (SE.cmp .eql (((SE.dvar 2).dcell (SE.ivar .i64 5) 1).dcell (SE.int .i64 0) 0).dlen (SE.int .i64 0)))) Tr.leaf))).node (some (V.ptr 0 0)) ((((Tr.leaf.node (some V.top) Tr.leaf).node (some V.top) Tr.leaf).node (some (V.sli ((Sh.sc (STy.int .i64)).cons ((((Sh.sc (STy.int .i64)).cons Sh.nil).li.cons Sh.nil).li.cons Sh.nil)).li (SE.bvar 1) (SE.dvar 2) Tok.unk)) ((Tr.leaf.node (some V.top) Tr.leaf).node (some (V.cptr [V.sli ((Sh.sc (STy.int .i64)).cons Sh.nil).li (((SE.dvar 2).dcell (SE.ivar .i64 5) 1).dcell (SE.int .i64 0) 0).dnil (((SE.dvar 2).dcell (SE.ivar .i64 5) 1).dcell (SE.int .i64 0) 0) Tok.unk])) Tr.leaf)).node (some (V.ptr 0 0)) (((Tr.leaf.node (some V.top) Tr.leaf).node (some V.top) Tr.leaf).node (some (V.sli (((Sh.sc (STy.int .i64)).cons Sh.nil).li.cons Sh.nil).li ((SE.dvar 2).dcell (SE.ivar .i64 5) 1).dnil ((SE.dvar 2).dcell (SE.ivar .i64 5) 1) Tok.unk)) ((Tr.leaf.node (some V.top) Tr.leaf).node (some (V.sym (STy.int .i64) ((SE.dvar 2).dcell (SE.ivar .i64 5) 1).dlen)) Tr.leaf))))).node (some (V.sli ((Sh.sc (STy.int .i64)).cons ((((Sh.sc (STy.int .i64)).cons Sh.nil).li.cons Sh.nil).li.cons Sh.nil)).li (SE.bvar 1) (SE.dvar 2) Tok.unk)) ((((((Tr.leaf.node (some V.top) Tr.leaf).node (some V.top) Tr.leaf).node (some (V.sym STy.bool (SE.cmp .lss (SE.dleaf (STy.int .i64) ((SE.dvar 2).dcell (SE.ivar .i64 5) 0)) (SE.int .i64 0)))) ((Tr.leaf.node (some V.top) Tr.leaf).node (some (V.sym (STy.int .i64) ((SE.dvar 2).dcell (SE.ivar .i64 5) 1).dlen)) Tr.leaf)).node (some (V.val (Value.int .i64 0))) (((Tr.leaf.node (some V.top) Tr.leaf).node (some V.top) Tr.leaf).node (some (V.ptr 0 0)) ((Tr.leaf.node (some V.top) Tr.leaf).node (some (V.sym STy.bool (SE.cmp .eql (((SE.dvar 2).dcell (SE.ivar .i64 5) 1).dcell (SE.int .i64 0) 0).dlen (SE.int .i64 0)))) Tr.leaf))).node (some V.top) ((((Tr.leaf.node (some V.top) Tr.leaf).node (some V.top) Tr.leaf).node (some (V.sym STy.bool (SE.cmp .gtr (SE.dleaf (STy.int .i64) ((SE.dvar 2).dcell (SE.ivar .i64 5) 0)) (SE.int .i64 255)))) ((Tr.leaf.node (some V.top) Tr.leaf).node (some (V.sli (((Sh.sc (STy.int .i64)).cons Sh.nil).li.cons Sh.nil).li ((SE.dvar 2).dcell (SE.ivar .i64 5) 1).dnil ((SE.dvar 2).dcell (SE.ivar .i64 5) 1) Tok.unk)) Tr.leaf)).node (some (V.agg [V.sym (STy.int .i64) (SE.dleaf (STy.int .i64) ((SE.dvar 2).dcell (SE.ivar .i64 5) 0)), V.sli (((Sh.sc (STy.int .i64)).cons Sh.nil).li.cons Sh.nil).li ((SE.dvar 2).dcell (SE.ivar .i64 5) 1).dnil ((SE.dvar 2).dcell (SE.ivar .i64 5) 1) Tok.unk])) (((Tr.leaf.node (some V.top) Tr.leaf).node (some V.top) Tr.leaf).node (some (V.ptr 0 1)) ((Tr.leaf.node (some V.top) Tr.leaf).node (some (V.sli (((Sh.sc (STy.int .i64)).cons Sh.nil).li.cons Sh.nil).li ((SE.dvar 2).dcell (SE.ivar .i64 5) 1).dnil ((SE.dvar 2).dcell (SE.ivar .i64 5) 1) Tok.unk)) Tr.leaf)))).node none (((((Tr.leaf.node (some V.top) Tr.leaf).node (some V.top) Tr.leaf).node (some (V.sym (STy.int .i64) (SE.dleaf (STy.int .i64) ((SE.dvar 2).dcell (SE.ivar .i64 5) 0)))) ((Tr.leaf.node (some V.top) Tr.leaf).node (some (V.sym STy.bool (SE.cmp .eql ((SE.dvar 2).dcell (SE.ivar .i64 5) 1).dlen (SE.int .i64 0)))) Tr.leaf)).node (some (V.sym (STy.int .i64) (SE.ivar .i64 5))) (((Tr.leaf.node (some V.top) Tr.leaf).node (some V.top) Tr.leaf).node (some (V.sym (STy.int .i64) (SE.ivar .i64 6))) ((Tr.leaf.node (some V.top) Tr.leaf).node (some (V.sym (STy.int .i64) (SE.ivar .i64 20))) Tr.leaf))).node (some V.top) ((((Tr.leaf.node (some V.top) Tr.leaf).node (some V.top) Tr.leaf).node (some (V.sym (STy.int .i64) (SE.ivar .i64 5))) ((Tr.leaf.node (some V.top) Tr.leaf).node (some (V.sli ((Sh.sc (STy.int .i64)).cons Sh.nil).li (((SE.dvar 2).dcell (SE.ivar .i64 5) 1).dcell (SE.int .i64 0) 0).dnil (((SE.dvar 2).dcell (SE.ivar .i64 5) 1).dcell (SE.int .i64 0) 0) Tok.unk)) Tr.leaf)).node (some (V.sym (STy.int .i64) (SE.dleaf (STy.int .i64) ((SE.dvar 2).dcell (SE.ivar .i64 5) 0)))) (((Tr.leaf.node (some V.top) Tr.leaf).node (some (V.ptr 0 1)) Tr.leaf).node (some (V.sym (STy.int .i64) ((SE.dvar 2).dcell (SE.ivar .i64 5) 1).dlen)) ((Tr.leaf.node (some V.top) Tr.leaf).node (some (V.sym STy.bool (SE.cmp .lss (SE.ivar .i64 20) ((SE.dvar 2).dcell (SE.ivar .i64 5) 1).dlen))) Tr.leaf))))), h := { tab := Tr.leaf.node (some (Blk.cells [V.sym (STy.int .i64) (SE.dleaf (STy.int .i64) ((SE.dvar 2).dcell (SE.ivar .i64 5) 0)), V.sli (((Sh.sc (STy.int .i64)).cons Sh.nil).li.cons Sh.nil).li ((SE.dvar 2).dcell (SE.ivar .i64 5) 1).dnil ((SE.dvar 2).dcell (SE.ivar .i64 5) 1) Tok.unk])) Tr.leaf, next := 300, base := 0, low := none } }
def pcC3 : PC := addPC (.cmp .leq (.int .i64 0) (.ivar .i64 30)) true (addPC (.cmp .lss (.ivar .i64 20) (.dlen (.dcell (.dvar 2) (.ivar .i64 5) 1))) true pcC2)
def LC3 : LoopP where
  f := 37
  i := 2
  key := 35915008
  D := mkLoop (loopAt tbC 37 2) entC3 [(8, iv 30)] [] [(.exit 4, [], []), (.ret, [(4, .val (.int .i64 6))], [])] 0 300 (famPat 30 []) (fun _ => false)
  cs := [.not (.bvar 31)]
theorem st_C3 : startOf LC3.D = some [(30, .sc (.int .i64), .int .i64 0)] := by kernel_rfl
def rnC3 (r : Nat → Value) := sums LC3.D (execF kn0 (callF kn0 Try.prog (tbC.atS r noSp noLp) 100 100) Try.prog (tbC.atS r noSp noLp) 100 (.code (loopAt tbC 37 2)) pcC3 LC3.D.hd)
def lpC3 : Lp := lpOf [LC3.e]
def pcC2x : PC := addPC (.cmp .lss (.ivar .i64 20) (.dlen (.dcell (.dvar 2) (.ivar .i64 5) 1))) true pcC2
def pcC2e : PC := addPC (.cmp .lss (.ivar .i64 20) (.dlen (.dcell (.dvar 2) (.ivar .i64 5) 1))) false pcC2
def rnC2 (r : Nat → Value) := sums LC2.D (execF kn0 (callF kn0 Try.prog (tbC.atS r noSp lpC3) 100 100) Try.prog (tbC.atS r noSp lpC3) 100 (.code (loopAt tbC 37 1)) pcC2x LC2.D.hd)
def rnC2e (r : Nat → Value) := sums LC2.D (execF kn0 (callF kn0 Try.prog (tbC.atS r noSp noLp) 100 100) Try.prog (tbC.atS r noSp noLp) 100 (.code (loopAt tbC 37 1)) pcC2e LC2.D.hd)
def lpC : Lp := lpOf [LC1.e, LC2.e]
def rnfC (r : Nat → Value) := outsF (callF kn0 Try.prog (tbC.atS r spC lpC) 100 100 pcC0 37 argC H0)
def MC1 : List (PC × Sm) := [([(SE.cmp .lss (SE.int .i64 4) (((SE.dvar 2).dcell (SE.ivar .i64 5) 1).dcell (SE.ivar .i64 10) 0).dlen, true), (SE.cmp .lss (SE.ivar .i64 10) ((SE.dvar 2).dcell (SE.ivar .i64 5) 1).dlen, true), (SE.cmp .lss (SE.ivar .i64 10) (SE.int .i64 0), false), (SE.cmp .lss (SE.ivar .i64 5) (SE.dvar 2).dlen, true), (SE.cmp .lss (SE.ivar .i64 5) (SE.int .i64 0), false)], Sm.out 1 []), ([(SE.cmp .lss (SE.int .i64 4) (((SE.dvar 2).dcell (SE.ivar .i64 5) 1).dcell (SE.ivar .i64 10) 0).dlen, false), (SE.cmp .lss (SE.ivar .i64 10) ((SE.dvar 2).dcell (SE.ivar .i64 5) 1).dlen, true), (SE.cmp .lss (SE.ivar .i64 10) (SE.int .i64 0), false), (SE.cmp .lss (SE.ivar .i64 5) (SE.dvar 2).dlen, true), (SE.cmp .lss (SE.ivar .i64 5) (SE.int .i64 0), false)], Sm.next [(10, UTy.sc (.int .i64), SE.bin .add .i64 (SE.ivar .i64 10) (SE.int .i64 1))]), ([(SE.cmp .lss (SE.ivar .i64 10) ((SE.dvar 2).dcell (SE.ivar .i64 5) 1).dlen, false), (SE.cmp .lss (SE.ivar .i64 10) (SE.int .i64 0), false), (SE.cmp .lss (SE.ivar .i64 5) (SE.dvar 2).dlen, true), (SE.cmp .lss (SE.ivar .i64 5) (SE.int .i64 0), false)], Sm.out 0 [])]
def MC3 : List (PC × Sm) := [([(SE.cmp .lss (SE.dleaf (.int .i64) ((((SE.dvar 2).dcell (SE.ivar .i64 5) 1).dcell (SE.ivar .i64 20) 0).dcell (SE.ivar .i64 30) 0)) (SE.int .i64 1), true), (SE.cmp .lss (SE.ivar .i64 30) (((SE.dvar 2).dcell (SE.ivar .i64 5) 1).dcell (SE.ivar .i64 20) 0).dlen, true), (SE.cmp .lss (SE.ivar .i64 30) (SE.int .i64 0), false), (SE.cmp .lss (SE.ivar .i64 20) ((SE.dvar 2).dcell (SE.ivar .i64 5) 1).dlen, true), (SE.cmp .lss (SE.ivar .i64 20) (SE.int .i64 0), false), (SE.cmp .lss (SE.ivar .i64 5) (SE.dvar 2).dlen, true), (SE.cmp .lss (SE.ivar .i64 5) (SE.int .i64 0), false)], Sm.out 1 []), ([(SE.cmp .lss (SE.int .i64 16777223) (SE.dleaf (.int .i64) ((((SE.dvar 2).dcell (SE.ivar .i64 5) 1).dcell (SE.ivar .i64 20) 0).dcell (SE.ivar .i64 30) 0)), true), (SE.cmp .lss (SE.dleaf (.int .i64) ((((SE.dvar 2).dcell (SE.ivar .i64 5) 1).dcell (SE.ivar .i64 20) 0).dcell (SE.ivar .i64 30) 0)) (SE.int .i64 1), false), (SE.cmp .lss (SE.ivar .i64 30) (((SE.dvar 2).dcell (SE.ivar .i64 5) 1).dcell (SE.ivar .i64 20) 0).dlen, true), (SE.cmp .lss (SE.ivar .i64 30) (SE.int .i64 0), false), (SE.cmp .lss (SE.ivar .i64 20) ((SE.dvar 2).dcell (SE.ivar .i64 5) 1).dlen, true), (SE.cmp .lss (SE.ivar .i64 20) (SE.int .i64 0), false), (SE.cmp .lss (SE.ivar .i64 5) (SE.dvar 2).dlen, true), (SE.cmp .lss (SE.ivar .i64 5) (SE.int .i64 0), false)], Sm.out 1 []), ([(SE.cmp .lss (SE.int .i64 16777223) (SE.dleaf (.int .i64) ((((SE.dvar 2).dcell (SE.ivar .i64 5) 1).dcell (SE.ivar .i64 20) 0).dcell (SE.ivar .i64 30) 0)), false), (SE.cmp .lss (SE.dleaf (.int .i64) ((((SE.dvar 2).dcell (SE.ivar .i64 5) 1).dcell (SE.ivar .i64 20) 0).dcell (SE.ivar .i64 30) 0)) (SE.int .i64 1), false), (SE.cmp .lss (SE.ivar .i64 30) (((SE.dvar 2).dcell (SE.ivar .i64 5) 1).dcell (SE.ivar .i64 20) 0).dlen, true), (SE.cmp .lss (SE.ivar .i64 30) (SE.int .i64 0), false), (SE.cmp .lss (SE.ivar .i64 20) ((SE.dvar 2).dcell (SE.ivar .i64 5) 1).dlen, true), (SE.cmp .lss (SE.ivar .i64 20) (SE.int .i64 0), false), (SE.cmp .lss (SE.ivar .i64 5) (SE.dvar 2).dlen, true), (SE.cmp .lss (SE.ivar .i64 5) (SE.int .i64 0), false)], Sm.next [(30, UTy.sc (.int .i64), SE.bin .add .i64 (SE.ivar .i64 30) (SE.int .i64 1))]), ([(SE.cmp .lss (SE.ivar .i64 30) (((SE.dvar 2).dcell (SE.ivar .i64 5) 1).dcell (SE.ivar .i64 20) 0).dlen, false), (SE.cmp .lss (SE.ivar .i64 30) (SE.int .i64 0), false), (SE.cmp .lss (SE.ivar .i64 20) ((SE.dvar 2).dcell (SE.ivar .i64 5) 1).dlen, true), (SE.cmp .lss (SE.ivar .i64 20) (SE.int .i64 0), false), (SE.cmp .lss (SE.ivar .i64 5) (SE.dvar 2).dlen, true), (SE.cmp .lss (SE.ivar .i64 5) (SE.int .i64 0), false)], Sm.out 0 [])]
def MC2 : List (PC × Sm) := [([(SE.bvar 31, false), (SE.cmp .lss (SE.ivar .i64 20) ((SE.dvar 2).dcell (SE.ivar .i64 5) 1).dlen, true), (SE.cmp .lss (SE.ivar .i64 20) (SE.int .i64 0), false), (SE.cmp .lss (SE.ivar .i64 5) (SE.dvar 2).dlen, true), (SE.cmp .lss (SE.ivar .i64 5) (SE.int .i64 0), false)], Sm.next [(20, UTy.sc (.int .i64), SE.bin .add .i64 (SE.ivar .i64 20) (SE.int .i64 1))]), ([(SE.bvar 31, true), (SE.cmp .lss (SE.ivar .i64 20) ((SE.dvar 2).dcell (SE.ivar .i64 5) 1).dlen, true), (SE.cmp .lss (SE.ivar .i64 20) (SE.int .i64 0), false), (SE.cmp .lss (SE.ivar .i64 5) (SE.dvar 2).dlen, true), (SE.cmp .lss (SE.ivar .i64 5) (SE.int .i64 0), false)], Sm.out 1 [])]
def MC2e : List (PC × Sm) := [([(SE.cmp .lss (SE.ivar .i64 20) ((SE.dvar 2).dcell (SE.ivar .i64 5) 1).dlen, false), (SE.cmp .lss (SE.ivar .i64 20) (SE.int .i64 0), false), (SE.cmp .lss (SE.ivar .i64 5) (SE.dvar 2).dlen, true), (SE.cmp .lss (SE.ivar .i64 5) (SE.int .i64 0), false)], Sm.out 0 [])]
def MfC : List (PC × Bool × List (STy × SE)) := [([(SE.cmp .lss (SE.dleaf (.int .i64) ((SE.dvar 2).dcell (SE.ivar .i64 5) 0)) (SE.int .i64 0), true), (SE.cmp .lss (SE.ivar .i64 5) (SE.dvar 2).dlen, true), (SE.cmp .lss (SE.ivar .i64 5) (SE.int .i64 0), false)], false, [(.int .i64, SE.int .i64 6)]), ([(SE.cmp .lss (SE.int .i64 255) (SE.dleaf (.int .i64) ((SE.dvar 2).dcell (SE.ivar .i64 5) 0)), true), (SE.cmp .lss (SE.dleaf (.int .i64) ((SE.dvar 2).dcell (SE.ivar .i64 5) 0)) (SE.int .i64 0), false), (SE.cmp .lss (SE.ivar .i64 5) (SE.dvar 2).dlen, true), (SE.cmp .lss (SE.ivar .i64 5) (SE.int .i64 0), false)], false, [(.int .i64, SE.int .i64 6)]), ([(SE.cmp .lss (SE.ivar .i64 6) (SE.int .i64 0), false), (SE.cmp .lss (SE.int .i64 255) (SE.dleaf (.int .i64) ((SE.dvar 2).dcell (SE.ivar .i64 5) 0)), false), (SE.cmp .lss (SE.dleaf (.int .i64) ((SE.dvar 2).dcell (SE.ivar .i64 5) 0)) (SE.int .i64 0), false), (SE.cmp .lss (SE.ivar .i64 5) (SE.dvar 2).dlen, true), (SE.cmp .lss (SE.ivar .i64 5) (SE.int .i64 0), false)], false, [(.int .i64, SE.int .i64 7)]), ([(SE.cmp .lss (SE.int .i64 4) ((SE.dvar 2).dcell (SE.ivar .i64 5) 1).dlen, true), (SE.cmp .lss (SE.ivar .i64 6) (SE.int .i64 0), true), (SE.cmp .lss (SE.int .i64 255) (SE.dleaf (.int .i64) ((SE.dvar 2).dcell (SE.ivar .i64 5) 0)), false), (SE.cmp .lss (SE.dleaf (.int .i64) ((SE.dvar 2).dcell (SE.ivar .i64 5) 0)) (SE.int .i64 0), false), (SE.cmp .lss (SE.ivar .i64 5) (SE.dvar 2).dlen, true), (SE.cmp .lss (SE.ivar .i64 5) (SE.int .i64 0), false)], false, [(.int .i64, SE.int .i64 5)]), ([(SE.cmp .eql ((SE.dvar 2).dcell (SE.ivar .i64 5) 1).dlen (SE.int .i64 0), true), (SE.bvar 11, false), (SE.cmp .lss (SE.int .i64 4) ((SE.dvar 2).dcell (SE.ivar .i64 5) 1).dlen, false), (SE.cmp .lss (SE.ivar .i64 6) (SE.int .i64 0), true), (SE.cmp .lss (SE.int .i64 255) (SE.dleaf (.int .i64) ((SE.dvar 2).dcell (SE.ivar .i64 5) 0)), false), (SE.cmp .lss (SE.dleaf (.int .i64) ((SE.dvar 2).dcell (SE.ivar .i64 5) 0)) (SE.int .i64 0), false), (SE.cmp .lss (SE.ivar .i64 5) (SE.dvar 2).dlen, true), (SE.cmp .lss (SE.ivar .i64 5) (SE.int .i64 0), false)], false, [(.int .i64, SE.int .i64 2)]), ([(SE.cmp .eql (((SE.dvar 2).dcell (SE.ivar .i64 5) 1).dcell (SE.int .i64 0) 0).dlen (SE.int .i64 0), true), (SE.cmp .eql ((SE.dvar 2).dcell (SE.ivar .i64 5) 1).dlen (SE.int .i64 0), false), (SE.bvar 11, false), (SE.cmp .lss (SE.int .i64 4) ((SE.dvar 2).dcell (SE.ivar .i64 5) 1).dlen, false), (SE.cmp .lss (SE.ivar .i64 6) (SE.int .i64 0), true), (SE.cmp .lss (SE.int .i64 255) (SE.dleaf (.int .i64) ((SE.dvar 2).dcell (SE.ivar .i64 5) 0)), false), (SE.cmp .lss (SE.dleaf (.int .i64) ((SE.dvar 2).dcell (SE.ivar .i64 5) 0)) (SE.int .i64 0), false), (SE.cmp .lss (SE.ivar .i64 5) (SE.dvar 2).dlen, true), (SE.cmp .lss (SE.ivar .i64 5) (SE.int .i64 0), false)], false, [(.int .i64, SE.int .i64 2)]), ([(SE.bvar 21, false), (SE.cmp .eql (((SE.dvar 2).dcell (SE.ivar .i64 5) 1).dcell (SE.int .i64 0) 0).dlen (SE.int .i64 0), false), (SE.cmp .eql ((SE.dvar 2).dcell (SE.ivar .i64 5) 1).dlen (SE.int .i64 0), false), (SE.bvar 11, false), (SE.cmp .lss (SE.int .i64 4) ((SE.dvar 2).dcell (SE.ivar .i64 5) 1).dlen, false), (SE.cmp .lss (SE.ivar .i64 6) (SE.int .i64 0), true), (SE.cmp .lss (SE.int .i64 255) (SE.dleaf (.int .i64) ((SE.dvar 2).dcell (SE.ivar .i64 5) 0)), false), (SE.cmp .lss (SE.dleaf (.int .i64) ((SE.dvar 2).dcell (SE.ivar .i64 5) 0)) (SE.int .i64 0), false), (SE.cmp .lss (SE.ivar .i64 5) (SE.dvar 2).dlen, true), (SE.cmp .lss (SE.ivar .i64 5) (SE.int .i64 0), false)], false, [(.int .i64, SE.int .i64 0)]), ([(SE.bvar 21, true), (SE.cmp .eql (((SE.dvar 2).dcell (SE.ivar .i64 5) 1).dcell (SE.int .i64 0) 0).dlen (SE.int .i64 0), false), (SE.cmp .eql ((SE.dvar 2).dcell (SE.ivar .i64 5) 1).dlen (SE.int .i64 0), false), (SE.bvar 11, false), (SE.cmp .lss (SE.int .i64 4) ((SE.dvar 2).dcell (SE.ivar .i64 5) 1).dlen, false), (SE.cmp .lss (SE.ivar .i64 6) (SE.int .i64 0), true), (SE.cmp .lss (SE.int .i64 255) (SE.dleaf (.int .i64) ((SE.dvar 2).dcell (SE.ivar .i64 5) 0)), false), (SE.cmp .lss (SE.dleaf (.int .i64) ((SE.dvar 2).dcell (SE.ivar .i64 5) 0)) (SE.int .i64 0), false), (SE.cmp .lss (SE.ivar .i64 5) (SE.dvar 2).dlen, true), (SE.cmp .lss (SE.ivar .i64 5) (SE.int .i64 0), false)], false, [(.int .i64, SE.int .i64 6)]), ([(SE.bvar 11, true), (SE.cmp .lss (SE.int .i64 4) ((SE.dvar 2).dcell (SE.ivar .i64 5) 1).dlen, false), (SE.cmp .lss (SE.ivar .i64 6) (SE.int .i64 0), true), (SE.cmp .lss (SE.int .i64 255) (SE.dleaf (.int .i64) ((SE.dvar 2).dcell (SE.ivar .i64 5) 0)), false), (SE.cmp .lss (SE.dleaf (.int .i64) ((SE.dvar 2).dcell (SE.ivar .i64 5) 0)) (SE.int .i64 0), false), (SE.cmp .lss (SE.ivar .i64 5) (SE.dvar 2).dlen, true), (SE.cmp .lss (SE.ivar .i64 5) (SE.int .i64 0), false)], false, [(.int .i64, SE.int .i64 5)])]
theorem run_C1 (r : Nat → Value) : rnC1 r = some MC1 := by kernel_rfl
theorem run_C2 (r : Nat → Value) : rnC2 r = some MC2 := by kernel_rfl
theorem run_C2e (r : Nat → Value) : rnC2e r = some MC2e := by kernel_rfl
theorem run_C3 (r : Nat → Value) : rnC3 r = some MC3 := by kernel_rfl
theorem run_fC (r : Nat → Value) : rnfC r = some MfC := by kernel_rfl
/-- The levels of a key. -/
def LV (ρ : Nat → Value) (z : Nat) : List Value := elsD (cellD ((elsD (ρ 2)).getD z .nilFunc) 1)
theorem LV_eq (ρ : Nat → Value) (z : Nat) : elsD (cellD ((elsD (ρ 2)).getD z .nilFunc) 1) = LV ρ z := rfl
theorem pc_C0 {ρ : Nat → Value} {z : Nat} (h : (SE.ivar .i64 5).num ρ = z) (hl : z < (elsD ((SE.dvar 2).data ρ)).length) : pcC0.holds ρ := by
  refine addPC_ok (addPC_ok (PC.holds_nil _) ?_) ?_
  · rw [t_leq, if_pos rfl, h, n_int]; omega
  · rw [t_lss, if_pos rfl, h, n_dlen]; omega
theorem LC1_ok {ρ : Nat → Value} {z : Nat} (h5 : ρ 5 = .int .i64 z) (hz : z < (elsD (ρ 2)).length) (hz2 : (elsD (ρ 2)).length ≤ 1000) (h10 : ρ 10 = .int .i64 0) (h11 : truthOf (ρ 11) = (LV ρ z).any manyD) (hn : (LV ρ z).length ≤ 1000) : LoopPOk Try.prog (tbC.atS ρ noSp noLp) LC1 := by
  have hF : ∀ x, (SE.ivar .i64 5).num (fam ρ 10 [] (fun _ => ρ) x) = z := fun x => n_iv (show fam ρ 10 [] (fun _ => ρ) x 5 = _ from h5) (by omega)
  refine fam_loop (Tb.only_ok tb_ok _) (Tb.only_wf tb_wf _) (m := 10) (ms := []) (g := fun _ => ρ) (n := (LV ρ z).length) (Q := fun x => ((LV ρ z).drop x).any manyD = truthOf (ρ 11)) h10 (fun k hk => by simp at hk)
    (fun x _ _ => none_ok _ _) (by kernel_rfl) rfl rfl h11.symm st_C1 (UpdOk.int (ivar_zero h10) .nil) (fun _ => rfl) (kn := kn0) (n0 := 100) (n1 := 100) (n2 := 100) (fun x => kn0_ok) (pc := pcC1) (fun x hx _ => pc_fam (by omega) (pc_C0 (hF x) hz)) run_C1 ?_
  intro x hx1 hx2
  rw [show wayOf ρ LC1.cs = if truthOf (ρ 11) then 1 else 0 from way_not _ _]
  have h2 : (SE.dvar 2).data (fam ρ 10 [] (fun _ => ρ) x) = ρ 2 := rfl
  have hN := n_fam (ρ := ρ) (m := 10) (ms := []) (g := fun _ => ρ) (show x ≤ 9223372036854775807 by omega)
  unfold MC1
  rw [all_cons, all_cons, all_cons]
  refine ⟨fun hp => ?_, fun hp => ?_, fun hp => ?_, fun _ h => by simp at h⟩
  all_goals simp only [h_cons, h_nil, t_lss, n_int, n_dlen, d_cell, h2, hN, hF, LV_eq, if_true, Bool.false_eq_true, if_false, Int.toNat_natCast] at hp
  · obtain ⟨h1, h3, _⟩ := hp
    rw [getD_drop (by omega), List.any_cons, show manyD ((LV ρ z).getD x .nilFunc) = true from decide_eq_true (by unfold symsD; omega)] at hx2
    exact ⟨by rw [← hx2]; rfl, .nil⟩
  · obtain ⟨h1, h3, _⟩ := hp
    rw [getD_drop (by omega), List.any_cons, show manyD ((LV ρ z).getD x .nilFunc) = false from decide_eq_false (by unfold symsD; omega)] at hx2
    exact ⟨by omega, hx2, UpdOk.int (next_fam (by omega)) .nil⟩
  · rw [drop_end (by omega)] at hx2
    exact ⟨by rw [← hx2]; rfl, .nil⟩
theorem LC3_ok {ρ : Nat → Value} {z y : Nat} (h5 : ρ 5 = .int .i64 z) (hz : z < (elsD (ρ 2)).length) (hz2 : (elsD (ρ 2)).length ≤ 1000) (h20 : ρ 20 = .int .i64 y) (hy : y < (LV ρ z).length) (hn1 : (LV ρ z).length ≤ 1000) (h30 : ρ 30 = .int .i64 0) (h31 : truthOf (ρ 31) = wildsD ((LV ρ z).getD y .nilFunc)) (hn : (symsD ((LV ρ z).getD y .nilFunc)).length ≤ 1000) : LoopPOk Try.prog (tbC.atS ρ noSp noLp) LC3 := by
  have hF : ∀ x, (SE.ivar .i64 5).num (fam ρ 30 [] (fun _ => ρ) x) = z := fun x => n_iv (show fam ρ 30 [] (fun _ => ρ) x 5 = _ from h5) (by omega)
  have hY : ∀ x, (SE.ivar .i64 20).num (fam ρ 30 [] (fun _ => ρ) x) = y := fun x => n_iv (show fam ρ 30 [] (fun _ => ρ) x 20 = _ from h20) (by omega)
  have h2 : ∀ x, (SE.dvar 2).data (fam ρ 30 [] (fun _ => ρ) x) = ρ 2 := fun x => rfl
  refine fam_loop (Tb.only_ok tb_ok _) (Tb.only_wf tb_wf _) (m := 30) (ms := []) (g := fun _ => ρ) (n := (symsD ((LV ρ z).getD y .nilFunc)).length) (Q := fun x => ((symsD ((LV ρ z).getD y .nilFunc)).drop x).any wildD = truthOf (ρ 31)) h30 (fun k hk => by simp at hk)
    (fun x _ _ => none_ok _ _) (by kernel_rfl) rfl rfl h31.symm st_C3 (UpdOk.int (ivar_zero h30) .nil) (fun _ => rfl) (kn := kn0) (n0 := 100) (n1 := 100) (n2 := 100) (fun x => kn0_ok) (pc := pcC3) (fun x hx _ => pc_fam (by omega) (addPC_ok (addPC_ok (pc_C0 (hF x) hz) (by rw [t_leq, if_pos rfl, hY, n_int]; omega)) (by rw [t_lss, if_pos rfl, hY, n_dlen, d_cell, h2, hF]; simp only [Int.toNat_natCast, LV_eq]; omega))) run_C3 ?_
  intro x hx1 hx2
  rw [show wayOf ρ LC3.cs = if truthOf (ρ 31) then 1 else 0 from way_not _ _]
  have hN := n_fam (ρ := ρ) (m := 30) (ms := []) (g := fun _ => ρ) (show x ≤ 9223372036854775807 by omega)
  unfold MC3
  rw [all_cons, all_cons, all_cons, all_cons]
  refine ⟨fun hp => ?_, fun hp => ?_, fun hp => ?_, fun hp => ?_, fun _ h => by simp at h⟩
  all_goals simp only [h_cons, h_nil, t_lss, n_int, n_dlen, n_leaf, d_cell, h2, hN, hY, hF, LV_eq, if_true, Bool.false_eq_true, if_false, Int.toNat_natCast] at hp
  · obtain ⟨h1, h3, _⟩ := hp
    have hx3 : x < (symsD ((LV ρ z).getD y .nilFunc)).length := by unfold symsD; omega
    rw [getD_drop hx3, List.any_cons, show wildD ((symsD ((LV ρ z).getD y .nilFunc)).getD x .nilFunc) = true from by unfold wildD; rw [Bool.or_eq_true]; exact .inl (decide_eq_true h1)] at hx2
    exact ⟨by rw [← hx2]; rfl, .nil⟩
  · obtain ⟨h1, _, h3, _⟩ := hp
    have hx3 : x < (symsD ((LV ρ z).getD y .nilFunc)).length := by unfold symsD; omega
    rw [getD_drop hx3, List.any_cons, show wildD ((symsD ((LV ρ z).getD y .nilFunc)).getD x .nilFunc) = true from by unfold wildD; rw [Bool.or_eq_true]; exact .inr (decide_eq_true h1)] at hx2
    exact ⟨by rw [← hx2]; rfl, .nil⟩
  · obtain ⟨h1, h4, h3, _⟩ := hp
    have hx3 : x < (symsD ((LV ρ z).getD y .nilFunc)).length := by unfold symsD; omega
    rw [getD_drop hx3, List.any_cons, show wildD ((symsD ((LV ρ z).getD y .nilFunc)).getD x .nilFunc) = false from by
      unfold wildD
      rw [Bool.or_eq_false_iff]
      exact ⟨decide_eq_false (by unfold numC symsD; omega), decide_eq_false (by unfold numC symsD; omega)⟩] at hx2
    exact ⟨hx3, hx2, UpdOk.int (next_fam (by omega)) .nil⟩
  · obtain ⟨h1, _⟩ := hp
    rw [drop_end (by unfold symsD; omega)] at hx2
    exact ⟨by rw [← hx2]; rfl, .nil⟩
theorem small_row {ls : List Value} (h : smallLv ls) (x : Nat) : (symsD (ls.getD x .nilFunc)).length ≤ 1000 := by
  rcases Nat.lt_or_ge x ls.length with hx | hx
  · rw [getD_at hx]; exact h.2 _ (List.getElem_mem hx)
  · rw [List.getD_eq_getElem?_getD, List.getElem?_eq_none hx]; show (0 : Nat) ≤ 1000; omega
theorem LC2_ok {ρ : Nat → Value} {z : Nat} (h5 : ρ 5 = .int .i64 z) (hz : z < (elsD (ρ 2)).length) (hz2 : (elsD (ρ 2)).length ≤ 1000) (h20 : ρ 20 = .int .i64 0) (h30 : ρ 30 = .int .i64 0) (h31 : ρ 31 = .bool (wildsD ((LV ρ z).getD 0 .nilFunc))) (h21 : truthOf (ρ 21) = (LV ρ z).any wildsD) (hn : smallLv (LV ρ z)) : LoopPOk Try.prog (tbC.atS ρ noSp lpC3) LC2 := by
  have hn1 := hn.1
  generalize hg : (fun (x : Nat) (_ : Nat) => Value.bool (wildsD ((LV ρ z).getD x .nilFunc))) = g
  have hF : ∀ x, (SE.ivar .i64 5).num (fam ρ 20 [31] g x) = z := fun x => n_iv (show fam ρ 20 [31] g x 5 = _ from h5) (by omega)
  have h2 : ∀ x, (SE.dvar 2).data (fam ρ 20 [31] g x) = ρ 2 := fun x => rfl
  have h31x : ∀ x, fam ρ 20 [31] g x 31 = .bool (wildsD ((LV ρ z).getD x .nilFunc)) := fun x => by rw [← hg]; rfl
  have h3 : ∀ x, truthOf (fam ρ 20 [31] g x 31) = wildsD ((LV ρ z).getD x .nilFunc) := fun x => by rw [h31x]; rfl
  have hN : ∀ x, x ≤ (LV ρ z).length → (SE.ivar .i64 20).num (fam ρ 20 [31] g x) = x := fun x hx => n_fam (by omega)
  have hpc : ∀ x, x ≤ (LV ρ z).length → pcC2.holds (fam ρ 20 [31] g x) := fun x hx => pc_fam (by omega) (pc_C0 (hF x) hz)
  refine fam_loopE (Tb.only_ok tb_ok _) (Tb.only_wf tb_wf _) (m := 20) (ms := [31]) (g := g) (n := (LV ρ z).length) (Q := fun x => ((LV ρ z).drop x).any wildsD = truthOf (ρ 21)) h20 (fun k hk => by rw [List.mem_singleton.1 hk, ← hg]; exact h31)
    (fun x hx _ => specP_of (l := [LC3]) (fs := [37]) (fun f fn hf => (Tb.only_func hf).1) (none_ok _ _) (by kernel_rfl) (fun e he => by
      rw [List.mem_singleton.1 he]
      exact LC3_ok (z := z) (y := x) h5 hz hz2 rfl hx hn1 h30 (h3 x) (small_row hn x))) (by kernel_rfl) rfl rfl h21.symm st_C2 (UpdOk.int (ivar_zero h20) .nil) (fun _ => rfl) (kn := kn0) (n0 := 100) (n1 := 100) (n2 := 100) (fun x => kn0_ok) (fun x => kn0_ok) (pc := pcC2x) (pcE := pcC2e)
      (fun x hx _ => addPC_ok (hpc x (by omega)) (by rw [t_lss, if_pos rfl, hN x (by omega), n_dlen, d_cell, h2, hF]; simp only [Int.toNat_natCast, LV_eq]; omega))
      (fun _ => addPC_ok (hpc _ (Nat.le_refl _)) (by rw [t_lss, if_neg (by simp), hN _ (Nat.le_refl _), n_dlen, d_cell, h2, hF]; simp only [Int.toNat_natCast, LV_eq]; omega)) run_C2 run_C2e ?_ ?_
  · intro x hx1 hx2
    rw [show wayOf ρ LC2.cs = if truthOf (ρ 21) then 1 else 0 from way_not _ _]
    unfold MC2
    rw [all_cons, all_cons]
    refine ⟨fun hp => ?_, fun hp => ?_, fun _ h => by simp at h⟩
    all_goals simp only [h_cons, h_nil, t_bvar, h3] at hp
    · rw [getD_drop (by omega), List.any_cons, hp.1] at hx2
      exact ⟨by omega, hx2, UpdOk.int (next_fam (by omega)) .nil⟩
    · rw [getD_drop (by omega), List.any_cons, hp.1] at hx2
      exact ⟨by rw [← hx2]; rfl, .nil⟩
  · intro hx2
    rw [show wayOf ρ LC2.cs = if truthOf (ρ 21) then 1 else 0 from way_not _ _]
    unfold MC2e
    rw [all_cons]
    refine ⟨fun hp => ?_, fun _ h => by simp at h⟩
    rw [drop_end (by omega)] at hx2
    exact ⟨by rw [← hx2]; rfl, .nil⟩
def envL : List (Nat × Value) → Nat → Value
  | [], _ => .nilFunc
  | q :: l, n => if Nat.beq n q.1 then q.2 else envL l n
/-- What find gives at a key of the list and the keys before it. -/
theorem find_at {ρ : Nat → Value} {z : Nat} (h5 : ρ 5 = .int .i64 z) (hz2 : (elsD (ρ 2)).length ≤ 1000) (hz : z < (elsD (ρ 2)).length) (h6 : ρ 6 = .int .i64 (idxD (codeD ((elsD (ρ 2)).getD z .nilFunc)) ((elsD (ρ 2)).take z))) : EntryOk Try.prog tb.glob ρ eFind := by
  have e5 : (SE.ivar .i64 5).num ρ = z := n_iv h5 (by omega)
  have hr := idxD_range (codeD ((elsD (ρ 2)).getD z .nilFunc)) ((elsD (ρ 2)).take z)
  have hl : ((elsD (ρ 2)).take z).length ≤ 1000 := by rw [List.length_take]; omega
  refine ⟨⟨_, Try.func29, by kernel_rfl, by kernel_rfl⟩, by kernel_rfl, fun q hq => by simp [eFind] at hq, ?_⟩
  have e6 : eFind.res.atR ρ = .int .i64 (idxD (codeD ((elsD (ρ 2)).getD z .nilFunc)) ((elsD (ρ 2)).take z)) := by
    show Value.int .i64 ((SE.ivar .i64 6).num ρ) = _
    rw [iv_at h6 (by omega) (by omega)]
  rw [e6]
  have hdat : elsD ((SE.dcut (.dvar 2) (.int .i64 0) (.ivar .i64 5)).data ρ) = (elsD (ρ 2)).take z := by
    rw [d_cut, e5]
    show ((elsD (ρ 2)).take _).drop (0 : Int).toNat = _
    simp
  have key := find_fnc (ρ := envL [(0, .int .i64 (codeD ((elsD (ρ 2)).getD z .nilFunc))), (1, ρ 1), (2, (SE.dcut (.dvar 2) (.int .i64 0) (.ivar .i64 5)).data ρ), (40, .int .i64 0), (41, .int .i64 (idxD (codeD ((elsD (ρ 2)).getD z .nilFunc)) ((elsD (ρ 2)).take z)))])
    (c := codeD ((elsD (ρ 2)).getD z .nilFunc)) (wrap_id .i64 _ (wrap_range .i64 _ |>.1 _ rfl) (wrap_range .i64 _ |>.2 _ rfl)) rfl (by show Value.int _ (idxD _ _) = Value.int _ (idxD _ (elsD ((SE.dcut (.dvar 2) (.int .i64 0) (.ivar .i64 5)).data ρ))); rw [hdat]) (by show (elsD ((SE.dcut (.dvar 2) (.int .i64 0) (.ivar .i64 5)).data ρ)).length ≤ 1000; rw [hdat]; exact hl)
  have e2 : elsD (envL [(0, Value.int .i64 (codeD ((elsD (ρ 2)).getD z .nilFunc))), (1, ρ 1), (2, (SE.dcut (.dvar 2) (.int .i64 0) (.ivar .i64 5)).data ρ), (40, .int .i64 0), (41, .int .i64 (idxD (codeD ((elsD (ρ 2)).getD z .nilFunc)) ((elsD (ρ 2)).take z)))] 2) = (elsD (ρ 2)).take z := hdat
  rw [e2] at key
  refine key.at (us := [(1, .sc .bool, .bvar 1), (2, .dat, .dcut (.dvar 2) (.int .i64 0) (.ivar .i64 5)), (0, .sc (.int .i64), .dleaf (.int .i64) (.dcell (.dvar 2) (.ivar .i64 5) 0))]) (by kernel_rfl) ?_
  refine UpdOk.bool rfl (UpdOk.dat rfl (UpdOk.int ?_ .nil))
  rw [n_leaf, d_cell, e5]
  show codeD ((elsD (ρ 2)).getD ((z : Int)).toNat .nilFunc) = IntKind.wrap .i64 (codeD _)
  rw [Int.toNat_natCast]
  exact (wrap_id .i64 _ (wrap_range .i64 _ |>.1 _ rfl) (wrap_range .i64 _ |>.2 _ rfl)).symm
/-- The first error of a key, after the ones before it. -/
def refErr (l : List Value) (z : Nat) : Int :=
  if codeD (l.getD z .nilFunc) < 0 ∨ 255 < codeD (l.getD z .nilFunc) then 6 else if 0 ≤ idxD (codeD (l.getD z .nilFunc)) (l.take z) then 7 else chkD (levD (l.getD z .nilFunc)) 5 2 6
/-- **The reference's check.** -/
theorem rcheck_fnc {ρ : Nat → Value} {z : Nat} (h5 : ρ 5 = .int .i64 z) (hz : z < (elsD (ρ 2)).length) (hz2 : (elsD (ρ 2)).length ≤ 1000) (h6 : ρ 6 = .int .i64 (idxD (codeD ((elsD (ρ 2)).getD z .nilFunc)) ((elsD (ρ 2)).take z))) (h10 : ρ 10 = .int .i64 0) (h11 : ρ 11 = .bool ((LV ρ z).any manyD)) (h20 : ρ 20 = .int .i64 0) (h30 : ρ 30 = .int .i64 0)
    (h31 : ρ 31 = .bool (wildsD ((LV ρ z).getD 0 .nilFunc))) (h21 : ρ 21 = .bool ((LV ρ z).any wildsD)) (hn : smallLv (LV ρ z)) : FncR Try.prog tb.glob ρ 37 argC (.int .i64 (refErr (elsD (ρ 2)) z)) := by
  have e11 : truthOf (ρ 11) = (LV ρ z).any manyD := by rw [h11]; rfl
  have e21 : truthOf (ρ 21) = (LV ρ z).any wildsD := by rw [h21]; rfl
  have e5 : (SE.ivar .i64 5).num ρ = z := n_iv h5 (by omega)
  have hr := idxD_range (codeD ((elsD (ρ 2)).getD z .nilFunc)) ((elsD (ρ 2)).take z)
  have hl : ((elsD (ρ 2)).take z).length ≤ 1000 := by rw [List.length_take]; omega
  have e6 : (SE.ivar .i64 6).num ρ = idxD (codeD ((elsD (ρ 2)).getD z .nilFunc)) ((elsD (ρ 2)).take z) := iv_at h6 (by omega) (by omega)
  have hsp0 : SpecOk Try.prog (tbC.atS ρ spC noLp) := spOf_ok (tb := tbC) (l := [eFind]) (fun e he => by
    rw [List.mem_singleton.1 he]
    exact find_at h5 hz2 hz h6)
  have hsp : SpecOk Try.prog (tbC.atS ρ spC lpC) := specP_of (l := [LC1, LC2]) (fs := [37]) (fun f fn hf => (Tb.only_func hf).1) hsp0 (by kernel_rfl) (fun e he => by
    rcases List.mem_cons.1 he with rfl | he
    · exact LoopPOk.tb (tb := tbC.atS ρ noSp noLp) (tb' := tbC.atS ρ spC noLp) rfl rfl rfl (LC1_ok h5 hz hz2 h10 e11 hn.1)
    · rw [List.mem_singleton.1 he]
      exact LoopPOk.tb (tb := tbC.atS ρ noSp lpC3) (tb' := tbC.atS ρ spC noLp) rfl rfl rfl (LC2_ok h5 hz hz2 h20 h30 h31 e21 hn))
  refine fnc_run (Tb.only_ok tb_ok _) (Tb.only_wf tb_wf _) hsp (kn := kn0) (n0 := 100) (n1 := 100) kn0_ok (pc := pcC0) (pc_C0 e5 hz) (by kernel_rfl) (run_fC ρ) ?_
  have h2 : (SE.dvar 2).data ρ = ρ 2 := rfl
  have hcd : IntKind.wrap .i64 (numOf (cellD ((elsD (ρ 2)).getD z .nilFunc) 0)) = codeD ((elsD (ρ 2)).getD z .nilFunc) := rfl
  have hlv : levD ((elsD (ρ 2)).getD z .nilFunc) = LV ρ z := rfl
  unfold MfC
  rw [all_cons, all_cons, all_cons, all_cons, all_cons, all_cons, all_cons, all_cons, all_cons]
  refine ⟨fun hp => ?_, fun hp => ?_, fun hp => ?_, fun hp => ?_, fun hp => ?_, fun hp => ?_, fun hp => ?_, fun hp => ?_, fun hp => ?_, fun _ h => by simp at h⟩
  all_goals
    simp only [h_cons, h_nil, t_lss, t_eql, t_bvar, n_int, n_dlen, n_leaf, d_cell, h2, e11, e21, e5, e6, hcd, LV_eq, if_true, Bool.false_eq_true, if_false, Int.toNat_natCast] at hp
    show Value.int .i64 _ = Value.int .i64 _
    congr 1
    show _ = refErr _ _
    unfold refErr chkD
    rw [hlv]
  · rw [if_pos (.inl hp.1)]; rfl
  · rw [if_pos (.inr hp.1)]; rfl
  · rw [if_neg (by omega), if_pos hp.1]; rfl
  · rw [if_neg (by omega), if_neg (by omega), if_pos (by omega)]; rfl
  · rw [if_neg (by omega), if_neg (by omega), if_neg (by omega), if_neg (by rw [hp.2.1]; simp), if_pos (.inl (by omega))]; rfl
  · rw [if_neg (by omega), if_neg (by omega), if_neg (by omega), if_neg (by rw [hp.2.2.1]; simp), if_pos (.inr (by unfold symsD; have := hp.1; simpa using this))]; rfl
  · rw [if_neg (by omega), if_neg (by omega), if_neg (by omega), if_neg (by rw [hp.2.2.2.1]; simp), if_neg (by
      rintro (h | h)
      · have := hp.2.2.1; omega
      · exact hp.2.1 (by unfold symsD at h; simpa using h)), if_neg (by rw [hp.1]; simp)]; rfl
  · rw [if_neg (by omega), if_neg (by omega), if_neg (by omega), if_neg (by rw [hp.2.2.2.1]; simp), if_neg (by
      rintro (h | h)
      · have := hp.2.2.1; omega
      · exact hp.2.1 (by unfold symsD at h; simpa using h)), if_pos hp.1]; rfl
  · rw [if_neg (by omega), if_neg (by omega), if_neg (by omega), if_pos hp.1]; rfl
end
end Go.Proofs.Ytaidiaiedhbaoaa
