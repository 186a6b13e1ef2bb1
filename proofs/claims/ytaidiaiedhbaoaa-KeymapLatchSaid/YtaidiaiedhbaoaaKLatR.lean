/- KeymapLatch: what the runs share. -/
import Derived.Test.YtaidiaiedhbaoaaSxN
import Derived.Test.YtaidiaiedhbaoaaKLatB
import Derived.Test.YtaidiaiedhbaoaaProg
set_option linter.unusedVariables false
namespace Go.Proofs.Ytaidiaiedhbaoaa
open Go.Sx
noncomputable section

def tb0 : Tb := tbOf Try.funcs.toList Try.types.toList
/-- The tables, with what is dead behind a round of the law's loop: the paths of its three keys meet there. -/
def tb : Tb := { tb0 with dead := fun k => if Nat.beq k 10 then [3, 5, 7, 8, 9, 10, 11, 12, 13, 14, 15, 16, 17, 18, 19, 20, 21, 22, 23, 24, 25, 26, 27, 28, 29, 30, 31, 32, 33, 34, 35, 36, 37, 38, 39, 40, 41, 42, 43, 44, 45, 46, 47, 50, 51, 52, 53, 54, 55, 56, 57, 58, 59, 60, 61, 62, 63, 64, 65, 66, 67, 68, 69, 70, 71, 72, 73, 74, 75, 76, 77, 78, 79, 80] else [] }
def kn (f : Nat) : Option V := if f == 10 then some (.val (.bool true)) else none
abbrev Sp := Nat → List V → Option (V × List (SE × Bool))
abbrev Lp := Nat → St → Option OTree
def noSp : Sp := fun _ _ => none
def noLp : Lp := fun _ _ => none
def runP (ρ : Nat → Value) (pc : PC) (n : Nat) : Bool := allTrue (callG kn Try.prog (tb.atS ρ noSp noLp) 300 300 pc 7 [symBytes n] H0)
def runK (ρ : Nat → Value) (n : Nat) : Bool := runP ρ [] n
/-- Which of the three keys a byte chooses. -/
def fct (j c : Nat) : SE := .cmp .eql (.bin .rem .u8 (.ivar .u8 j) (.int .u8 3)) (.int .u8 (.ofNat c))
def pc1 (c : Nat) : PC := addPC (fct 0 c) true []
def pc2 (c d : Nat) : PC := addPC (fct 0 c) true (addPC (fct 1 d) true [])
end
end Go.Proofs.Ytaidiaiedhbaoaa
