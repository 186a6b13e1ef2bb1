/- IfaceKinds: what the runs share. -/
import Derived.Test.YtdblaloadklcfaaDoorIfC
set_option linter.unusedVariables false
namespace Go.Proofs.YtdblaloadklcfaaDoor
open Go.Sx
noncomputable section

def rhoK (s t : ByteArray) (k : Nat) : Value :=
  if Nat.beq k 0 then .string s else if Nat.beq k 1 then .string t else if Nat.blt k 200 then .int .i64 (kindN (byteAt s (Int.ofNat (k - 100)))) else .int .i64 (kindN (byteAt t (Int.ofNat (k - 200))))
/-- The checks of the two texts, where the first is known; the second. -/
def spB (a b : Bool) : Sp := fun f args => if Nat.beq f 18 || Nat.beq f 19 then (match args with
  | [.sym .str (.svar 0)] => some (.val (.bool a), [])
  | [.sym .str (.svar 1)] => some (.val (.bool b), [])
  | _ => none) else none
def spK (n : Nat) : Sp := fun f args => if Nat.beq f 35 || Nat.beq f 36 then (match args with
  | [.sym (.int .u8) (.byte (.svar 0) (.int .i64 (.ofNat j)))] => if Nat.blt j 100 then some (.sym (.int .i64) (.ivar .i64 (100 + j)), []) else none
  | [.sym (.int .u8) (.byte (.svar 1) (.int .i64 (.ofNat j)))] => some (.sym (.int .i64) (.ivar .i64 (200 + j)), [])
  | [.sym (.int .u8) (.byte (.cat (.svar 0) (.svar 1)) (.int .i64 (.ofNat j)))] => if Nat.blt j n then (if Nat.blt j 100 then some (.sym (.int .i64) (.ivar .i64 (100 + j)), []) else none) else some (.sym (.int .i64) (.ivar .i64 (200 + (j - n))), [])
  | _ => none) else if Nat.beq f 18 || Nat.beq f 19 then (match args with
  | [.sym .str (.svar 0)] => some (.val (.bool true), [])
  | [.sym .str (.svar 1)] => some (.val (.bool true), [])
  | [.sym .str (.cat (.svar 0) (.svar 1))] => some (.val (.bool true), [])
  | _ => none) else none
def pcLen (e : SE) (n : Nat) : PC → PC := addPC (.cmp .eql (.len e) (.int .i64 (.ofNat n))) true
/-- The letters' kinds are from 1 to 7. -/
def pcKinds (base : Nat) : Nat → PC → PC
  | 0, pc => pc
  | j + 1, pc => addPC (.cmp .gtr (.ivar .i64 (base + j)) (.int .i64 7)) false (addPC (.cmp .lss (.ivar .i64 (base + j)) (.int .i64 1)) false (pcKinds base j pc))
def pcK (n m : Nat) : PC := pcLen (.svar 0) n (pcLen (.svar 1) m (pcLen (.cat (.svar 0) (.svar 1)) (n + m) (pcKinds 100 n (pcKinds 200 m []))))
def args2 : List V := [.sym .str (.svar 0), .sym .str (.svar 1)]
def runK (ρ : Nat → Value) (n m : Nat) : Bool := allTrue (callF kn Tryd.prog (tb.atS ρ (spK n) noLp) 300 300 (pcK n m) 7 args2 H0)
def runsK (ρ : Nat → Value) (n : Nat) (l : List Nat) : Bool := l.all (runK ρ n)
theorem exampleK (ρ : Nat → Value) (n : Nat) : isTrue (callX Tryd.prog (tb.atS ρ (spK n) noLp) 300 13 [] H0) = true := by kernel_rfl
theorem exampleB (ρ : Nat → Value) (a b : Bool) : isTrue (callX Tryd.prog (tb.atS ρ (spB a b) noLp) 300 13 [] H0) = true := by kernel_rfl
end
end Go.Proofs.YtdblaloadklcfaaDoor
