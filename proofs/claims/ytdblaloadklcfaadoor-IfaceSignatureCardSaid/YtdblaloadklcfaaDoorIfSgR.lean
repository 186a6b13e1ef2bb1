/- IfaceSignature: what the runs over short texts share. -/
import Derived.Test.YtdblaloadklcfaaDoorIfC
set_option linter.unusedVariables false
namespace Go.Proofs.YtdblaloadklcfaaDoor
open Go.Sx
noncomputable section

def rhoS (s : ByteArray) (n : Nat) : Value := if Nat.beq n 0 then .string s else .int .i64 (kindN (byteAt s (Int.ofNat (n - 100))))
def spS : Sp := fun f args => if Nat.beq f 35 || Nat.beq f 36 then (match args with
  | [.sym (.int .u8) (.byte (.svar 0) (.int .i64 (.ofNat j)))] => some (.sym (.int .i64) (.ivar .i64 (100 + j)), [])
  | _ => none) else none
def pcN (n : Nat) : PC := addPC (.cmp .eql (.len (.svar 0)) (.int .i64 (.ofNat n))) true []
def runS (ρ : Nat → Value) (n : Nat) : Bool := allTrue (callF kn Tryd.prog (tb.atS ρ spS noLp) 300 300 (pcN n) 6 [.sym .str (.svar 0)] H0)
theorem exampleS (ρ : Nat → Value) : isTrue (callX Tryd.prog (tb.atS ρ spS noLp) 300 13 [] H0) = true := by kernel_rfl
end
end Go.Proofs.YtdblaloadklcfaaDoor
