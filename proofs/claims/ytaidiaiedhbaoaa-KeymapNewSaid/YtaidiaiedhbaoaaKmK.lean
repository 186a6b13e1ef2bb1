/- Keymaps: the tables. -/
import Derived.Test.YtaidiaiedhbaoaaKmC
import Derived.Test.YtaidiaiedhbaoaaProg
set_option linter.unusedVariables false
set_option linter.unusedSimpArgs false
namespace Go.Proofs.Ytaidiaiedhbaoaa
open Go.Sx Go.ChangeShapes Go.WideShapes Go.ChangeAt Go.RowKit
noncomputable section
def tb : Tb := tbOf Try.funcs.toList Try.types.toList
theorem tb_ok : tb.Ok Try.prog := tbOf_ok rfl rfl (by kernel_rfl) (by kernel_rfl)
theorem tb_wf : tb.Wf := tbOf_wf (by kernel_rfl)
abbrev Sp := Nat → List V → Option (V × List (SE × Bool))
abbrev Lp := Nat → St → Option OTree
def noSp : Sp := fun _ _ => none
def noLp : Lp := fun _ _ => none
def kn0 : Nat → Option V := fun _ => none
theorem kn0_ok {P : Program} {tb : Tb} {n : Nat} : KnOk kn0 (call P tb n) := fun f v h => by simp [kn0] at h
theorem none_ok (fs : List Nat) (ρ : Nat → Value) : SpecOk Try.prog ((tb.only fs).atS ρ noSp noLp) := SpecOk.none (fun _ _ => rfl) (fun _ _ => rfl)
abbrev iv (n : Nat) : V := .sym (.int .i64) (.ivar .i64 n)
abbrev bv (n : Nat) : V := .sym .bool (.bvar n)
abbrev shI : Sh := .li (.cons (.sc (.int .i64)) .nil)
abbrev shL : Sh := .li (.cons shI .nil)
abbrev shK : Sh := .li (.cons (.sc (.int .i64)) (.cons shL .nil))
end
end Go.Proofs.Ytaidiaiedhbaoaa
