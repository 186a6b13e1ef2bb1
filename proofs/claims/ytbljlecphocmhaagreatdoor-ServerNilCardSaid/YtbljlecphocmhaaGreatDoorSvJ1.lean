/- ServerNil: the closed facts of its row, each by itself. -/
import Derived.Test.YtbljlecphocmhaaGreatDoorRows
import Derived.Test.YtbljlecphocmhaaGreatDoorProg
import Derived.JoinedOf
set_option linter.unusedVariables false
namespace Go.Proofs.YtbljlecphocmhaaGreatDoor
open Go.ChangeShapes
theorem jf0 : (Rows.serverNilRow.wf (OpenSpec.ofChange Rows.serverNilSpec)) = true := by kernel_rfl
theorem jf4 : (namedTie Tryz.prog Rows.serverNilRow.named Rows.serverNilSpec.vars) = true := by kernel_rfl
theorem jf8 : ((Tryz.prog.stopKnobs == [])) = true := by kernel_rfl
theorem jf12 : ((Rows.serverNilRow.named == Tryz.prog.varsNamed 3)) = true := by kernel_rfl
theorem jf16 : ((Rows.serverNilRow.loops == (Tryz.f3.params.toList ++ Rows.serverNilSpec.plain.varTypes Tryz.prog).any (Tryz.prog.loopsFrom ·))) = true := by kernel_rfl
theorem jf20 : ((Rows.serverNilRow.ifacesOut == Tryz.f3.resultTypes.toList.any (Tryz.prog.ifacesRec ·))) = true := by kernel_rfl
theorem jf24 : (Tryz.prog.stopsHeard) = true := by kernel_rfl
theorem jf28 : ((Rows.serverNilRow.kinds == (if Rows.serverNilRow.domain.isEmpty then [] else Tryz.f3.params.toList.map fun t => match Tryz.prog.underlying t with | some (.int k) => some k | _ => none))) = true := by kernel_rfl
end Go.Proofs.YtbljlecphocmhaaGreatDoor
