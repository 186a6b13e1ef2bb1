/- AuditNil: the closed facts of its row, each by itself. -/
import Derived.Test.YtfcfbcbmnhkedaaGreatDoorRows
import Derived.Test.YtfcfbcbmnhkedaaGreatDoorProg
import Derived.JoinedOf
set_option linter.unusedVariables false
namespace Go.Proofs.YtfcfbcbmnhkedaaGreatDoor
open Go.ChangeShapes
theorem jf0 : (Rows.auditNilRow.wf (OpenSpec.ofChange Rows.auditNilSpec)) = true := by kernel_rfl
theorem jf4 : (namedTie Tryz.prog Rows.auditNilRow.named Rows.auditNilSpec.vars) = true := by kernel_rfl
theorem jf8 : ((Tryz.prog.stopKnobs == [])) = true := by kernel_rfl
theorem jf12 : ((Rows.auditNilRow.named == Tryz.prog.varsNamed 3)) = true := by kernel_rfl
theorem jf16 : ((Rows.auditNilRow.loops == (Tryz.f3.params.toList ++ Rows.auditNilSpec.plain.varTypes Tryz.prog).any (Tryz.prog.loopsFrom ·))) = true := by kernel_rfl
theorem jf20 : ((Rows.auditNilRow.ifacesOut == Tryz.f3.resultTypes.toList.any (Tryz.prog.ifacesRec ·))) = true := by kernel_rfl
theorem jf24 : (Tryz.prog.stopsHeard) = true := by kernel_rfl
theorem jf28 : ((Rows.auditNilRow.kinds == (if Rows.auditNilRow.domain.isEmpty then [] else Tryz.f3.params.toList.map fun t => match Tryz.prog.underlying t with | some (.int k) => some k | _ => none))) = true := by kernel_rfl
end Go.Proofs.YtfcfbcbmnhkedaaGreatDoor
