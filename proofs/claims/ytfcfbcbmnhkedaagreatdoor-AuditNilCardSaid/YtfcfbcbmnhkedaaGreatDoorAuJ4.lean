/- AuditNil: the closed facts of its row, each by itself. -/
import Derived.Test.YtfcfbcbmnhkedaaGreatDoorRows
import Derived.Test.YtfcfbcbmnhkedaaGreatDoorProg
import Derived.JoinedOf
set_option linter.unusedVariables false
namespace Go.Proofs.YtfcfbcbmnhkedaaGreatDoor
open Go.ChangeShapes
theorem jf3 : (Tryz.f3.params.all (Tryz.prog.readableRec ·)) = true := by kernel_rfl
theorem jf7 : ((Rows.auditNilRow.knobs == [])) = true := by kernel_rfl
theorem jf11 : ((Rows.auditNilRow.recurses == Tryz.prog.recurses 3)) = true := by kernel_rfl
theorem jf15 : ((Rows.auditNilRow.mapsOut == Tryz.prog.mapsAmong Tryz.f3.resultTypes.toList)) = true := by kernel_rfl
theorem jf19 : (Tryz.f3.resultTypes.all (fun t => Tryz.prog.readableRec t && decide (t < Tryz.prog.types.size))) = true := by kernel_rfl
theorem jf23 : (Rows.auditNilRow.shortTexts.isNone) = true := by kernel_rfl
theorem jf27 : ((Tryz.prog.make == some Rows.auditNilRow.make)) = true := by kernel_rfl
theorem jf31 : (Rows.auditNilRow.veiledFits Tryz.prog Tryz.f3.params.toList (Tryz.f3.params.toList ++ Rows.auditNilSpec.plain.varTypes Tryz.prog ++ Tryz.f3.resultTypes.toList)) = true := by kernel_rfl
end Go.Proofs.YtfcfbcbmnhkedaaGreatDoor
