/- AuditNil: the closed facts of its row, each by itself. -/
import Derived.Test.YtfcfbcbmnhkedaaGreatDoorRows
import Derived.Test.YtfcfbcbmnhkedaaGreatDoorProg
import Derived.JoinedOf
set_option linter.unusedVariables false
namespace Go.Proofs.YtfcfbcbmnhkedaaGreatDoor
open Go.ChangeShapes
theorem jf1 : (laidOutB Tryz.prog) = true := by kernel_rfl
theorem jf5 : ((Rows.auditNilRow.stops == [])) = true := by kernel_rfl
theorem jf9 : ((Rows.auditNilRow.inPlace == Tryz.prog.inPlace 3)) = true := by kernel_rfl
theorem jf13 : ((Rows.auditNilRow.maps == (Tryz.f3.params.toList ++ Rows.auditNilSpec.plain.varTypes Tryz.prog).any (Tryz.prog.mapsRec ·))) = true := by kernel_rfl
theorem jf17 : ((Rows.auditNilRow.wideKeys == (Tryz.f3.params.toList ++ Rows.auditNilSpec.plain.varTypes Tryz.prog ++ Tryz.f3.resultTypes.toList).any (Tryz.prog.wideKeysFrom ·))) = true := by kernel_rfl
theorem jf21 : ((Rows.auditNilRow.loopsOut == Tryz.f3.resultTypes.toList.any (Tryz.prog.loopsFrom ·))) = true := by kernel_rfl
theorem jf25 : (Tryz.prog.mayEnter) = true := by kernel_rfl
theorem jf29 : ((Rows.auditNilRow.pinned == Rows.auditNilRow.pinnedBy)) = true := by kernel_rfl
end Go.Proofs.YtfcfbcbmnhkedaaGreatDoor
