/- AuditNil: the closed facts of its row, each by itself. -/
import Derived.Test.YtfcfbcbmnhkedaaGreatDoorRows
import Derived.Test.YtfcfbcbmnhkedaaGreatDoorProg
import Derived.JoinedOf
set_option linter.unusedVariables false
namespace Go.Proofs.YtfcfbcbmnhkedaaGreatDoor
open Go.ChangeShapes
theorem jf2 : (mapsRowed Tryz.prog) = true := by kernel_rfl
theorem jf6 : ((Tryz.prog.stops == [])) = true := by kernel_rfl
theorem jf10 : ((Rows.auditNilRow.unfollowed == Tryz.prog.unfollowed 3)) = true := by kernel_rfl
theorem jf14 : ((Rows.auditNilRow.ifaces == (Tryz.f3.params.toList ++ Rows.auditNilSpec.plain.varTypes Tryz.prog).any (Tryz.prog.ifacesRec ·))) = true := by kernel_rfl
theorem jf18 : (Rows.auditNilSpec.vars.all (Tryz.prog.varReadable ·)) = true := by kernel_rfl
theorem jf22 : ((Rows.auditNilRow.plainKeys == Tryz.prog.plainKeys)) = true := by kernel_rfl
theorem jf26 : ((Rows.auditNilRow.lifted == Tryz.prog.liftsFinal)) = true := by kernel_rfl
theorem jf30 : ((Rows.auditNilRow.veiled == (Tryz.f3.params.toList ++ Rows.auditNilSpec.plain.varTypes Tryz.prog ++ Tryz.f3.resultTypes.toList).any (Tryz.prog.veiledRec ·))) = true := by kernel_rfl
end Go.Proofs.YtfcfbcbmnhkedaaGreatDoor
