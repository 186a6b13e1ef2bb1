/- ServerNil: the closed facts of its row, each by itself. -/
import Derived.Test.YtbljlecphocmhaaGreatDoorRows
import Derived.Test.YtbljlecphocmhaaGreatDoorProg
import Derived.JoinedOf
set_option linter.unusedVariables false
namespace Go.Proofs.YtbljlecphocmhaaGreatDoor
open Go.ChangeShapes
theorem jf1 : (laidOutB Tryz.prog) = true := by kernel_rfl
theorem jf5 : ((Rows.serverNilRow.stops == [])) = true := by kernel_rfl
theorem jf9 : ((Rows.serverNilRow.inPlace == Tryz.prog.inPlace 3)) = true := by kernel_rfl
theorem jf13 : ((Rows.serverNilRow.maps == (Tryz.f3.params.toList ++ Rows.serverNilSpec.plain.varTypes Tryz.prog).any (Tryz.prog.mapsRec ·))) = true := by kernel_rfl
theorem jf17 : ((Rows.serverNilRow.wideKeys == (Tryz.f3.params.toList ++ Rows.serverNilSpec.plain.varTypes Tryz.prog ++ Tryz.f3.resultTypes.toList).any (Tryz.prog.wideKeysFrom ·))) = true := by kernel_rfl
theorem jf21 : ((Rows.serverNilRow.loopsOut == Tryz.f3.resultTypes.toList.any (Tryz.prog.loopsFrom ·))) = true := by kernel_rfl
theorem jf25 : (Tryz.prog.mayEnter) = true := by kernel_rfl
theorem jf29 : ((Rows.serverNilRow.pinned == Rows.serverNilRow.pinnedBy)) = true := by kernel_rfl
end Go.Proofs.YtbljlecphocmhaaGreatDoor
