/- AuditNil: the closed facts of its row. -/
import Derived.Test.YtfcfbcbmnhkedaaGreatDoorAuJ1
import Derived.Test.YtfcfbcbmnhkedaaGreatDoorAuJ2
import Derived.Test.YtfcfbcbmnhkedaaGreatDoorAuJ3
import Derived.Test.YtfcfbcbmnhkedaaGreatDoorAuJ4
set_option linter.unusedVariables false
namespace Go.Proofs.YtfcfbcbmnhkedaaGreatDoor
theorem jand {a b : Bool} (h1 : a = true) (h2 : b = true) : (a && b) = true := by rw [h1, h2]; rfl
set_option maxRecDepth 100000 in
theorem joined : joinedFacts Tryz.prog 3 Tryz.f3 Rows.auditNilSpec Rows.auditNilRow = true := (jand (jand (jand (jand (jand (jand (jand (jand (jand (jand (jand (jand (jand (jand (jand (jand (jand (jand (jand (jand (jand (jand (jand (jand (jand (jand (jand (jand (jand (jand (jand jf0 jf1) jf2) jf3) jf4) jf5) jf6) jf7) jf8) jf9) jf10) jf11) jf12) jf13) jf14) jf15) jf16) jf17) jf18) jf19) jf20) jf21) jf22) jf23) jf24) jf25) jf26) jf27) jf28) jf29) jf30) jf31)
end Go.Proofs.YtfcfbcbmnhkedaaGreatDoor
