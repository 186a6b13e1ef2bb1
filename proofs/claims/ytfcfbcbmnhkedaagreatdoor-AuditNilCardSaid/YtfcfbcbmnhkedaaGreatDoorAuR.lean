/- AuditNil: the law's run, the chapter's examples known. -/
import Derived.Test.YtfcfbcbmnhkedaaGreatDoorAuEx
set_option linter.unusedVariables false
namespace Go.Proofs.YtfcfbcbmnhkedaaGreatDoor
open Go.Sx

def delV (k0 k1 k2 k3 k4 k5 k6 k7 k8 : Int) : V := .agg [.val (.int .i64 k0), .val (.int .i64 k1), .val (.int .i64 k2), .val (.int .i64 k3), .val (.int .i64 k4), .val (.int .i64 k5), .val (.int .i64 k6), .val (.int .i64 k7), .val (.int .u32 k8)]
theorem run_law (k0 k1 k2 k3 k4 k5 k6 k7 k8 : Int) : allTrue (callF kn Tryz.prog tb 300 300 [] 3 [delV k0 k1 k2 k3 k4 k5 k6 k7 k8] H0) = true := by kernel_rfl
end Go.Proofs.YtfcfbcbmnhkedaaGreatDoor
