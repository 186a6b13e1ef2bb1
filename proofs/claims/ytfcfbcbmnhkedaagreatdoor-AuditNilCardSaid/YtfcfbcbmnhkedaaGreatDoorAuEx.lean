/- AuditNil: the chapter's examples. -/
import Derived.Test.YtfcfbcbmnhkedaaGreatDoorAuB
set_option linter.unusedVariables false
namespace Go.Proofs.YtfcfbcbmnhkedaaGreatDoor
open Go.Sx
noncomputable section

theorem run_ex : isTrue (callX Tryz.prog tb 300 6 [] H0) = true := by kernel_rfl
def kn (f : Nat) : Option V := if f == 6 then some (.val (.bool true)) else none
theorem kn_ok : KnOk kn (call Tryz.prog tb 300) := by
  intro f v hv
  unfold kn at hv
  split at hv
  · rename_i hf
    cases hv
    rw [show f = 6 by simpa using hf]
    have h := run_ex
    rw [callX_eq] at h
    exact ⟨rfl, isTrue_eq h⟩
  · exact absurd hv (by simp)
end
end Go.Proofs.YtfcfbcbmnhkedaaGreatDoor
