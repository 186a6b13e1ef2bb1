/- ServerNil: the chapter's examples, in stages. -/
import Derived.Test.YtbljlecphocmhaaGreatDoorSvS
set_option linter.unusedVariables false
namespace Go.Proofs.YtbljlecphocmhaaGreatDoor
open Go.Sx
noncomputable section

theorem run_ex : isTrue (callK (stageOf stages) Tryz.prog tb 300 300 22 [] H0) = true := by kernel_rfl
def kn (f : Nat) : Option V := if f == 22 then some (.val (.bool true)) else none
theorem kn_ok : KnOk kn (call Tryz.prog tb 600) := by
  intro f v hv
  unfold kn at hv
  split at hv
  · rename_i hf
    cases hv
    rw [show f = 22 by simpa using hf]
    obtain ⟨H', hL⟩ := isTrue_eq run_ex
    exact ⟨rfl, H', callK_ok (stageOf_ok stages_ok) 300 _ _ _ _ hL⟩
  · exact absurd hv (by simp)
end
end Go.Proofs.YtbljlecphocmhaaGreatDoor
