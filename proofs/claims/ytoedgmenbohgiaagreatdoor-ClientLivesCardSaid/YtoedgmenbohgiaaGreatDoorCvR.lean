/- ClientLives: what the runs share. -/
import Derived.Test.YtoedgmenbohgiaaGreatDoorClW
set_option linter.unusedVariables false
namespace Go.Proofs.YtoedgmenbohgiaaGreatDoor
open Go.Sx
noncomputable section
/-- The interfaces' names. -/
def names : List String := ["display", "registry", "callback", "shell", "buffer", "surface", "subsurface", "toplevel", "popup", "seat", "pointer", "keyboard", "touch", "output", "presentation"]
def pcNone : PC := names.map fun n => (SE.eqs (.svar 0) (.str n.toUTF8), false)
def jvI (n : Nat) : V := .sym (.int .i64) (.ivar .i64 n)
def runN (ρ : Nat → Value) (n : String) : Bool := allTrue (callG kn Tryz.prog (tb.atS ρ noSp noLp) 300 300 [] 3 [.val (.string n.toUTF8), jvI 1, jvI 2] H0)
def runO (ρ : Nat → Value) : Bool := allTrue (callG kn Tryz.prog (tb.atS ρ noSp noLp) 300 300 pcNone 3 [.sym .str (.svar 0), jvI 1, jvI 2] H0)
theorem run_other (ρ : Nat → Value) : runO ρ = true := by kernel_rfl
theorem name_cases (s : ByteArray) : (∃ n, n ∈ names ∧ (s == n.toUTF8) = true) ∨ ∀ n, n ∈ names → (s == n.toUTF8) = false := by
  by_cases h : ∃ n, n ∈ names ∧ (s == n.toUTF8) = true
  · exact .inl h
  · refine .inr fun n hn => ?_
    cases hs : (s == n.toUTF8) with
    | false => rfl
    | true => exact absurd ⟨n, hn, hs⟩ h
theorem holds_none {ρ : Nat → Value} {s : ByteArray} (h0 : ρ 0 = .string s) (h : ∀ n, n ∈ names → (s == n.toUTF8) = false) : pcNone.holds ρ := fun q hq => by
  obtain ⟨n, hn, rfl⟩ := List.mem_map.1 hq
  show (textOf (ρ 0) == _) = false
  rw [h0]
  exact h n hn
end
end Go.Proofs.YtoedgmenbohgiaaGreatDoor
