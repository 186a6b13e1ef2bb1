/- No goroutines where no function starts one. -/
import GoSem.ClaimGoes
namespace Go.Sx
open Go

/-- Where no function of the program starts a goroutine, none on a call's road does. -/
theorem goes_none {P : Program} {c : OpenClaim} (hs : c.start = .entering) (h : P.funcs.any Func.goes = false) : false = c.goesBy P := by
  have one : ∀ g : Nat, (P.funcs[g]?).any Func.goes = false := by
    intro g
    cases hg : P.funcs[g]? with
    | none => rfl
    | some fn =>
      have := Array.any_eq_false.1 h
      obtain ⟨hi, he⟩ := Array.getElem?_eq_some_iff.1 hg
      simpa [he] using this g hi
  have at_ : ∀ f : FuncId, P.goes f = false := by
    intro f
    unfold Program.goes
    rw [h, Bool.and_false, Bool.or_false]
    simp only [one]
    simp
  unfold OpenClaim.goesBy Program.goesAt Program.goesFrom
  rw [hs]
  simp only [Bool.or_false]
  cases P.funcNamed c.func with
  | none => rfl
  | some f => simp [at_]
end Go.Sx
