/- KeyboardFocus: whatever the client and the surface, the law returns true. No further conditions. -/
import Derived.Test.YtkbfhbghnfhgmabSx24
import Derived.Test.YtkbfhbghnfhgmabRows
set_option linter.unusedVariables false
namespace Go.Proofs.Ytkbfhbghnfhgmab
open Go.Sx Go.ChangeShapes Go.WideShapes Go.ChangeAt Go.RowKit

noncomputable def tb : Tb := tbOf Try.funcs.toList Try.types.toList
def kn (f : Nat) : Option V := if f == 9 then some (.val (.bool true)) else none
def ys : List V := [.sym (.int .i64) (.ivar .i64 0), .sym (.int .i64) (.ivar .i64 1)]
theorem tb_ok : tb.Ok Try.prog := tbOf_ok rfl rfl (by kernel_rfl) (by kernel_rfl)
theorem tb_wf : tb.Wf := tbOf_wf (by kernel_rfl)

/-- The chapter's examples. -/
theorem example_run (ρ : Nat → Value) : isTrue (call Try.prog (tb.at ρ) 300 9 [] H0) = true := by kernel_rfl
theorem kn_ok (ρ : Nat → Value) : KnOk kn (call Try.prog (tb.at ρ) 300) := by
  intro f v h
  unfold kn at h
  split at h
  · rename_i hf
    cases h
    rw [show f = 9 by simpa using hf]
    exact ⟨rfl, isTrue_eq (example_run ρ)⟩
  · exact absurd h (by simp)

theorem run (ρ : Nat → Value) : allTrue (callF kn Try.prog (tb.at ρ) 300 100 [] 6 ys H0) = true := by kernel_rfl

/-- What the unknowns are. -/
def rho (i0 : Int) (i1 : Int) (n : Nat) : Value :=
  match n with
  | 0 => .int .i64 i0
  | _ => .int .i64 i1

theorem lawful (xs : List V) (h : TyArgs tb 8 Try.f6.params.toList xs) : ∃ ρ ys m L, SymAll ρ xs ys ∧ call Try.prog (tb.at ρ) m 6 ys H0 = some L ∧ ∀ r, r ∈ L → TrueV ρ r.1 := by
  obtain ⟨x, _, rfl, hx, y, _, rfl, hy, rfl⟩ := h
  obtain ⟨i0, ex, h0⟩ := Ty.int (k := .i64) (by kernel_rfl) (TyV.cell (by kernel_rfl) hx)
  cases ex
  obtain ⟨i1, ey, h1⟩ := Ty.int (k := .i64) (by kernel_rfl) (TyV.cell (by kernel_rfl) hy)
  cases ey
  have hsym : SymAll (rho i0 i1) [.val (.int .i64 i0), .val (.int .i64 i1)] ys :=
    ⟨⟨SymOf.int (wrap_id .i64 _ h0.1 h0.2), id⟩, ⟨SymOf.int (wrap_id .i64 _ h1.1 h1.2), id⟩, trivial⟩
  obtain ⟨m, L, e1, e2⟩ := all_true (kn_ok _) (PC.holds_nil _) (run (rho i0 i1))
  exact ⟨rho i0 i1, ys, m, L, hsym, e1, e2⟩

theorem own : ownKnob Try.prog.godebug = none := by kernel_rfl
theorem kids : Kids Try.prog (· < Try.prog.types.size) := kids_rows (by kernel_rfl) (by kernel_rfl)
theorem full : ∀ t e, t < Try.prog.types.size → Try.prog.underlying t = some (.slice e) → 0 < Try.prog.cellsOf e := slices_full_of Try.prog (by kernel_rfl)

theorem lifted (os : Os) (started : os.Started) (H : Type) (enc : TypeId × Value → H) :
    ReturnsInHanded {} Try.checked os 6 .any (Rows.keyboardFocusSpec.pre6 enc Try.prog Try.f6 Rows.keyboardFocusRow.domain false) (Rows.keyboardFocusSpec.post enc Try.prog Try.f6 false true false false) :=
  law_lift_sym (C := Try.checked) (tb := tb) (n := 8) (t := 4) tb_ok tb_wf (fun _ => rfl) own started (by kernel_rfl) Try.func6
    (ChangeSpec.witness6 (enc := enc) (C := Try.checked) false ⟨#[], #[.int .i64 0, .int .i64 0], []⟩ 6 (by kernel_rfl) (by kernel_rfl) (by kernel_rfl) (by kernel_rfl))
    kids full (by rw [Try.params6]; decide +kernel) rfl Try.underlying4 rfl (fun ds hds => by
      match ds, hds with
      | [d0, d1], _ => rfl) (by kernel_rfl) lawful

theorem focus_holds : Rows.KeyboardFocusSaid :=
  OpenClaim.holds_of_wide 6 Try.f6 rfl rfl rfl rfl rfl rfl rfl ⟨rfl, rfl, rfl, rfl, rfl⟩ rfl rfl rfl rfl rfl (by kernel_rfl) Try.func6 (by kernel_rfl)
    (of_decide_eq_true (by kernel_rfl)) (by unfold Func.isWrapper; first | (rw [if_pos (by decide +kernel)]; kernel_rfl) | (rw [if_neg (by decide +kernel)]; exact ⟨rfl, rfl⟩))
    (fun os started H enc _ => lifted os started H enc)

#print axioms focus_holds
end Go.Proofs.Ytkbfhbghnfhgmab
