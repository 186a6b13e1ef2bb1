/- KeyboardSilent: whatever the keys and the times, the law returns true. No further conditions. -/
import Derived.Test.YtkbfhbghnfhgmabKbSil0
import Derived.Test.YtkbfhbghnfhgmabKbSil1
import Derived.Test.YtkbfhbghnfhgmabKbSil2
import Derived.Test.YtkbfhbghnfhgmabKbSil3
import Derived.Test.YtkbfhbghnfhgmabKbSil4
import Derived.Test.YtkbfhbghnfhgmabRows
set_option linter.unusedVariables false
namespace Go.Proofs.Ytkbfhbghnfhgmab
open Go.Sx Go.ChangeShapes Go.WideShapes Go.ChangeAt Go.RowKit

theorem tb_ok : tb.Ok Try.prog := tbOf_ok rfl rfl (by kernel_rfl) (by kernel_rfl)
theorem tb_wf : tb.Wf := tbOf_wf (by kernel_rfl)

/-- The chapter's examples. -/
theorem example_run (ρ : Nat → Value) : isTrue (call Try.prog (tb.at ρ) 300 9 [] H0) = true := by kernel_rfl
theorem kn_ok (ρ : Nat → Value) : KnOk kn (call Try.prog (tb.at ρ) 300) := by
  intro f v h
  unfold kn at h
  split at h
  · rename_i hf
    cases h
    rw [show f = 9 by simpa using hf]
    exact ⟨rfl, isTrue_eq (example_run ρ)⟩
  · exact absurd h (by simp)

theorem rem5 (l : Int) (h : 0 ≤ l) : l.tmod 5 = 0 ∨ l.tmod 5 = 1 ∨ l.tmod 5 = 2 ∨ l.tmod 5 = 3 ∨ l.tmod 5 = 4 := by
  have a1 := Int.tmod_lt_of_pos l (show (0 : Int) < 5 by decide)
  have a2 := Int.tmod_nonneg 5 h
  omega
theorem rem_fact (ρ : Nat → Value) (n : Nat) (l j : Int) (hn : (SE.ivar .u8 n).num ρ = l) (h : l.tmod 5 = j) : (SE.cmp .eql (.bin .rem .u8 (.ivar .u8 n) (.int .u8 5)) (.int .u8 j)).truth ρ = true := by
  rw [(truth_cmp _ _ _).1, beq_iff_eq]
  refine num_bin ?_
  rw [hn]
  show intBin .rem .u8 l .u8 5 = some (.int .u8 j)
  simp [intBin, h]

/-- What the unknowns are. -/
def rho (i0 : Int) (i1 : Int) (i2 : Int) (i3 : Int) (n : Nat) : Value :=
  match n with
  | 0 => .int .u8 i0
  | 1 => .int .u8 i1
  | 2 => .int .i64 i2
  | _ => .int .i64 i3

theorem lawful (xs : List V) (h : TyArgs tb 8 Try.f3.params.toList xs) : ∃ ρ ys m L, SymAll ρ xs ys ∧ call Try.prog (tb.at ρ) m 3 ys H0 = some L ∧ ∀ r, r ∈ L → TrueV ρ r.1 := by
  obtain ⟨x, _, rfl, hx, rfl⟩ := h
  obtain ⟨csx, rfl, hcx⟩ := TyV.agg (by kernel_rfl) hx
  obtain ⟨ax0, _, rfl, hax0, ax1, _, rfl, hax1, ax2, _, rfl, hax2, ax3, _, rfl, hax3, rfl⟩ := Ty.struct (ts := [5, 5, 3, 3]) (by kernel_rfl) hcx
  obtain ⟨i0, rfl, h0⟩ := Ty.int (k := .u8) (by kernel_rfl) hax0
  obtain ⟨i1, rfl, h1⟩ := Ty.int (k := .u8) (by kernel_rfl) hax1
  obtain ⟨i2, rfl, h2⟩ := Ty.int (k := .i64) (by kernel_rfl) hax2
  obtain ⟨i3, rfl, h3⟩ := Ty.int (k := .i64) (by kernel_rfl) hax3
  have hsym : SymAll (rho i0 i1 i2 i3) [.agg [.val (.int .u8 i0), .val (.int .u8 i1), .val (.int .i64 i2), .val (.int .i64 i3)]] ys :=
    ⟨⟨SymOf.agg ⟨⟨SymOf.int (wrap_id .u8 _ h0.1 h0.2), id⟩, ⟨SymOf.int (wrap_id .u8 _ h1.1 h1.2), id⟩, ⟨SymOf.int (wrap_id .i64 _ h2.1 h2.2), id⟩, ⟨SymOf.int (wrap_id .i64 _ h3.1 h3.2), id⟩, trivial⟩, id⟩, trivial⟩
  have n0 : (SE.ivar .u8 0).num (rho i0 i1 i2 i3) = i0 := wrap_id .u8 i0 h0.1 h0.2
  have n1 : (SE.ivar .u8 1).num (rho i0 i1 i2 i3) = i1 := wrap_id .u8 i1 h1.1 h1.2
  have key : ∀ a b, i0.tmod 5 = a → i1.tmod 5 = b → allTrue (callF kn Try.prog (tb.at (rho i0 i1 i2 i3)) 300 100 (pc a b) 3 ys H0) = true → ∃ ρ ys m L, SymAll ρ [.agg [.val (.int .u8 i0), .val (.int .u8 i1), .val (.int .i64 i2), .val (.int .i64 i3)]] ys ∧ call Try.prog (tb.at ρ) m 3 ys H0 = some L ∧ ∀ r, r ∈ L → TrueV ρ r.1 := fun a b ha hb hr => by
    obtain ⟨m, L, e1, e2⟩ := all_true (kn_ok _) (PC.holds_cons (rem_fact _ 0 i0 a n0 ha) (PC.holds_cons (rem_fact _ 1 i1 b n1 hb) (PC.holds_nil _))) hr
    exact ⟨rho i0 i1 i2 i3, ys, m, L, hsym, e1, e2⟩
  rcases rem5 i0 h0.1 with ha | ha | ha | ha | ha <;> rcases rem5 i1 h1.1 with hb | hb | hb | hb | hb
  · exact key _ _ ha hb (run00 _)
  · exact key _ _ ha hb (run01 _)
  · exact key _ _ ha hb (run02 _)
  · exact key _ _ ha hb (run03 _)
  · exact key _ _ ha hb (run04 _)
  · exact key _ _ ha hb (run10 _)
  · exact key _ _ ha hb (run11 _)
  · exact key _ _ ha hb (run12 _)
  · exact key _ _ ha hb (run13 _)
  · exact key _ _ ha hb (run14 _)
  · exact key _ _ ha hb (run20 _)
  · exact key _ _ ha hb (run21 _)
  · exact key _ _ ha hb (run22 _)
  · exact key _ _ ha hb (run23 _)
  · exact key _ _ ha hb (run24 _)
  · exact key _ _ ha hb (run30 _)
  · exact key _ _ ha hb (run31 _)
  · exact key _ _ ha hb (run32 _)
  · exact key _ _ ha hb (run33 _)
  · exact key _ _ ha hb (run34 _)
  · exact key _ _ ha hb (run40 _)
  · exact key _ _ ha hb (run41 _)
  · exact key _ _ ha hb (run42 _)
  · exact key _ _ ha hb (run43 _)
  · exact key _ _ ha hb (run44 _)

theorem own : ownKnob Try.prog.godebug = none := by kernel_rfl
theorem kids : Kids Try.prog (· < Try.prog.types.size) := kids_rows (by kernel_rfl) (by kernel_rfl)
theorem full : ∀ t e, t < Try.prog.types.size → Try.prog.underlying t = some (.slice e) → 0 < Try.prog.cellsOf e := slices_full_of Try.prog (by kernel_rfl)

theorem lifted (os : Os) (started : os.Started) (H : Type) (enc : TypeId × Value → H) :
    ReturnsInHanded {} Try.checked os 3 .any (Rows.keyboardSilentSpec.pre6 enc Try.prog Try.f3 Rows.keyboardSilentRow.domain false) (Rows.keyboardSilentSpec.post enc Try.prog Try.f3 false true false false) :=
  law_lift_sym (C := Try.checked) (tb := tb) (n := 8) (t := 4) tb_ok tb_wf (fun _ => rfl) own started (by kernel_rfl) Try.func3
    (ChangeSpec.witness6 (enc := enc) (C := Try.checked) false ⟨#[], #[.agg #[.int .u8 0, .int .u8 0, .int .i64 0, .int .i64 0]], []⟩ 3 (by kernel_rfl) (by kernel_rfl) (by kernel_rfl) (by kernel_rfl))
    kids full (by rw [Try.params3]; decide +kernel) rfl Try.underlying4 rfl (fun ds hds => by
      match ds, hds with
      | [d0], _ => rfl) (by kernel_rfl) lawful

theorem silent_holds : Rows.KeyboardSilentSaid :=
  OpenClaim.holds_of_wide 3 Try.f3 rfl rfl rfl rfl rfl rfl rfl ⟨rfl, rfl, rfl, rfl, rfl⟩ rfl rfl rfl rfl rfl (by kernel_rfl) Try.func3 (by kernel_rfl)
    (of_decide_eq_true (by kernel_rfl)) (by unfold Func.isWrapper; first | (rw [if_pos (by decide +kernel)]; kernel_rfl) | (rw [if_neg (by decide +kernel)]; exact ⟨rfl, rfl⟩))
    (fun os started H enc _ => lifted os started H enc)

#print axioms silent_holds
end Go.Proofs.Ytkbfhbghnfhgmab
