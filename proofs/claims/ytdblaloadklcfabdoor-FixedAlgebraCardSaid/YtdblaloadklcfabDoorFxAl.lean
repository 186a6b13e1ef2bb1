/- FixedAlgebra: whatever the arguments, the law returns true. No further conditions. -/
import Derived.Test.YtdblaloadklcfabDoorFxAlR1
import Derived.Test.YtdblaloadklcfabDoorFxAlR2
import Derived.Test.YtdblaloadklcfabDoorFxAlR3
import Derived.Test.YtdblaloadklcfabDoorFxAlR4
import Derived.Test.YtdblaloadklcfabDoorCards
import Derived.Test.YtdblaloadklcfabDoorTie
import Derived.SevenTiedAt
set_option linter.unusedVariables false
namespace Go.Proofs.YtdblaloadklcfabDoor
open Go.Sx Go.ChangeShapes Go.WideShapes Go.ChangeAt Go.RowKit



/-- What the unknowns are. -/
def rho (i0 : Int) (i1 : Int) (n : Nat) : Value :=
  match n with
  | 0 => .int .i32 i0
  | _ => .int .i32 i1

theorem lawful (xs : List V) (h : TyArgs tb 8 Tryd.f10.params.toList xs) : ∃ ρ ys m L, SymAll ρ xs ys ∧ call Tryd.prog (tb.at ρ) m 10 ys H0 = some L ∧ ∀ r, r ∈ L → TrueV ρ r.1 := by
  obtain ⟨x, _, rfl, hx, y, _, rfl, hy, rfl⟩ := h
  obtain ⟨i0, ex, h0⟩ := Ty.int (k := .i32) (by kernel_rfl) (TyV.cell (by kernel_rfl) hx)
  cases ex
  obtain ⟨i1, ey, h1⟩ := Ty.int (k := .i32) (by kernel_rfl) (TyV.cell (by kernel_rfl) hy)
  cases ey
  have hsym : SymAll (rho i0 i1) [.val (.int .i32 i0), .val (.int .i32 i1)] [.sym (.int .i32) (.ivar .i32 0), .sym (.int .i32) (.ivar .i32 1)] :=
    ⟨⟨SymOf.int (wrap_id .i32 _ h0.1 h0.2), id⟩, ⟨SymOf.int (wrap_id .i32 _ h1.1 h1.2), id⟩, trivial⟩
  have hn0 : (SE.conv .i64 (.ivar .i32 0)).num (rho i0 i1) = i0 := by
    have e1 : (SE.ivar .i32 0).num (rho i0 i1) = i0 := wrap_id .i32 i0 h0.1 h0.2
    rw [n_conv, e1]
    have := h0.1; have := h0.2
    simp only [IntKind.min, IntKind.max, IntKind.bits, IntKind.signed] at *
    exact wid_i64 _ (by simp at *; omega) (by simp at *; omega)
  have hn1 : (SE.conv .i64 (.ivar .i32 1)).num (rho i0 i1) = i1 := by
    have e1 : (SE.ivar .i32 1).num (rho i0 i1) = i1 := wrap_id .i32 i1 h1.1 h1.2
    rw [n_conv, e1]
    have := h1.1; have := h1.2
    simp only [IntKind.min, IntKind.max, IntKind.bits, IntKind.signed] at *
    exact wid_i64 _ (by simp at *; omega) (by simp at *; omega)
  have hp : (pcAl (decide (i0 < 0)) (decide (i1 < 0))).holds (rho i0 i1) := by
    refine PC.holds_cons ?_ (PC.holds_cons ?_ (PC.holds_nil _))
    · rw [(truth_cmp _ _ _).2.2.1, hn0]; rfl
    · rw [(truth_cmp _ _ _).2.2.1, hn1]; rfl
  have fin : ∀ {m L}, call Tryd.prog (tb.at (rho i0 i1)) m 10 ys2 H0 = some L → (∀ r, r ∈ L → TrueV (rho i0 i1) r.1) → ∃ ρ ys m L, SymAll ρ [.val (.int .i32 i0), .val (.int .i32 i1)] ys ∧ call Tryd.prog (tb.at ρ) m 10 ys H0 = some L ∧ ∀ r, r ∈ L → TrueV ρ r.1 :=
    fun h1 h2 => ⟨rho i0 i1, ys2, _, _, hsym, h1, h2⟩
  cases hs : decide (i0 < 0) <;> cases ht : decide (i1 < 0) <;> rw [hs, ht] at hp
  · obtain ⟨m, L, e1, e2⟩ := all_rest (kn_ok (rho i0 i1)) hp (al1_rest (rho i0 i1)) (al1_true (rho i0 i1)); exact fin e1 e2
  · obtain ⟨m, L, e1, e2⟩ := all_rest (kn_ok (rho i0 i1)) hp (al3_rest (rho i0 i1)) (al3_true (rho i0 i1)); exact fin e1 e2
  · obtain ⟨m, L, e1, e2⟩ := all_rest (kn_ok (rho i0 i1)) hp (al4_rest (rho i0 i1)) (al4_true (rho i0 i1)); exact fin e1 e2
  · obtain ⟨m, L, e1, e2⟩ := all_rest (kn_ok (rho i0 i1)) hp (al2_rest (rho i0 i1)) (al2_true (rho i0 i1)); exact fin e1 e2

set_option maxRecDepth 100000 in
theorem lifted (os : Os) (started : os.Started) (H : Type) (enc : TypeId × Value → H) :
    ReturnsInHanded {} Tryd.checked os 10 .any (fun w args => (Rows.fixedAlgebraSpec.pre enc Tryd.prog Tryd.f10 Rows.fixedAlgebraRow.domain false w args ∧ laidMetH Tryd.prog laid w) ∧ sizedMet enc Tryd.prog Tryd.f10 (OpenSpec.ofChange Rows.fixedAlgebraSpec) false w args)
      (Rows.fixedAlgebraSpec.post enc Tryd.prog Tryd.f10 false true false false) :=
  law_lift_laid (C := Tryd.checked) (tb := tb) (n := 8) (t := 4) tb_ok tb_wf laid_plain glob_ok own started (by kernel_rfl) Tryd.func10
    (ChangeSpec.witness_shaped (enc := enc) (C := Tryd.checked) (os := os) (X := fun w _ => laidMetH Tryd.prog laid w) false (World.laidAll Tryd.prog os laid) #[.int .i32 0, .int .i32 0] 8 (World.laidAll_os _ _ _)
      (World.shaped_of_ZipB (by kernel_rfl) (by kernel_rfl)) (by kernel_rfl) (by kernel_rfl) (by kernel_rfl)
      (by rw [MakeChecks.laidMetH_plain _ _ _ laid_plain]; exact laidMet_laidAll _ (by kernel_rfl) (by kernel_rfl)))
    kids full (by rw [Tryd.params10]; decide +kernel) rfl Tryd.underlying4 rfl (fun ds hds => by
      match ds, hds with
      | [d0, d1], _ => rfl) (by kernel_rfl) lawful

theorem row_holds : Rows.FixedAlgebraSaid :=
  OpenClaim.holds_of_wide 10 Tryd.f10 rfl rfl rfl rfl rfl rfl rfl ⟨rfl, rfl, rfl, rfl, rfl⟩ rfl rfl rfl rfl rfl (by kernel_rfl) Tryd.func10 (by kernel_rfl)
    (of_decide_eq_true (by kernel_rfl)) (by unfold Func.isWrapper; first | (rw [if_pos (by decide +kernel)]; kernel_rfl) | (rw [if_neg (by decide +kernel)]; exact ⟨rfl, rfl⟩))
    (fun os started H enc _ => lifted os started H enc)

theorem algebra_holds : Rows.FixedAlgebraCardSaid :=
  Claim7.holds_tied_plain_at .later [] [.data, .data, .data] true (true, "d9d01e5c4a8ccec2b3bceb91c29d98b74046b18b82bbb703c71f2fc6c95313d5") false
    row_holds (fun _ h => by cases h) (by kernel_rfl) (fun _ h => by cases h) fixedAlgebra_row_tie rfl ⟨rfl, rfl⟩ (by kernel_rfl) rfl
    (fun f fn hf hfn => by
      obtain rfl : f = 10 := Option.some.inj ((show Tryd.prog.funcNamed "compositor/compositorlaw06.FixedAlgebra" = some 10 by kernel_rfl).symm.trans hf) |>.symm
      obtain rfl : fn = Tryd.f10 := (Option.some.inj (Tryd.func10.symm.trans hfn)).symm
      refine ⟨by kernel_rfl, fun j t ht => ?_⟩
      rw [Tryd.params10] at ht
      have hm := Array.mem_of_getElem? ht
      simp at hm
      have hw : ∀ u, u = 3 ∨ u = 9 ∨ u = 21 ∨ u = 35 → Tryd.prog.wantsStandIn u = false := by
        rintro u (rfl | rfl | rfl | rfl)
        · exact (show Tryd.prog.wantsStandIn 3 = false by kernel_rfl)
        · exact (show Tryd.prog.wantsStandIn 9 = false by kernel_rfl)
        · exact (show Tryd.prog.wantsStandIn 21 = false by kernel_rfl)
        · exact (show Tryd.prog.wantsStandIn 35 = false by kernel_rfl)
      exact hw t (by first | (rcases hm with h | h | h <;> simp [h]) | (rcases hm with h | h <;> simp [h]) | simp [hm]))
    (by kernel_rfl)
#print axioms algebra_holds
end Go.Proofs.YtdblaloadklcfabDoor
