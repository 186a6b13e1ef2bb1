/- IfaceNames: whatever the argument, the law returns true. No further conditions. -/
import Derived.Test.YtdblaloadklcfaaDoorIfNamesR
import Derived.Test.YtdblaloadklcfaaDoorCards
import Derived.Test.YtdblaloadklcfaaDoorTie
import Derived.SevenTiedAt
set_option linter.unusedVariables false
namespace Go.Proofs.YtdblaloadklcfaaDoor
open Go.Sx Go.ChangeShapes Go.WideShapes Go.ChangeAt Go.RowKit



/-- What the unknowns are. -/
def rho (s0 : ByteArray) (n : Nat) : Value :=
  match n with
  | _ => .string s0

theorem lawful (xs : List V) (h : TyArgs tb 8 Tryd.f9.params.toList xs) : ∃ ρ ys m L, SymAll ρ xs ys ∧ call Tryd.prog (tb.at ρ) m 9 ys H0 = some L ∧ ∀ r, r ∈ L → TrueV ρ r.1 := by
  obtain ⟨x, _, rfl, hx, rfl⟩ := h
  obtain ⟨s0, ex, h0⟩ := Ty.string (by kernel_rfl) (TyV.cell (by kernel_rfl) hx)
  cases ex
  have hsym : SymAll (rho s0) [.val (.string s0)] [.sym .str (.svar 0)] :=
    ⟨⟨SymOf.str rfl, id⟩, trivial⟩
  obtain ⟨m, L, e1, e2⟩ := all_true (kn_ok (rho s0)) (PC.holds_nil _) (run_names (rho s0))
  exact ⟨rho s0, _, m, L, hsym, e1, e2⟩

set_option maxRecDepth 100000 in
theorem lifted (os : Os) (started : os.Started) (H : Type) (enc : TypeId × Value → H) :
    ReturnsInHanded {} Tryd.checked os 9 .any (fun w args => (Rows.ifaceNamesSpec.pre enc Tryd.prog Tryd.f9 Rows.ifaceNamesRow.domain false w args ∧ laidMetH Tryd.prog laid w) ∧ sizedMet enc Tryd.prog Tryd.f9 (OpenSpec.ofChange Rows.ifaceNamesSpec) false w args)
      (Rows.ifaceNamesSpec.post enc Tryd.prog Tryd.f9 false true false false) :=
  law_lift_laid (C := Tryd.checked) (tb := tb) (n := 8) (t := 4) tb_ok tb_wf laid_plain glob_ok own started (by kernel_rfl) Tryd.func9
    (ChangeSpec.witness_shaped (enc := enc) (C := Tryd.checked) (os := os) (X := fun w _ => laidMetH Tryd.prog laid w) false (World.laidAll Tryd.prog os laid) #[.string .empty] 8 (World.laidAll_os _ _ _)
      (World.shaped_of_ZipB (by kernel_rfl) (by kernel_rfl)) (by kernel_rfl) (by kernel_rfl) (by kernel_rfl)
      (by rw [MakeChecks.laidMetH_plain _ _ _ laid_plain]; exact laidMet_laidAll _ (by kernel_rfl) (by kernel_rfl)))
    kids full (by rw [Tryd.params9]; decide +kernel) rfl Tryd.underlying4 rfl (fun ds hds => by
      match ds, hds with
      | [d0], _ => rfl) (by kernel_rfl) lawful

theorem row_holds : Rows.IfaceNamesSaid :=
  OpenClaim.holds_of_wide 9 Tryd.f9 rfl rfl rfl rfl rfl rfl rfl ⟨rfl, rfl, rfl, rfl, rfl⟩ rfl rfl rfl rfl rfl (by kernel_rfl) Tryd.func9 (by kernel_rfl)
    (of_decide_eq_true (by kernel_rfl)) (by unfold Func.isWrapper; first | (rw [if_pos (by decide +kernel)]; kernel_rfl) | (rw [if_neg (by decide +kernel)]; exact ⟨rfl, rfl⟩))
    (fun os started H enc _ => lifted os started H enc)

theorem names_holds : Rows.IfaceNamesCardSaid :=
  Claim7.holds_tied_plain_at .later [] [.data, .data, .pinned] true (true, "dcc831f57f73089cd710b1992176d1a6b682de6f82427575c8c19fc73d6bfa77") false
    row_holds (fun _ h => by cases h) (by kernel_rfl) (fun _ h => by cases h) ifaceNames_row_tie rfl ⟨rfl, rfl⟩ (by kernel_rfl) rfl
    (fun f fn hf hfn => by
      obtain rfl : f = 9 := Option.some.inj ((show Tryd.prog.funcNamed "compositor/compositorlaw12.IfaceNames" = some 9 by kernel_rfl).symm.trans hf) |>.symm
      obtain rfl : fn = Tryd.f9 := (Option.some.inj (Tryd.func9.symm.trans hfn)).symm
      refine ⟨by kernel_rfl, fun j t ht => ?_⟩
      rw [Tryd.params9] at ht
      have hm := Array.mem_of_getElem? ht
      simp at hm
      have hw : ∀ u, u = 3 ∨ u = 5 ∨ u = 9 → Tryd.prog.wantsStandIn u = false := by
        rintro u (rfl | rfl | rfl)
        · exact (show Tryd.prog.wantsStandIn 3 = false by kernel_rfl)
        · exact (show Tryd.prog.wantsStandIn 5 = false by kernel_rfl)
        · exact (show Tryd.prog.wantsStandIn 9 = false by kernel_rfl)
      exact hw t (by first | (rcases hm with h | h | h <;> simp [h]) | (rcases hm with h | h <;> simp [h]) | simp [hm]))
    (by kernel_rfl)
#print axioms names_holds
end Go.Proofs.YtdblaloadklcfaaDoor
