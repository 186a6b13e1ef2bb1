/- IfaceOpcode: whatever the names, the law returns true. No further conditions. -/
import Derived.Test.YtdblaloadklcfaaDoorIfOpR
import Derived.Test.YtdblaloadklcfaaDoorCards
import Derived.Test.YtdblaloadklcfaaDoorTie
import Derived.SevenTiedAt
set_option linter.unusedVariables false
namespace Go.Proofs.YtdblaloadklcfaaDoor
open Go.Sx Go.ChangeShapes Go.WideShapes Go.ChangeAt Go.RowKit



/-- What the unknowns are. -/
def rho (s0 : ByteArray) (s1 : ByteArray) (n : Nat) : Value :=
  match n with
  | 0 => .string s0
  | _ => .string s1

theorem lawful (xs : List V) (h : TyArgs tb 8 Tryd.f5.params.toList xs) : ∃ ρ ys m L, SymAll ρ xs ys ∧ call Tryd.prog (tb.at ρ) m 5 ys H0 = some L ∧ ∀ r, r ∈ L → TrueV ρ r.1 := by
  obtain ⟨x, _, rfl, hx, y, _, rfl, hy, rfl⟩ := h
  obtain ⟨s0, ex, h0⟩ := Ty.string (by kernel_rfl) (TyV.cell (by kernel_rfl) hx)
  cases ex
  obtain ⟨s1, ey, h1⟩ := Ty.string (by kernel_rfl) (TyV.cell (by kernel_rfl) hy)
  cases ey
  have hsym : SymAll (rho s0 s1) [.val (.string s0), .val (.string s1)] [.sym .str (.svar 0), .sym .str (.svar 1)] :=
    ⟨⟨SymOf.str rfl, id⟩, ⟨SymOf.str rfl, id⟩, trivial⟩
  have fin : ∀ (pc : PC), pc.holds (rho s0 s1) → allTrue (callF kn Tryd.prog (tb.at (rho s0 s1)) 300 100 pc 5 ys H0) = true → ∃ ρ ys m L, SymAll ρ [.val (.string s0), .val (.string s1)] ys ∧ call Tryd.prog (tb.at ρ) m 5 ys H0 = some L ∧ ∀ r, r ∈ L → TrueV ρ r.1 := fun pc hp hr => by
    obtain ⟨m, L, e1, e2⟩ := all_true (kn_ok _) hp hr
    exact ⟨rho s0 s1, ys, m, L, hsym, e1, e2⟩
  rcases name_cases s0 with ⟨n, hn, hs⟩ | hs
  · have hp := holds_name (ρ := rho s0 s1) rfl hs
    simp only [names, List.mem_cons, List.mem_nil_iff, or_false] at hn
    rcases hn with rfl | rfl | rfl | rfl | rfl | rfl | rfl | rfl | rfl | rfl | rfl | rfl | rfl | rfl | rfl
    · exact fin _ hp (run_display _)
    · exact fin _ hp (run_registry _)
    · exact fin _ hp (run_callback _)
    · exact fin _ hp (run_shell _)
    · exact fin _ hp (run_buffer _)
    · exact fin _ hp (run_surface _)
    · exact fin _ hp (run_subsurface _)
    · exact fin _ hp (run_toplevel _)
    · exact fin _ hp (run_popup _)
    · exact fin _ hp (run_seat _)
    · exact fin _ hp (run_pointer _)
    · exact fin _ hp (run_keyboard _)
    · exact fin _ hp (run_touch _)
    · exact fin _ hp (run_output _)
    · exact fin _ hp (run_presentation _)
  · exact fin _ (holds_none rfl hs) (run_none _)

set_option maxRecDepth 100000 in
theorem lifted (os : Os) (started : os.Started) (H : Type) (enc : TypeId × Value → H) :
    ReturnsInHanded {} Tryd.checked os 5 .any (fun w args => (Rows.ifaceOpcodeSpec.pre enc Tryd.prog Tryd.f5 Rows.ifaceOpcodeRow.domain false w args ∧ laidMetH Tryd.prog laid w) ∧ sizedMet enc Tryd.prog Tryd.f5 (OpenSpec.ofChange Rows.ifaceOpcodeSpec) false w args)
      (Rows.ifaceOpcodeSpec.post enc Tryd.prog Tryd.f5 false true false false) :=
  law_lift_laid (C := Tryd.checked) (tb := tb) (n := 8) (t := 4) tb_ok tb_wf laid_plain glob_ok own started (by kernel_rfl) Tryd.func5
    (ChangeSpec.witness_shaped (enc := enc) (C := Tryd.checked) (os := os) (X := fun w _ => laidMetH Tryd.prog laid w) false (World.laidAll Tryd.prog os laid) #[.string .empty, .string .empty] 8 (World.laidAll_os _ _ _)
      (World.shaped_of_ZipB (by kernel_rfl) (by kernel_rfl)) (by kernel_rfl) (by kernel_rfl) (by kernel_rfl)
      (by rw [MakeChecks.laidMetH_plain _ _ _ laid_plain]; exact laidMet_laidAll _ (by kernel_rfl) (by kernel_rfl)))
    kids full (by rw [Tryd.params5]; decide +kernel) rfl Tryd.underlying4 rfl (fun ds hds => by
      match ds, hds with
      | [d0, d1], _ => rfl) (by kernel_rfl) lawful

theorem row_holds : Rows.IfaceOpcodeSaid :=
  OpenClaim.holds_of_wide 5 Tryd.f5 rfl rfl rfl rfl rfl rfl rfl ⟨rfl, rfl, rfl, rfl, rfl⟩ rfl rfl rfl rfl rfl (by kernel_rfl) Tryd.func5 (by kernel_rfl)
    (of_decide_eq_true (by kernel_rfl)) (by unfold Func.isWrapper; first | (rw [if_pos (by decide +kernel)]; kernel_rfl) | (rw [if_neg (by decide +kernel)]; exact ⟨rfl, rfl⟩))
    (fun os started H enc _ => lifted os started H enc)

theorem opcode_holds : Rows.IfaceOpcodeCardSaid :=
  Claim7.holds_tied_plain_at .later [] [.data, .data, .pinned] true (true, "dcc831f57f73089cd710b1992176d1a6b682de6f82427575c8c19fc73d6bfa77") false
    row_holds (fun _ h => by cases h) (by kernel_rfl) (fun _ h => by cases h) ifaceOpcode_row_tie rfl ⟨rfl, rfl⟩ (by kernel_rfl) rfl
    (fun f fn hf hfn => by
      obtain rfl : f = 5 := Option.some.inj ((show Tryd.prog.funcNamed "compositor/compositorlaw12.IfaceOpcode" = some 5 by kernel_rfl).symm.trans hf) |>.symm
      obtain rfl : fn = Tryd.f5 := (Option.some.inj (Tryd.func5.symm.trans hfn)).symm
      refine ⟨by kernel_rfl, fun j t ht => ?_⟩
      rw [Tryd.params5] at ht
      have hm := Array.mem_of_getElem? ht
      simp at hm
      have hw : ∀ u, u = 3 ∨ u = 5 ∨ u = 9 → Tryd.prog.wantsStandIn u = false := by
        rintro u (rfl | rfl | rfl)
        · exact (show Tryd.prog.wantsStandIn 3 = false by kernel_rfl)
        · exact (show Tryd.prog.wantsStandIn 5 = false by kernel_rfl)
        · exact (show Tryd.prog.wantsStandIn 9 = false by kernel_rfl)
      exact hw t (by first | (rcases hm with h | h | h <;> simp [h]) | (rcases hm with h | h <;> simp [h]) | simp [hm]))
    (by kernel_rfl)
#print axioms opcode_holds
end Go.Proofs.YtdblaloadklcfaaDoor
