/- IfaceVersions: whatever the arguments, the law returns true. No further conditions. -/
import Derived.Test.YtdblaloadklcfaaDoorIfVerS1
import Derived.Test.YtdblaloadklcfaaDoorIfVerS2
import Derived.Test.YtdblaloadklcfaaDoorIfVerS3
import Derived.Test.YtdblaloadklcfaaDoorIfVerS4
import Derived.Test.YtdblaloadklcfaaDoorIfVerS5
import Derived.Test.YtdblaloadklcfaaDoorIfVerS6
import Derived.Test.YtdblaloadklcfaaDoorIfVerS7
import Derived.Test.YtdblaloadklcfaaDoorCards
import Derived.Test.YtdblaloadklcfaaDoorTie
import Derived.SevenTiedAt
set_option linter.unusedVariables false
namespace Go.Proofs.YtdblaloadklcfaaDoor
open Go.Sx Go.ChangeShapes Go.WideShapes Go.ChangeAt Go.RowKit



/-- What the unknowns are. -/
def rho (s0 : ByteArray) (i1 : Int) (i2 : Int) (n : Nat) : Value :=
  match n with
  | 0 => .string s0
  | 1 => .int .i64 i1
  | _ => .int .i64 i2

theorem lawful (xs : List V) (h : TyArgs tb 8 Tryd.f8.params.toList xs) : ∃ ρ ys m L, SymAll ρ xs ys ∧ call Tryd.prog (tb.at ρ) m 8 ys H0 = some L ∧ ∀ r, r ∈ L → TrueV ρ r.1 := by
  obtain ⟨x, _, rfl, hx, y, _, rfl, hy, z, _, rfl, hz, rfl⟩ := h
  obtain ⟨s0, ex, h0⟩ := Ty.string (by kernel_rfl) (TyV.cell (by kernel_rfl) hx)
  cases ex
  obtain ⟨i1, ey, h1⟩ := Ty.int (k := .i64) (by kernel_rfl) (TyV.cell (by kernel_rfl) hy)
  cases ey
  obtain ⟨i2, ez, h2⟩ := Ty.int (k := .i64) (by kernel_rfl) (TyV.cell (by kernel_rfl) hz)
  cases ez
  have hsym : SymAll (rho s0 i1 i2) [.val (.string s0), .val (.int .i64 i1), .val (.int .i64 i2)] [.sym .str (.svar 0), .sym (.int .i64) (.ivar .i64 1), .sym (.int .i64) (.ivar .i64 2)] :=
    ⟨⟨SymOf.str rfl, id⟩, ⟨SymOf.int (wrap_id .i64 _ h1.1 h1.2), id⟩, ⟨SymOf.int (wrap_id .i64 _ h2.1 h2.2), id⟩, trivial⟩
  have fin : ∀ (pc : PC), pc.holds (rho s0 i1 i2) → allTrue (callF kn Tryd.prog (tb.at (rho s0 i1 i2)) 300 100 pc 8 ys H0) = true → ∃ ρ ys m L, SymAll ρ [.val (.string s0), .val (.int .i64 i1), .val (.int .i64 i2)] ys ∧ call Tryd.prog (tb.at ρ) m 8 ys H0 = some L ∧ ∀ r, r ∈ L → TrueV ρ r.1 := fun pc hp hr => by
    obtain ⟨m, L, e1, e2⟩ := all_true (kn_ok _) hp hr
    exact ⟨rho s0 i1 i2, ys, m, L, hsym, e1, e2⟩
  rcases name_cases s0 with ⟨n, hn, hs⟩ | hs
  · have hp := holds_name (ρ := rho s0 i1 i2) rfl hs
    simp only [names, List.mem_cons, List.mem_nil_iff, or_false] at hn
    rcases hn with rfl | rfl | rfl | rfl | rfl | rfl | rfl | rfl | rfl | rfl | rfl | rfl | rfl | rfl | rfl
    · exact fin _ hp (run_display _)
    · exact fin _ hp (run_registry _)
    · exact fin _ hp (run_callback _)
    · exact fin _ hp (run_shell _)
    · exact fin _ hp (run_buffer _)
    · have hi : (SE.ivar .i64 1).num (rho s0 i1 i2) = i1 := wrap_id .i64 i1 h1.1 h1.2
      by_cases hl : i1 < 0
      · exact fin _ (holds_low hi hl hp) (run_surfaceL _)
      · by_cases hh : i1 < 13
        · rcases (show i1 = 0 ∨ i1 = 1 ∨ i1 = 2 ∨ i1 = 3 ∨ i1 = 4 ∨ i1 = 5 ∨ i1 = 6 ∨ i1 = 7 ∨ i1 = 8 ∨ i1 = 9 ∨ i1 = 10 ∨ i1 = 11 ∨ i1 = 12 by omega) with e | e | e | e | e | e | e | e | e | e | e | e | e
          · exact fin _ (holds_op hi e hp) (run_surface0 _)
          · exact fin _ (holds_op hi e hp) (run_surface1 _)
          · exact fin _ (holds_op hi e hp) (run_surface2 _)
          · exact fin _ (holds_op hi e hp) (run_surface3 _)
          · exact fin _ (holds_op hi e hp) (run_surface4 _)
          · exact fin _ (holds_op hi e hp) (run_surface5 _)
          · exact fin _ (holds_op hi e hp) (run_surface6 _)
          · exact fin _ (holds_op hi e hp) (run_surface7 _)
          · exact fin _ (holds_op hi e hp) (run_surface8 _)
          · exact fin _ (holds_op hi e hp) (run_surface9 _)
          · exact fin _ (holds_op hi e hp) (run_surface10 _)
          · exact fin _ (holds_op hi e hp) (run_surface11 _)
          · exact fin _ (holds_op hi e hp) (run_surface12 _)
        · exact fin _ (holds_high hi hh hp) (run_surfaceH _)
    · have hi : (SE.ivar .i64 1).num (rho s0 i1 i2) = i1 := wrap_id .i64 i1 h1.1 h1.2
      by_cases hl : i1 < 0
      · exact fin _ (holds_low hi hl hp) (run_subsurfaceL _)
      · by_cases hh : i1 < 6
        · rcases (show i1 = 0 ∨ i1 = 1 ∨ i1 = 2 ∨ i1 = 3 ∨ i1 = 4 ∨ i1 = 5 by omega) with e | e | e | e | e | e
          · exact fin _ (holds_op hi e hp) (run_subsurface0 _)
          · exact fin _ (holds_op hi e hp) (run_subsurface1 _)
          · exact fin _ (holds_op hi e hp) (run_subsurface2 _)
          · exact fin _ (holds_op hi e hp) (run_subsurface3 _)
          · exact fin _ (holds_op hi e hp) (run_subsurface4 _)
          · exact fin _ (holds_op hi e hp) (run_subsurface5 _)
        · exact fin _ (holds_high hi hh hp) (run_subsurfaceH _)
    · exact fin _ hp (run_toplevel _)
    · exact fin _ hp (run_popup _)
    · have hi : (SE.ivar .i64 1).num (rho s0 i1 i2) = i1 := wrap_id .i64 i1 h1.1 h1.2
      by_cases hl : i1 < 0
      · exact fin _ (holds_low hi hl hp) (run_seatL _)
      · by_cases hh : i1 < 8
        · rcases (show i1 = 0 ∨ i1 = 1 ∨ i1 = 2 ∨ i1 = 3 ∨ i1 = 4 ∨ i1 = 5 ∨ i1 = 6 ∨ i1 = 7 by omega) with e | e | e | e | e | e | e | e
          · exact fin _ (holds_op hi e hp) (run_seat0 _)
          · exact fin _ (holds_op hi e hp) (run_seat1 _)
          · exact fin _ (holds_op hi e hp) (run_seat2 _)
          · exact fin _ (holds_op hi e hp) (run_seat3 _)
          · exact fin _ (holds_op hi e hp) (run_seat4 _)
          · exact fin _ (holds_op hi e hp) (run_seat5 _)
          · exact fin _ (holds_op hi e hp) (run_seat6 _)
          · exact fin _ (holds_op hi e hp) (run_seat7 _)
        · exact fin _ (holds_high hi hh hp) (run_seatH _)
    · exact fin _ hp (run_pointer _)
    · exact fin _ hp (run_keyboard _)
    · exact fin _ hp (run_touch _)
    · exact fin _ hp (run_output _)
    · exact fin _ hp (run_presentation _)
  · exact fin _ (holds_none rfl hs) (run_none _)

set_option maxRecDepth 100000 in
theorem lifted (os : Os) (started : os.Started) (H : Type) (enc : TypeId × Value → H) :
    ReturnsInHanded {} Tryd.checked os 8 .any (fun w args => (Rows.ifaceVersionsSpec.pre enc Tryd.prog Tryd.f8 Rows.ifaceVersionsRow.domain false w args ∧ laidMetH Tryd.prog laid w) ∧ sizedMet enc Tryd.prog Tryd.f8 (OpenSpec.ofChange Rows.ifaceVersionsSpec) false w args)
      (Rows.ifaceVersionsSpec.post enc Tryd.prog Tryd.f8 false true false false) :=
  law_lift_laid (C := Tryd.checked) (tb := tb) (n := 8) (t := 4) tb_ok tb_wf laid_plain glob_ok own started (by kernel_rfl) Tryd.func8
    (ChangeSpec.witness_shaped (enc := enc) (C := Tryd.checked) (os := os) (X := fun w _ => laidMetH Tryd.prog laid w) false (World.laidAll Tryd.prog os laid) #[.string .empty, .int .i64 0, .int .i64 0] 8 (World.laidAll_os _ _ _)
      (World.shaped_of_ZipB (by kernel_rfl) (by kernel_rfl)) (by kernel_rfl) (by kernel_rfl) (by kernel_rfl)
      (by rw [MakeChecks.laidMetH_plain _ _ _ laid_plain]; exact laidMet_laidAll _ (by kernel_rfl) (by kernel_rfl)))
    kids full (by rw [Tryd.params8]; decide +kernel) rfl Tryd.underlying4 rfl (fun ds hds => by
      match ds, hds with
      | [d0, d1, d2], _ => rfl) (by kernel_rfl) lawful

theorem row_holds : Rows.IfaceVersionsSaid :=
  OpenClaim.holds_of_wide 8 Tryd.f8 rfl rfl rfl rfl rfl rfl rfl ⟨rfl, rfl, rfl, rfl, rfl⟩ rfl rfl rfl rfl rfl (by kernel_rfl) Tryd.func8 (by kernel_rfl)
    (of_decide_eq_true (by kernel_rfl)) (by unfold Func.isWrapper; first | (rw [if_pos (by decide +kernel)]; kernel_rfl) | (rw [if_neg (by decide +kernel)]; exact ⟨rfl, rfl⟩))
    (fun os started H enc _ => lifted os started H enc)

theorem versions_holds : Rows.IfaceVersionsCardSaid :=
  Claim7.holds_tied_plain_at .later [] [.data, .data, .pinned] true (true, "dcc831f57f73089cd710b1992176d1a6b682de6f82427575c8c19fc73d6bfa77") false
    row_holds (fun _ h => by cases h) (by kernel_rfl) (fun _ h => by cases h) ifaceVersions_row_tie rfl ⟨rfl, rfl⟩ (by kernel_rfl) rfl
    (fun f fn hf hfn => by
      obtain rfl : f = 8 := Option.some.inj ((show Tryd.prog.funcNamed "compositor/compositorlaw12.IfaceVersions" = some 8 by kernel_rfl).symm.trans hf) |>.symm
      obtain rfl : fn = Tryd.f8 := (Option.some.inj (Tryd.func8.symm.trans hfn)).symm
      refine ⟨by kernel_rfl, fun j t ht => ?_⟩
      rw [Tryd.params8] at ht
      have hm := Array.mem_of_getElem? ht
      simp at hm
      have hw : ∀ u, u = 3 ∨ u = 5 ∨ u = 9 → Tryd.prog.wantsStandIn u = false := by
        rintro u (rfl | rfl | rfl)
        · exact (show Tryd.prog.wantsStandIn 3 = false by kernel_rfl)
        · exact (show Tryd.prog.wantsStandIn 5 = false by kernel_rfl)
        · exact (show Tryd.prog.wantsStandIn 9 = false by kernel_rfl)
      exact hw t (by first | (rcases hm with h | h | h <;> simp [h]) | (rcases hm with h | h <;> simp [h]) | simp [hm]))
    (by kernel_rfl)
#print axioms versions_holds
end Go.Proofs.YtdblaloadklcfaaDoor
