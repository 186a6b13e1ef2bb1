/- KeymapModifiers: whatever the state and the number of layouts, the law returns true. No further conditions. -/
import Derived.Test.YtkbfhbghnfhgmaaKMod0
import Derived.Test.YtkbfhbghnfhgmaaKMod1
import Derived.Test.YtkbfhbghnfhgmaaKMod2
import Derived.Test.YtkbfhbghnfhgmaaKMod3a
import Derived.Test.YtkbfhbghnfhgmaaKMod3b
import Derived.Test.YtkbfhbghnfhgmaaKMod3c
import Derived.Test.YtkbfhbghnfhgmaaRows
set_option linter.unusedVariables false
namespace Go.Proofs.Ytkbfhbghnfhgmaa
open Go.Sx Go.ChangeShapes Go.WideShapes Go.ChangeAt Go.RowKit

theorem tb_ok : tb.Ok Try.prog := tbOf_ok rfl rfl (by kernel_rfl) (by kernel_rfl)
theorem tb_wf : tb.Wf := tbOf_wf (by kernel_rfl)

/-- The chapter's examples. -/
theorem example_run (ρ : Nat → Value) : isTrue (call Try.prog (tb.at ρ) 300 10 [] H0) = true := by kernel_rfl
theorem kn_ok (ρ : Nat → Value) : KnOk kn (call Try.prog (tb.at ρ) 300) := by
  intro f v h
  unfold kn at h
  split at h
  · rename_i hf
    cases h
    rw [show f = 10 by simpa using hf]
    exact ⟨rfl, isTrue_eq (example_run ρ)⟩
  · exact absurd h (by simp)

theorem rem_rng (l n : Int) (h : 0 < n) : -n < l.tmod n ∧ l.tmod n < n := by
  have a1 := Int.tmod_lt_of_pos l h
  refine ⟨?_, a1⟩
  by_cases h0 : 0 ≤ l
  · have := Int.tmod_nonneg n h0; omega
  · have e := Int.tmod_lt_of_pos (-l) h
    rw [Int.neg_tmod] at e
    omega
theorem rem_fact (ρ : Nat → Value) (k : IntKind) (n : Nat) (l d j : Int) (hd : d ≠ 0) (hn : (SE.ivar k n).num ρ = l) (h : l.tmod d = j) : (SE.cmp .eql (.bin .rem k (.ivar k n) (.int k d)) (.int k j)).truth ρ = true := by
  rw [(truth_cmp _ _ _).1, beq_iff_eq]
  refine num_bin ?_
  rw [hn]
  show intBin .rem k l k d = some (.int k j)
  simp [intBin, h, hd]

/-- What the unknowns are. -/
def rho (i0 : Int) (i1 : Int) (i2 : Int) (i3 : Int) (i4 : Int) (n : Nat) : Value :=
  match n with
  | 0 => .int .i64 i0
  | 1 => .int .i64 i1
  | 2 => .int .i64 i2
  | 3 => .int .i64 i3
  | _ => .int .u8 i4

theorem lawful (xs : List V) (h : TyArgs tb 8 Try.f5.params.toList xs) : ∃ ρ ys m L, SymAll ρ xs ys ∧ call Try.prog (tb.at ρ) m 5 ys H0 = some L ∧ ∀ r, r ∈ L → TrueV ρ r.1 := by
  obtain ⟨x, _, rfl, hx, y, _, rfl, hy, rfl⟩ := h
  obtain ⟨csx, rfl, hcx⟩ := TyV.agg (by kernel_rfl) hx
  obtain ⟨ax0, _, rfl, hax0, ax1, _, rfl, hax1, ax2, _, rfl, hax2, ax3, _, rfl, hax3, rfl⟩ := Ty.struct (ts := [3, 3, 3, 3]) (by kernel_rfl) hcx
  obtain ⟨i0, rfl, h0⟩ := Ty.int (k := .i64) (by kernel_rfl) hax0
  obtain ⟨i1, rfl, h1⟩ := Ty.int (k := .i64) (by kernel_rfl) hax1
  obtain ⟨i2, rfl, h2⟩ := Ty.int (k := .i64) (by kernel_rfl) hax2
  obtain ⟨i3, rfl, h3⟩ := Ty.int (k := .i64) (by kernel_rfl) hax3
  obtain ⟨i4, ey, h4⟩ := Ty.int (k := .u8) (by kernel_rfl) (TyV.cell (by kernel_rfl) hy)
  cases ey
  have hsym : SymAll (rho i0 i1 i2 i3 i4) [.agg [.val (.int .i64 i0), .val (.int .i64 i1), .val (.int .i64 i2), .val (.int .i64 i3)], .val (.int .u8 i4)] ys :=
    ⟨⟨SymOf.agg ⟨⟨SymOf.int (wrap_id .i64 _ h0.1 h0.2), id⟩, ⟨SymOf.int (wrap_id .i64 _ h1.1 h1.2), id⟩, ⟨SymOf.int (wrap_id .i64 _ h2.1 h2.2), id⟩, ⟨SymOf.int (wrap_id .i64 _ h3.1 h3.2), id⟩, trivial⟩, id⟩, ⟨SymOf.int (wrap_id .u8 _ h4.1 h4.2), id⟩, trivial⟩
  have n3 : (SE.ivar .i64 3).num (rho i0 i1 i2 i3 i4) = i3 := wrap_id .i64 i3 h3.1 h3.2
  have n4 : (SE.ivar .u8 4).num (rho i0 i1 i2 i3 i4) = i4 := wrap_id .u8 i4 h4.1 h4.2
  have key : ∀ j r : Int, j + 1 ≠ 0 → i4.tmod 4 = j → i3.tmod (j + 1) = r → allTrue (callF kn Try.prog (tb.at (rho i0 i1 i2 i3 i4)) 300 100 (pc j r) 5 ys H0) = true → ∃ ρ ys m L, SymAll ρ [.agg [.val (.int .i64 i0), .val (.int .i64 i1), .val (.int .i64 i2), .val (.int .i64 i3)], .val (.int .u8 i4)] ys ∧ call Try.prog (tb.at ρ) m 5 ys H0 = some L ∧ ∀ r, r ∈ L → TrueV ρ r.1 := fun j r hj1 hj hr hrun => by
    obtain ⟨m, L, e1, e2⟩ := all_true (kn_ok _) (PC.holds_cons (rem_fact _ .i64 3 i3 (j + 1) r hj1 n3 hr) (PC.holds_cons (rem_fact _ .u8 4 i4 4 j (by decide) n4 hj) (PC.holds_nil _))) hrun
    exact ⟨rho i0 i1 i2 i3 i4, ys, m, L, hsym, e1, e2⟩
  have hl0 : 0 ≤ i4 := h4.1
  have hm : i4.tmod 4 = 0 ∨ i4.tmod 4 = 1 ∨ i4.tmod 4 = 2 ∨ i4.tmod 4 = 3 := by
    have a1 := Int.tmod_lt_of_pos i4 (show (0 : Int) < 4 by decide)
    have a2 := Int.tmod_nonneg 4 hl0
    omega
  rcases hm with hm | hm | hm | hm
  · have hb := rem_rng i3 1 (by decide)
    exact key 0 0 (by decide) hm (show i3.tmod 1 = 0 by omega) (run0p0 _)
  · have hb := rem_rng i3 2 (by decide)
    rcases (show i3.tmod 2 = -1 ∨ i3.tmod 2 = 0 ∨ i3.tmod 2 = 1 by omega) with hr | hr | hr
    · exact key 1 (-1) (by decide) hm hr (run1m1 _)
    · exact key 1 (0) (by decide) hm hr (run1p0 _)
    · exact key 1 (1) (by decide) hm hr (run1p1 _)
  · have hb := rem_rng i3 3 (by decide)
    rcases (show i3.tmod 3 = -2 ∨ i3.tmod 3 = -1 ∨ i3.tmod 3 = 0 ∨ i3.tmod 3 = 1 ∨ i3.tmod 3 = 2 by omega) with hr | hr | hr | hr | hr
    · exact key 2 (-2) (by decide) hm hr (run2m2 _)
    · exact key 2 (-1) (by decide) hm hr (run2m1 _)
    · exact key 2 (0) (by decide) hm hr (run2p0 _)
    · exact key 2 (1) (by decide) hm hr (run2p1 _)
    · exact key 2 (2) (by decide) hm hr (run2p2 _)
  · have hb := rem_rng i3 4 (by decide)
    rcases (show i3.tmod 4 = -3 ∨ i3.tmod 4 = -2 ∨ i3.tmod 4 = -1 ∨ i3.tmod 4 = 0 ∨ i3.tmod 4 = 1 ∨ i3.tmod 4 = 2 ∨ i3.tmod 4 = 3 by omega) with hr | hr | hr | hr | hr | hr | hr
    · exact key 3 (-3) (by decide) hm hr (run3m3 _)
    · exact key 3 (-2) (by decide) hm hr (run3m2 _)
    · exact key 3 (-1) (by decide) hm hr (run3m1 _)
    · exact key 3 (0) (by decide) hm hr (run3p0 _)
    · exact key 3 (1) (by decide) hm hr (run3p1 _)
    · exact key 3 (2) (by decide) hm hr (run3p2 _)
    · exact key 3 (3) (by decide) hm hr (run3p3 _)

theorem own : ownKnob Try.prog.godebug = none := by kernel_rfl
theorem kids : Kids Try.prog (· < Try.prog.types.size) := kids_rows (by kernel_rfl) (by kernel_rfl)
theorem full : ∀ t e, t < Try.prog.types.size → Try.prog.underlying t = some (.slice e) → 0 < Try.prog.cellsOf e := slices_full_of Try.prog (by kernel_rfl)

theorem lifted (os : Os) (started : os.Started) (H : Type) (enc : TypeId × Value → H) :
    ReturnsInHanded {} Try.checked os 5 .any (Rows.keymapModifiersSpec.pre6 enc Try.prog Try.f5 Rows.keymapModifiersRow.domain false) (Rows.keymapModifiersSpec.post enc Try.prog Try.f5 false true false false) :=
  law_lift_sym (C := Try.checked) (tb := tb) (n := 8) (t := 4) tb_ok tb_wf (fun _ => rfl) own started (by kernel_rfl) Try.func5
    (ChangeSpec.witness6 (enc := enc) (C := Try.checked) false ⟨#[], #[.agg #[.int .i64 0, .int .i64 0, .int .i64 0, .int .i64 0], .int .u8 0], []⟩ 5 (by kernel_rfl) (by kernel_rfl) (by kernel_rfl) (by kernel_rfl))
    kids full (by rw [Try.params5]; decide +kernel) rfl Try.underlying4 rfl (fun ds hds => by
      match ds, hds with
      | [d0, d1], _ => rfl) (by kernel_rfl) lawful

theorem modifiers_holds : Rows.KeymapModifiersSaid :=
  OpenClaim.holds_of_wide 5 Try.f5 rfl rfl rfl rfl rfl rfl rfl ⟨rfl, rfl, rfl, rfl, rfl⟩ rfl rfl rfl rfl rfl (by kernel_rfl) Try.func5 (by kernel_rfl)
    (of_decide_eq_true (by kernel_rfl)) (by unfold Func.isWrapper; first | (rw [if_pos (by decide +kernel)]; kernel_rfl) | (rw [if_neg (by decide +kernel)]; exact ⟨rfl, rfl⟩))
    (fun os started H enc _ => lifted os started H enc)

#print axioms modifiers_holds
end Go.Proofs.Ytkbfhbghnfhgmaa
