/- KeymapLevels: whatever the state, the kind of key and the number of levels, the law returns true. No further conditions. -/
import Derived.Test.YtkbfhbghnfhgmaaSx24
import Derived.Test.YtkbfhbghnfhgmaaRows
set_option linter.unusedVariables false
namespace Go.Proofs.Ytkbfhbghnfhgmaa
open Go.Sx Go.ChangeShapes Go.WideShapes Go.ChangeAt Go.RowKit

noncomputable def tb : Tb := tbOf Try.funcs.toList Try.types.toList
theorem tb_ok : tb.Ok Try.prog := tbOf_ok rfl rfl (by kernel_rfl) (by kernel_rfl)
theorem tb_wf : tb.Wf := tbOf_wf (by kernel_rfl)

/-- The chapter's examples. -/
def kn (f : Nat) : Option V := if f == 10 then some (.val (.bool true)) else none
theorem example_run (ρ : Nat → Value) : isTrue (call Try.prog (tb.at ρ) 200 10 [] H0) = true := by kernel_rfl
theorem kn_ok (ρ : Nat → Value) : KnOk kn (call Try.prog (tb.at ρ) 200) := by
  intro f v h
  unfold kn at h
  split at h
  · rename_i hf
    cases h
    rw [show f = 10 by simpa using hf]
    exact ⟨rfl, isTrue_eq (example_run ρ)⟩
  · exact absurd h (by simp)

def ys : List V := [.agg [.sym (.int .i64) (.ivar .i64 0), .sym (.int .i64) (.ivar .i64 1), .sym (.int .i64) (.ivar .i64 2), .sym (.int .i64) (.ivar .i64 3)], .sym .bool (.bvar 4), .sym (.int .u8) (.ivar .u8 5)]
def pc (j : Int) (b : Bool) : PC := [(.cmp .eql (.bin .rem .u8 (.ivar .u8 5) (.int .u8 4)) (.int .u8 j), true), (.bvar 4, b)]

theorem run00 (ρ : Nat → Value) : allTrue (callF kn Try.prog (tb.at ρ) 200 100 (pc 0 false) 6 ys H0) = true := by kernel_rfl
theorem run10 (ρ : Nat → Value) : allTrue (callF kn Try.prog (tb.at ρ) 200 100 (pc 1 false) 6 ys H0) = true := by kernel_rfl
theorem run20 (ρ : Nat → Value) : allTrue (callF kn Try.prog (tb.at ρ) 200 100 (pc 2 false) 6 ys H0) = true := by kernel_rfl
theorem run30 (ρ : Nat → Value) : allTrue (callF kn Try.prog (tb.at ρ) 200 100 (pc 3 false) 6 ys H0) = true := by kernel_rfl
theorem run01 (ρ : Nat → Value) : allTrue (callF kn Try.prog (tb.at ρ) 200 100 (pc 0 true) 6 ys H0) = true := by kernel_rfl
theorem run11 (ρ : Nat → Value) : allTrue (callF kn Try.prog (tb.at ρ) 200 100 (pc 1 true) 6 ys H0) = true := by kernel_rfl
theorem run21 (ρ : Nat → Value) : allTrue (callF kn Try.prog (tb.at ρ) 200 100 (pc 2 true) 6 ys H0) = true := by kernel_rfl
theorem run31 (ρ : Nat → Value) : allTrue (callF kn Try.prog (tb.at ρ) 200 100 (pc 3 true) 6 ys H0) = true := by kernel_rfl

theorem int_of {n : Nat} {cs : List V} (h : Ty tb (n + 1) 3 cs) : ∃ i, cs = [.val (.int .i64 i)] ∧ IntKind.i64.min ≤ i ∧ i ≤ IntKind.i64.max :=
  let ⟨i, h1, h2⟩ := Ty.int (k := .i64) (by kernel_rfl) h
  ⟨i, h1, h2⟩

/-- What the unknowns are. -/
def rho (i1 i2 i3 i4 : Int) (b : Bool) (l : Int) (n : Nat) : Value :=
  match n with
  | 0 => .int .i64 i1
  | 1 => .int .i64 i2
  | 2 => .int .i64 i3
  | 3 => .int .i64 i4
  | 4 => .bool b
  | _ => .int .u8 l

theorem lawful (xs : List V) (h : TyArgs tb 8 Try.f6.params.toList xs) : ∃ ρ ys m L, SymAll ρ xs ys ∧ call Try.prog (tb.at ρ) m 6 ys H0 = some L ∧ ∀ r, r ∈ L → TrueV ρ r.1 := by
  obtain ⟨x, _, rfl, hx, y, _, rfl, hy, z, _, rfl, hz, rfl⟩ := h
  obtain ⟨cs, rfl, hc⟩ := TyV.agg (by kernel_rfl) hx
  obtain ⟨a, _, rfl, ha, b, _, rfl, hb, c, _, rfl, hc2, d, _, rfl, hd, rfl⟩ := Ty.struct (ts := [3, 3, 3, 3]) (by kernel_rfl) hc
  obtain ⟨i1, rfl, h1⟩ := int_of ha
  obtain ⟨i2, rfl, h2⟩ := int_of hb
  obtain ⟨i3, rfl, h3⟩ := int_of hc2
  obtain ⟨i4, rfl, h4⟩ := int_of hd
  obtain ⟨bb, hy⟩ := Ty.bool (by kernel_rfl) (TyV.cell (by kernel_rfl) hy)
  cases hy
  obtain ⟨l, hz, h5⟩ := Ty.int (k := .u8) (by kernel_rfl) (TyV.cell (by kernel_rfl) hz)
  cases hz
  have w := fun (i : Int) (h : IntKind.i64.min ≤ i ∧ i ≤ IntKind.i64.max) => wrap_id .i64 i h.1 h.2
  have hl0 : 0 ≤ l := h5.1
  have hsym : SymAll (rho i1 i2 i3 i4 bb l) [.agg [.val (.int .i64 i1), .val (.int .i64 i2), .val (.int .i64 i3), .val (.int .i64 i4)], .val (.bool bb), .val (.int .u8 l)] ys :=
    ⟨⟨SymOf.agg ⟨⟨SymOf.int (w _ h1), id⟩, ⟨SymOf.int (w _ h2), id⟩, ⟨SymOf.int (w _ h3), id⟩, ⟨SymOf.int (w _ h4), id⟩, trivial⟩, id⟩, ⟨SymOf.bool rfl, id⟩, ⟨SymOf.int (wrap_id .u8 l h5.1 h5.2), id⟩, trivial⟩
  have hpc : ∀ j, l.tmod 4 = j → PC.holds (tb.at (rho i1 i2 i3 i4 bb l)).rho (pc j bb) := fun j hj =>
    PC.holds_cons (by
      rw [(truth_cmp _ _ _).1, beq_iff_eq]
      show (match intBin .rem .u8 (IntKind.u8.wrap l) .u8 4 with | some v => Sx.numOf v | none => 0) = j
      rw [wrap_id .u8 l h5.1 h5.2]
      simpa [intBin, Sx.numOf] using hj) (PC.holds_cons rfl (PC.holds_nil _))
  have key : ∀ j, l.tmod 4 = j → allTrue (callF kn Try.prog (tb.at (rho i1 i2 i3 i4 bb l)) 200 100 (pc j bb) 6 ys H0) = true →
      ∃ ρ ys m L, SymAll ρ [.agg [.val (.int .i64 i1), .val (.int .i64 i2), .val (.int .i64 i3), .val (.int .i64 i4)], .val (.bool bb), .val (.int .u8 l)] ys ∧ call Try.prog (tb.at ρ) m 6 ys H0 = some L ∧ ∀ r, r ∈ L → TrueV ρ r.1 := fun j hj hr => by
    obtain ⟨m, L, e1, e2⟩ := all_true (kn_ok _) (hpc j hj) hr
    exact ⟨rho i1 i2 i3 i4 bb l, ys, m, L, hsym, e1, e2⟩
  have hm : l.tmod 4 = 0 ∨ l.tmod 4 = 1 ∨ l.tmod 4 = 2 ∨ l.tmod 4 = 3 := by
    have a1 := Int.tmod_lt_of_pos l (show (0 : Int) < 4 by decide)
    have a2 := Int.tmod_nonneg 4 hl0
    omega
  cases bb
  · rcases hm with hm | hm | hm | hm
    · exact key 0 hm (run00 _)
    · exact key 1 hm (run10 _)
    · exact key 2 hm (run20 _)
    · exact key 3 hm (run30 _)
  · rcases hm with hm | hm | hm | hm
    · exact key 0 hm (run01 _)
    · exact key 1 hm (run11 _)
    · exact key 2 hm (run21 _)
    · exact key 3 hm (run31 _)

theorem own : ownKnob Try.prog.godebug = none := by kernel_rfl
theorem kids : Kids Try.prog (· < Try.prog.types.size) := kids_rows (by kernel_rfl) (by kernel_rfl)
theorem full : ∀ t e, t < Try.prog.types.size → Try.prog.underlying t = some (.slice e) → 0 < Try.prog.cellsOf e := slices_full_of Try.prog (by kernel_rfl)

theorem lifted (os : Os) (started : os.Started) (H : Type) (enc : TypeId × Value → H) :
    ReturnsInHanded {} Try.checked os 6 .any (Rows.keymapLevelsSpec.pre6 enc Try.prog Try.f6 Rows.keymapLevelsRow.domain false) (Rows.keymapLevelsSpec.post enc Try.prog Try.f6 false true false false) :=
  law_lift_sym (C := Try.checked) (tb := tb) (n := 8) (t := 4) tb_ok tb_wf (fun _ => rfl) own started (by kernel_rfl) Try.func6
    (ChangeSpec.witness6 (enc := enc) (C := Try.checked) false ⟨#[], #[.agg #[.int .i64 0, .int .i64 0, .int .i64 0, .int .i64 0], .bool false, .int .u8 0], []⟩ 6 (by kernel_rfl) (by kernel_rfl) (by kernel_rfl) (by kernel_rfl))
    kids full (by rw [Try.params6]; decide +kernel) rfl Try.underlying4 rfl (fun ds hds => by
      match ds, hds with
      | [d1, d2, d3], _ => rfl) (by kernel_rfl) lawful

theorem levels_holds : Rows.KeymapLevelsSaid :=
  OpenClaim.holds_of_wide 6 Try.f6 rfl rfl rfl rfl rfl rfl rfl ⟨rfl, rfl, rfl, rfl, rfl⟩ rfl rfl rfl rfl rfl (by kernel_rfl) Try.func6 (by kernel_rfl)
    (of_decide_eq_true (by kernel_rfl)) (by unfold Func.isWrapper; first | (rw [if_pos (by decide +kernel)]; kernel_rfl) | (rw [if_neg (by decide +kernel)]; exact ⟨rfl, rfl⟩))
    (fun os started H enc _ => lifted os started H enc)

#print axioms levels_holds
end Go.Proofs.Ytkbfhbghnfhgmaa
