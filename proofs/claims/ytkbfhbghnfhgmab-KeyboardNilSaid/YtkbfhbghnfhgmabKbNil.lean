/- KeyboardNil: whatever the event and the numbers, the law returns true. No further conditions. -/
import Derived.Test.YtkbfhbghnfhgmabSx22
import Derived.Test.YtkbfhbghnfhgmabRows
set_option linter.unusedVariables false
namespace Go.Proofs.Ytkbfhbghnfhgmab
open Go.Sx Go.ChangeShapes Go.WideShapes Go.ChangeAt Go.RowKit

noncomputable def tb : Tb := tbOf Try.funcs.toList Try.types.toList
theorem tb_ok : tb.Ok Try.prog := tbOf_ok rfl rfl (by kernel_rfl) (by kernel_rfl)
theorem tb_wf : tb.Wf := tbOf_wf (by kernel_rfl)

theorem int_of {n : Nat} {cs : List V} (h : Ty tb (n + 1) 3 cs) : ∃ i, cs = [.val (.int .i64 i)] :=
  let ⟨i, h1, _⟩ := Ty.int (k := .i64) (by kernel_rfl) h
  ⟨i, h1⟩

theorem nil_run (i1 i2 i3 i4 i5 i6 x y : Int) : isTrue (call Try.prog tb 300 8 [.agg [.val (.int .i64 i1), .val (.int .i64 i2), .val (.int .i64 i3), .val (.int .i64 i4), .val (.int .i64 i5), .val (.int .i64 i6)], .val (.int .i64 x), .val (.int .i64 y)] H0) = true := by kernel_rfl

theorem nil_main (xs : List V) (h : TyArgs tb 8 Try.f8.params.toList xs) : ∃ m L, call Try.prog tb m 8 xs H0 = some L ∧ ∀ r, r ∈ L → r.1 = .val (.bool true) := by
  obtain ⟨x, _, rfl, hx, y, _, rfl, hy, z, _, rfl, hz, rfl⟩ := h
  obtain ⟨cs, rfl, hc⟩ := TyV.agg (by kernel_rfl) hx
  obtain ⟨a, _, rfl, ha, b, _, rfl, hb, c, _, rfl, hc2, d, _, rfl, hd, e, _, rfl, he, f, _, rfl, hf, rfl⟩ := Ty.struct (ts := [3, 3, 3, 3, 3, 3]) (by kernel_rfl) hc
  obtain ⟨i1, rfl⟩ := int_of ha
  obtain ⟨i2, rfl⟩ := int_of hb
  obtain ⟨i3, rfl⟩ := int_of hc2
  obtain ⟨i4, rfl⟩ := int_of hd
  obtain ⟨i5, rfl⟩ := int_of he
  obtain ⟨i6, rfl⟩ := int_of hf
  obtain ⟨c, hy⟩ := int_of (TyV.cell (by kernel_rfl) hy)
  cases hy
  obtain ⟨d, hz⟩ := int_of (TyV.cell (by kernel_rfl) hz)
  cases hz
  obtain ⟨H2, e⟩ := isTrue_eq (nil_run i1 i2 i3 i4 i5 i6 c d)
  exact ⟨300, _, e, fun r hr => by rw [List.mem_singleton.1 hr]⟩

theorem own : ownKnob Try.prog.godebug = none := by kernel_rfl
theorem kids : Kids Try.prog (· < Try.prog.types.size) := kids_rows (by kernel_rfl) (by kernel_rfl)
theorem full : ∀ t e, t < Try.prog.types.size → Try.prog.underlying t = some (.slice e) → 0 < Try.prog.cellsOf e := slices_full_of Try.prog (by kernel_rfl)

theorem nil_lifted (os : Os) (started : os.Started) (H : Type) (enc : TypeId × Value → H) :
    ReturnsInHanded {} Try.checked os 8 .any (Rows.keyboardNilSpec.pre6 enc Try.prog Try.f8 Rows.keyboardNilRow.domain false) (Rows.keyboardNilSpec.post enc Try.prog Try.f8 false true false false) :=
  law_lift (C := Try.checked) (tb := tb) (n := 8) (t := 4) tb_ok tb_wf (fun _ => rfl) own started (by kernel_rfl) Try.func8
    (ChangeSpec.witness6 (enc := enc) (C := Try.checked) false ⟨#[], #[.agg #[.int .i64 0, .int .i64 0, .int .i64 0, .int .i64 0, .int .i64 0, .int .i64 0], .int .i64 0, .int .i64 0], []⟩ 8 (by kernel_rfl) (by kernel_rfl) (by kernel_rfl) (by kernel_rfl))
    kids full (by rw [Try.params8]; decide +kernel) rfl Try.underlying4 rfl (fun ds hds => by
      match ds, hds with
      | [d1, d2, d3], _ => rfl) (by kernel_rfl) nil_main

theorem nil_holds : Rows.KeyboardNilSaid :=
  OpenClaim.holds_of_wide 8 Try.f8 rfl rfl rfl rfl rfl rfl rfl ⟨rfl, rfl, rfl, rfl, rfl⟩ rfl rfl rfl rfl rfl (by kernel_rfl) Try.func8 (by kernel_rfl)
    (of_decide_eq_true (by kernel_rfl)) (by unfold Func.isWrapper; first | (rw [if_pos (by decide +kernel)]; kernel_rfl) | (rw [if_neg (by decide +kernel)]; exact ⟨rfl, rfl⟩))
    (fun os started H enc _ => nil_lifted os started H enc)

#print axioms nil_holds
end Go.Proofs.Ytkbfhbghnfhgmab
