/- Chapter 46: what the proofs of its laws share: the tables, the listed variable's cells. -/
import Derived.Test.YtoedgmenbohgiaaGreatDoorSxN
import Derived.Test.YtoedgmenbohgiaaGreatDoorSxF1
import Derived.Test.YtoedgmenbohgiaaGreatDoorRows
import Derived.Lay
import Derived.Test.YtoedgmenbohgiaaGreatDoorSxG
set_option linter.unusedVariables false
namespace Go.Proofs.YtoedgmenbohgiaaGreatDoor
open Go.Sx Go.ChangeShapes Go.WideShapes Go.ChangeAt Go.RowKit

def kindNums : List Int := [7, 0, 0, 0, 0, 3, 0, 0, 1, 0, 0, 0, 0, 6, 5, 0, 0, 0, 4, 0, 2, 0, 0, 0, 0, 0]
noncomputable def tb0 : Tb := tbOf Tryz.funcs.toList Tryz.types.toList
noncomputable def tb : Tb := { tb0 with glob := fun g => if g == 0 then some (kindNums.map (Value.int .i64)) else none }
theorem tb0_ok : tb0.Ok Tryz.prog := tbOf_ok rfl rfl (by kernel_rfl) (by kernel_rfl)
theorem tb_ok : tb.Ok Tryz.prog := ⟨tb0_ok.func, tb0_ok.desc, tb0_ok.info, tb0_ok.mixed⟩
theorem tb0_wf : tb0.Wf := tbOf_wf (by kernel_rfl)
theorem tb_wf : tb.Wf := fun f fn c h1 h2 => tb0_wf f fn c h1 h2

/-- What the rows list. -/
def laid : List (String × DataW Unit) := [("unicode/utf8.acceptRanges", Rows.laid_unicode_utf8_acceptRanges), ("compositor/iface.kinds", Rows.laid_compositor_iface_kinds), ("unicode/utf8.first", Rows.laid_unicode_utf8_first)]
theorem laid_plain : (laid.all fun x => x.2.handleName?.isNone) = true := by kernel_rfl
theorem kinds_in : ("compositor/iface.kinds", DataW.agg (kindNums.map fun i => DataW.lit (.int .i64 i))) ∈ laid := .tail _ (.head _)
theorem glob_ok (W : World) (h : laidMetH Tryz.prog laid W) (g : Nat) (l : List Value) (hg : tb.glob g = some l) (j : Nat) (v : Value) (hj : l[j]? = some v) : W.cell? ⟨g, j, none⟩ = some v := by
  have hg : (if g == 0 then some (kindNums.map (Value.int .i64)) else none) = some l := hg
  split at hg
  · rename_i h0
    cases hg
    rw [show g = 0 by simpa using h0]
    exact laid_ints (t := 183) (e := 3) (n := 26) laid_plain h kinds_in (by kernel_rfl) (by kernel_rfl) (by kernel_rfl) (by kernel_rfl) (by kernel_rfl) (by kernel_rfl) j v hj
  · exact absurd hg (by simp)

abbrev Sp := Nat → List V → Option (V × List (SE × Bool))
abbrev Lp := Nat → St → Option OTree
def noSp : Sp := fun _ _ => none
def noLp : Lp := fun _ _ => none
/-- The chapter's examples. -/
def kn (f : Nat) : Option V := if f == 5 then some (.val (.bool true)) else none
theorem example_run (ρ : Nat → Value) : isTrue (callX Tryz.prog (tb.atS ρ noSp noLp) 300 5 [] H0) = true := by kernel_rfl
theorem base_ok (ρ : Nat → Value) : SpecOk Tryz.prog (tb.atS ρ noSp noLp) := SpecOk.none (fun _ _ => rfl) (fun _ _ => rfl)
theorem kn_ok (ρ : Nat → Value) : KnOk kn (call Tryz.prog (tb.atS ρ noSp noLp) 300) := by
  intro f v hv
  unfold kn at hv
  split at hv
  · rename_i hf
    cases hv
    rw [show f = 5 by simpa using hf]
    have h := example_run ρ
    rw [callX_eq] at h
    exact ⟨rfl, isTrue_eq h⟩
  · exact absurd hv (by simp)
theorem facts_of {tb : Tb} (h : SpecOk Tryz.prog tb) : FactsOk tb := fun f args r hr q hq => (h.fns f args r hr).2.1 q hq

theorem own : ownKnob Tryz.prog.godebug = none := by kernel_rfl
theorem kids : Kids Tryz.prog (· < Tryz.prog.types.size) := kids_rows (by kernel_rfl) (by kernel_rfl)
theorem full : ∀ t e, t < Tryz.prog.types.size → Tryz.prog.underlying t = some (.slice e) → 0 < Tryz.prog.cellsOf e := slices_full_of Tryz.prog (by kernel_rfl)

theorem no_goes : Tryz.prog.funcs.any Func.goes = false := by kernel_rfl
end Go.Proofs.YtoedgmenbohgiaaGreatDoor
