/- Chapter 06: what the proofs of its laws over known functions share: the tables, the listed variables' cells, the chapter's examples. -/
import Derived.Test.YtkjfpjammlihpaaDoorSxM
import Derived.Test.YtkjfpjammlihpaaDoorSxF1
import Derived.Test.YtkjfpjammlihpaaDoorSx26
import Derived.Test.YtkjfpjammlihpaaDoorRows
import Derived.Lay
set_option linter.unusedVariables false
namespace Go.Proofs.YtkjfpjammlihpaaDoor
open Go.Sx Go.ChangeShapes Go.WideShapes Go.ChangeAt Go.RowKit

def pow10Nums : List Int := [1, 10, 100, 1000, 10000, 100000, 1000000, 10000000, 100000000, 1000000000, 10000000000, 100000000000, 1000000000000, 10000000000000, 100000000000000, 1000000000000000, 10000000000000000, 100000000000000000, 1000000000000000000, 10000000000000000000]
noncomputable def tb0 : Tb := tbOf Tryd.funcs.toList Tryd.types.toList
noncomputable def tb : Tb := { tb0 with glob := fun g => if g == 2 then some (pow10Nums.map (Value.int .u64)) else none }
theorem tb0_ok : tb0.Ok Tryd.prog := tbOf_ok rfl rfl (by kernel_rfl) (by kernel_rfl)
theorem tb_ok : tb.Ok Tryd.prog := ⟨tb0_ok.func, tb0_ok.desc, tb0_ok.info, tb0_ok.mixed⟩
theorem tb0_wf : tb0.Wf := tbOf_wf (by kernel_rfl)
theorem tb_wf : tb.Wf := fun f fn c h1 h2 => tb0_wf f fn c h1 h2

/-- What the rows list. -/
def laid : List (String × DataW Unit) := [("math/bits.deBruijn32tab", Rows.laid_math_bits_deBruijn32tab), ("math/bits.deBruijn64tab", Rows.laid_math_bits_deBruijn64tab), ("internal/strconv.uint64pow10", Rows.laid_internal_strconv_uint64pow10)]
theorem laid_plain : (laid.all fun x => x.2.handleName?.isNone) = true := by kernel_rfl
theorem pow10_in : ("internal/strconv.uint64pow10", DataW.agg (pow10Nums.map fun i => DataW.lit (.int .u64 i))) ∈ laid := .tail _ (.tail _ (.head _))
theorem glob_ok (W : World) (h : laidMetH Tryd.prog laid W) (g : Nat) (l : List Value) (hg : tb.glob g = some l) (j : Nat) (v : Value) (hj : l[j]? = some v) : W.cell? ⟨g, j, none⟩ = some v := by
  have hg : (if g == 2 then some (pow10Nums.map (Value.int .u64)) else none) = some l := hg
  split at hg
  · rename_i h0
    cases hg
    rw [show g = 2 by simpa using h0]
    exact laid_ints (t := 70) (e := 39) (n := 20) laid_plain h pow10_in (by kernel_rfl) (by kernel_rfl) (by kernel_rfl) (by kernel_rfl) (by kernel_rfl) (by kernel_rfl) j v hj
  · exact absurd hg (by simp)

abbrev Sp := Nat → List V → Option (V × List (SE × Bool))
abbrev Lp := Nat → St → Option OTree
def noSp : Sp := fun _ _ => none
def noLp : Lp := fun _ _ => none

/-- The chapter's examples. -/
def kn (f : Nat) : Option V := if f == 14 then some (.val (.bool true)) else none
def kn0 : Nat → Option V := fun _ => none
theorem example_run (ρ : Nat → Value) : isTrue (callX Tryd.prog (tb.atS ρ noSp noLp) 300 14 [] H0) = true := by kernel_rfl

theorem own : ownKnob Tryd.prog.godebug = none := by kernel_rfl
theorem kids : Kids Tryd.prog (· < Tryd.prog.types.size) := kids_rows (by kernel_rfl) (by kernel_rfl)
theorem full : ∀ t e, t < Tryd.prog.types.size → Tryd.prog.underlying t = some (.slice e) → 0 < Tryd.prog.cellsOf e := slices_full_of Tryd.prog (by kernel_rfl)

theorem base_ok (ρ : Nat → Value) : SpecOk Tryd.prog (tb.atS ρ noSp noLp) := SpecOk.none (fun _ _ => rfl) (fun _ _ => rfl)
theorem kn_ok (ρ : Nat → Value) (sp : Sp) (lp : Lp) (h : isTrue (callX Tryd.prog (tb.atS ρ sp lp) 300 14 [] H0) = true) : KnOk kn (call Tryd.prog (tb.atS ρ sp lp) 300) := by
  intro f v hv
  unfold kn at hv
  split at hv
  · rename_i hf
    cases hv
    rw [show f = 14 by simpa using hf]
    rw [callX_eq] at h
    exact ⟨rfl, isTrue_eq h⟩
  · exact absurd hv (by simp)
theorem wid_u64 (n : Int) (h1 : 0 ≤ n) (h2 : n ≤ 18446744073709551615) : IntKind.wrap .u64 n = n := wrap_id .u64 n h1 h2
theorem wid_i64 (n : Int) (h1 : -9223372036854775808 ≤ n) (h2 : n ≤ 9223372036854775807) : IntKind.wrap .i64 n = n := wrap_id .i64 n h1 h2
theorem wid_i32 (n : Int) (h1 : -2147483648 ≤ n) (h2 : n ≤ 2147483647) : IntKind.wrap .i32 n = n := wrap_id .i32 n h1 h2
end Go.Proofs.YtkjfpjammlihpaaDoor
