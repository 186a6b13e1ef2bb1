/- Chapter 12: what the proofs of its laws share: the tables, the listed variable's cells, the chapter's examples. -/
import Derived.Test.YtdblaloadklcfaaDoorSx25
import Derived.Test.YtdblaloadklcfaaDoorRows
import Derived.Lay
set_option linter.unusedVariables false
namespace Go.Proofs.YtdblaloadklcfaaDoor
open Go.Sx Go.ChangeShapes Go.WideShapes Go.ChangeAt Go.RowKit

def kindNums : List Int := [7, 0, 0, 0, 0, 3, 0, 0, 1, 0, 0, 0, 0, 6, 5, 0, 0, 0, 4, 0, 2, 0, 0, 0, 0, 0]
noncomputable def tb0 : Tb := tbOf Tryd.funcs.toList Tryd.types.toList
noncomputable def tb : Tb := { tb0 with glob := fun g => if g == 0 then some (kindNums.map (Value.int .i64)) else none }
theorem tb0_ok : tb0.Ok Tryd.prog := tbOf_ok rfl rfl (by kernel_rfl) (by kernel_rfl)
theorem tb_ok : tb.Ok Tryd.prog := ⟨tb0_ok.func, tb0_ok.desc, tb0_ok.info, tb0_ok.mixed⟩
theorem tb0_wf : tb0.Wf := tbOf_wf (by kernel_rfl)
theorem tb_wf : tb.Wf := fun f fn c h1 h2 => tb0_wf f fn c h1 h2

/-- What the rows list. -/
def laid : List (String × DataW Unit) := [("unicode/utf8.acceptRanges", Rows.laid_unicode_utf8_acceptRanges), ("compositor/iface.kinds", Rows.laid_compositor_iface_kinds), ("unicode/utf8.first", Rows.laid_unicode_utf8_first)]
theorem laid_plain : (laid.all fun x => x.2.handleName?.isNone) = true := by kernel_rfl
theorem kinds_in : ("compositor/iface.kinds", DataW.agg (kindNums.map fun i => DataW.lit (.int .i64 i))) ∈ laid := .tail _ (.head _)
theorem glob_ok (W : World) (h : laidMetH Tryd.prog laid W) (g : Nat) (l : List Value) (hg : tb.glob g = some l) (j : Nat) (v : Value) (hj : l[j]? = some v) : W.cell? ⟨g, j, none⟩ = some v := by
  have hg : (if g == 0 then some (kindNums.map (Value.int .i64)) else none) = some l := hg
  split at hg
  · rename_i h0
    cases hg
    rw [show g = 0 by simpa using h0]
    exact laid_ints (t := 58) (e := 3) (n := 26) laid_plain h kinds_in (by kernel_rfl) (by kernel_rfl) (by kernel_rfl) (by kernel_rfl) (by kernel_rfl) (by kernel_rfl) j v hj
  · exact absurd hg (by simp)

/-- The chapter's examples. -/
def kn (f : Nat) : Option V := if f == 13 then some (.val (.bool true)) else none
theorem example_run (ρ : Nat → Value) : isTrue (call Tryd.prog (tb.at ρ) 300 13 [] H0) = true := by kernel_rfl
theorem kn_ok (ρ : Nat → Value) : KnOk kn (call Tryd.prog (tb.at ρ) 300) := by
  intro f v h
  unfold kn at h
  split at h
  · rename_i hf
    cases h
    rw [show f = 13 by simpa using hf]
    exact ⟨rfl, isTrue_eq (example_run ρ)⟩
  · exact absurd h (by simp)

/-- The interfaces' names. -/
def names : List String := ["display", "registry", "callback", "shell", "buffer", "surface", "subsurface", "toplevel", "popup", "seat", "pointer", "keyboard", "touch", "output", "presentation"]
def pcName (n : String) : PC := [(.eqs (.svar 0) (.str n.toUTF8), true)]
def pcNone : PC := names.map fun n => (SE.eqs (.svar 0) (.str n.toUTF8), false)

theorem name_cases (s : ByteArray) : (∃ n, n ∈ names ∧ (s == n.toUTF8) = true) ∨ ∀ n, n ∈ names → (s == n.toUTF8) = false := by
  by_cases h : ∃ n, n ∈ names ∧ (s == n.toUTF8) = true
  · exact .inl h
  · refine .inr fun n hn => ?_
    cases hs : (s == n.toUTF8) with
    | false => rfl
    | true => exact absurd ⟨n, hn, hs⟩ h

theorem holds_name {ρ : Nat → Value} {s : ByteArray} {n : String} (h0 : ρ 0 = .string s) (h : (s == n.toUTF8) = true) : (pcName n).holds ρ :=
  PC.holds_cons (by show (textOf (ρ 0) == _) = true; rw [h0]; exact h) (PC.holds_nil _)
theorem holds_none {ρ : Nat → Value} {s : ByteArray} (h0 : ρ 0 = .string s) (h : ∀ n, n ∈ names → (s == n.toUTF8) = false) : pcNone.holds ρ := fun q hq => by
  obtain ⟨n, hn, rfl⟩ := List.mem_map.1 hq
  show (textOf (ρ 0) == _) = false
  rw [h0]
  exact h n hn

theorem own : ownKnob Tryd.prog.godebug = none := by kernel_rfl
theorem kids : Kids Tryd.prog (· < Tryd.prog.types.size) := kids_rows (by kernel_rfl) (by kernel_rfl)
theorem full : ∀ t e, t < Tryd.prog.types.size → Tryd.prog.underlying t = some (.slice e) → 0 < Tryd.prog.cellsOf e := slices_full_of Tryd.prog (by kernel_rfl)
end Go.Proofs.YtdblaloadklcfaaDoor
