/- Chapter 50: what the proofs of its laws share: the tables, the listed variables' cells. -/
import Derived.Test.YtfcfbcbmnhkedaaGreatDoorSxN
import Derived.Test.YtfcfbcbmnhkedaaGreatDoorSxK
import Derived.Test.YtfcfbcbmnhkedaaGreatDoorSxF1
import Derived.Test.YtfcfbcbmnhkedaaGreatDoorSxG
import Derived.Test.YtfcfbcbmnhkedaaGreatDoorSxH
import Derived.Test.YtfcfbcbmnhkedaaGreatDoorRows
import Derived.Lay
set_option linter.unusedVariables false
namespace Go.Proofs.YtfcfbcbmnhkedaaGreatDoor
open Go.Sx Go.ChangeShapes Go.WideShapes Go.ChangeAt Go.RowKit

def prodNums : List Int := [0, 1, 2, 3, 4, 5, 6, 7, 1, 2, 3, 0, 7, 4, 5, 6, 2, 3, 0, 1, 6, 7, 4, 5, 3, 0, 1, 2, 5, 6, 7, 4, 4, 5, 6, 7, 0, 1, 2, 3, 5, 6, 7, 4, 3, 0, 1, 2, 6, 7, 4, 5, 2, 3, 0, 1, 7, 4, 5, 6, 1, 2, 3, 0]
def xNums : List Int := [0, 0, 0, -1, 1, -1, -1, 1, 1]
def yNums : List Int := [0, -1, 1, 0, 0, -1, 1, -1, 1]
noncomputable def tb0 : Tb := tbOf Tryz.funcs.toList Tryz.types.toList
noncomputable def tb : Tb := { tb0 with glob := fun g => if g == 0 then some (prodNums.map (Value.int .i64)) else if g == 1 then some (xNums.map (Value.int .i64)) else if g == 2 then some (yNums.map (Value.int .i64)) else none }
theorem tb0_ok : tb0.Ok Tryz.prog := tbOf_ok rfl rfl (by kernel_rfl) (by kernel_rfl)
theorem tb_ok : tb.Ok Tryz.prog := ⟨tb0_ok.func, tb0_ok.desc, tb0_ok.info, tb0_ok.mixed⟩
theorem wf0 : chunkOk Tryz.funcs.toList 0 45 = true := by kernel_rfl
theorem wf1 : chunkOk Tryz.funcs.toList 45 45 = true := by kernel_rfl
theorem wf2 : chunkOk Tryz.funcs.toList 90 45 = true := by kernel_rfl
theorem wf3 : chunkOk Tryz.funcs.toList 135 45 = true := by kernel_rfl
theorem wf4 : chunkOk Tryz.funcs.toList 180 45 = true := by kernel_rfl
theorem wf5 : chunkOk Tryz.funcs.toList 225 45 = true := by kernel_rfl
theorem wf6 : chunkOk Tryz.funcs.toList 270 45 = true := by kernel_rfl
theorem wf7 : chunkOk Tryz.funcs.toList 315 45 = true := by kernel_rfl
theorem wf8 : chunkOk Tryz.funcs.toList 360 45 = true := by kernel_rfl
theorem wf9 : chunkOk Tryz.funcs.toList 405 45 = true := by kernel_rfl
theorem wf10 : chunkOk Tryz.funcs.toList 450 45 = true := by kernel_rfl
theorem wf11 : chunkOk Tryz.funcs.toList 495 45 = true := by kernel_rfl
theorem wf_end : (Tryz.funcs.toList.drop 540).isEmpty = true := by kernel_rfl
theorem tb0_wf : tb0.Wf := tbOf_wf (chunks_all (l := Tryz.funcs.toList) 45 [0, 45, 90, 135, 180, 225, 270, 315, 360, 405, 450, 495] (by rfl) (fun a ha => by
  simp only [List.mem_cons, List.mem_nil_iff, or_false] at ha
  rcases ha with rfl | rfl | rfl | rfl | rfl | rfl | rfl | rfl | rfl | rfl | rfl | rfl
  · exact wf0
  · exact wf1
  · exact wf2
  · exact wf3
  · exact wf4
  · exact wf5
  · exact wf6
  · exact wf7
  · exact wf8
  · exact wf9
  · exact wf10
  · exact wf11) wf_end)
theorem tb_wf : tb.Wf := fun f fn c h1 h2 => tb0_wf f fn c h1 h2

/-- What the rows list. -/
def laid : List (String × DataW Unit) := [("compositor/popup.sidesX", Rows.laid_compositor_popup_sidesX), ("compositor/popup.sidesY", Rows.laid_compositor_popup_sidesY), ("compositor/transform.products", Rows.laid_compositor_transform_products)]
theorem laid_plain : (laid.all fun x => x.2.handleName?.isNone) = true := by kernel_rfl
theorem x_in : ("compositor/popup.sidesX", DataW.agg (xNums.map fun i => DataW.lit (.int .i64 i))) ∈ laid := .head _
theorem y_in : ("compositor/popup.sidesY", DataW.agg (yNums.map fun i => DataW.lit (.int .i64 i))) ∈ laid := .tail _ (.head _)
theorem prod_in : ("compositor/transform.products", DataW.agg (prodNums.map fun i => DataW.lit (.int .i64 i))) ∈ laid := .tail _ (.tail _ (.head _))
theorem glob_ok (W : World) (h : laidMetH Tryz.prog laid W) (g : Nat) (l : List Value) (hg : tb.glob g = some l) (j : Nat) (v : Value) (hj : l[j]? = some v) : W.cell? ⟨g, j, none⟩ = some v := by
  have hg : (if g == 0 then some (prodNums.map (Value.int .i64)) else if g == 1 then some (xNums.map (Value.int .i64)) else if g == 2 then some (yNums.map (Value.int .i64)) else none) = some l := hg
  split at hg
  · rename_i h0
    cases hg
    rw [show g = 0 by simpa using h0]
    exact laid_ints (t := 476) (e := 3) (n := 64) laid_plain h prod_in (by kernel_rfl) (by kernel_rfl) (by kernel_rfl) (by kernel_rfl) (by kernel_rfl) (by kernel_rfl) j v hj
  · split at hg
    · rename_i h0
      cases hg
      rw [show g = 1 by simpa using h0]
      exact laid_ints (t := 487) (e := 3) (n := 9) laid_plain h x_in (by kernel_rfl) (by kernel_rfl) (by kernel_rfl) (by kernel_rfl) (by kernel_rfl) (by kernel_rfl) j v hj
    · split at hg
      · rename_i h0
        cases hg
        rw [show g = 2 by simpa using h0]
        exact laid_ints (t := 487) (e := 3) (n := 9) laid_plain h y_in (by kernel_rfl) (by kernel_rfl) (by kernel_rfl) (by kernel_rfl) (by kernel_rfl) (by kernel_rfl) j v hj
      · exact absurd hg (by simp)

theorem own : ownKnob Tryz.prog.godebug = none := by kernel_rfl
theorem kids : Kids Tryz.prog (· < Tryz.prog.types.size) := kids_rows (by kernel_rfl) (by kernel_rfl)
theorem full : ∀ t e, t < Tryz.prog.types.size → Tryz.prog.underlying t = some (.slice e) → 0 < Tryz.prog.cellsOf e := slices_full_of Tryz.prog (by kernel_rfl)
theorem no_goes : Tryz.prog.funcs.any Func.goes = false := by kernel_rfl
theorem slice_of {n : Nat} {t e : TypeId} {cs : List V} (hd : tb.desc t = some (.slice e)) (h : Ty tb (n + 1) t cs) : ∃ b es tok, cs = [.list b es tok] := by
  rcases Ty.slice hd h with rfl | ⟨es, rfl, _⟩
  · exact ⟨_, _, _, rfl⟩
  · exact ⟨_, _, _, rfl⟩
theorem int_of {n : Nat} {t : TypeId} {k : IntKind} {cs : List V} (hd : tb.desc t = some (.int k)) (h : Ty tb (n + 1) t cs) : ∃ i, cs = [.val (.int k i)] := by
  obtain ⟨i, h1, _⟩ := Ty.int hd h
  exact ⟨i, h1⟩
end Go.Proofs.YtfcfbcbmnhkedaaGreatDoor
