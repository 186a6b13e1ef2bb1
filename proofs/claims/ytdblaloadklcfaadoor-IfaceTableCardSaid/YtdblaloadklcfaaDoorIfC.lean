/- Chapter 12: what the proofs of its laws over texts share: the tables, the listed variable's cells, the chapter's examples, the kinds of letters. -/
import Derived.Test.YtdblaloadklcfaaDoorSxM
import Derived.Test.YtdblaloadklcfaaDoorSxF1
import Derived.Test.YtdblaloadklcfaaDoorRows
import Derived.Lay
set_option linter.unusedVariables false
namespace Go.Proofs.YtdblaloadklcfaaDoor
open Go.Sx Go.ChangeShapes Go.WideShapes Go.ChangeAt Go.RowKit

def kindNums : List Int := [7, 0, 0, 0, 0, 3, 0, 0, 1, 0, 0, 0, 0, 6, 5, 0, 0, 0, 4, 0, 2, 0, 0, 0, 0, 0]
noncomputable def tb0 : Tb := tbOf Tryd.funcs.toList Tryd.types.toList
noncomputable def tb : Tb := { tb0 with glob := fun g => if g == 0 then some (kindNums.map (Value.int .i64)) else none }
theorem tb0_ok : tb0.Ok Tryd.prog := tbOf_ok rfl rfl (by kernel_rfl) (by kernel_rfl)
theorem tb_ok : tb.Ok Tryd.prog := ⟨tb0_ok.func, tb0_ok.desc, tb0_ok.info, tb0_ok.mixed⟩
theorem tb0_wf : tb0.Wf := tbOf_wf (by kernel_rfl)
theorem tb_wf : tb.Wf := fun f fn c h1 h2 => tb0_wf f fn c h1 h2

/-- What the rows list. -/
def laid : List (String × DataW Unit) := [("unicode/utf8.acceptRanges", Rows.laid_unicode_utf8_acceptRanges), ("compositor/iface.kinds", Rows.laid_compositor_iface_kinds), ("unicode/utf8.first", Rows.laid_unicode_utf8_first)]
theorem laid_plain : (laid.all fun x => x.2.handleName?.isNone) = true := by kernel_rfl
theorem kinds_in : ("compositor/iface.kinds", DataW.agg (kindNums.map fun i => DataW.lit (.int .i64 i))) ∈ laid := .tail _ (.head _)
theorem glob_ok (W : World) (h : laidMetH Tryd.prog laid W) (g : Nat) (l : List Value) (hg : tb.glob g = some l) (j : Nat) (v : Value) (hj : l[j]? = some v) : W.cell? ⟨g, j, none⟩ = some v := by
  have hg : (if g == 0 then some (kindNums.map (Value.int .i64)) else none) = some l := hg
  split at hg
  · rename_i h0
    cases hg
    rw [show g = 0 by simpa using h0]
    exact laid_ints (t := 58) (e := 3) (n := 26) laid_plain h kinds_in (by kernel_rfl) (by kernel_rfl) (by kernel_rfl) (by kernel_rfl) (by kernel_rfl) (by kernel_rfl) j v hj
  · exact absurd hg (by simp)

abbrev Sp := Nat → List V → Option (V × List (SE × Bool))
abbrev Lp := Nat → St → Option OTree
def noSp : Sp := fun _ _ => none
def noLp : Lp := fun _ _ => none

/-- The chapter's examples. -/
def kn (f : Nat) : Option V := if f == 13 then some (.val (.bool true)) else none
theorem example_run (ρ : Nat → Value) : isTrue (callX Tryd.prog (tb.atS ρ noSp noLp) 300 13 [] H0) = true := by kernel_rfl

theorem own : ownKnob Tryd.prog.godebug = none := by kernel_rfl
theorem kids : Kids Tryd.prog (· < Tryd.prog.types.size) := kids_rows (by kernel_rfl) (by kernel_rfl)
theorem full : ∀ t e, t < Tryd.prog.types.size → Tryd.prog.underlying t = some (.slice e) → 0 < Tryd.prog.cellsOf e := slices_full_of Tryd.prog (by kernel_rfl)

/-- The kind of a letter. -/
def kindN (i : Int) : Int := if i == 97 then 7 else if i == 102 then 3 else if i == 105 then 1 else if i == 110 then 6 else if i == 111 then 5 else if i == 115 then 4 else if i == 117 then 2 else 0
theorem kindN_range (i : Int) : 0 ≤ kindN i ∧ kindN i ≤ 7 := by
  unfold kindN
  repeat' split
  all_goals omega
def kindIs (b : Int) (L : Option (List (V × Heap))) : Bool :=
  match L with
  | some [(.val (.int .i64 r), _)] => r == kindN b
  | _ => false
theorem kindIs_eq {b : Int} {L : Option (List (V × Heap))} (h : kindIs b L = true) : ∃ H', L = some [(.val (.int .i64 (kindN b)), H')] := by
  unfold kindIs at h
  split at h
  · rename_i r H'
    exact ⟨H', by rw [eq_of_beq h]⟩
  · exact absurd h (by simp)
noncomputable def kindRun (ρ : Nat → Value) (f lo n : Nat) : Bool := (List.range n).all fun j => kindIs (Int.ofNat (lo + j)) (callX Tryd.prog (tb.atS ρ noSp noLp) 300 f [.val (.int .u8 (Int.ofNat (lo + j)))] H0)
theorem run35 (ρ : Nat → Value) : kindRun ρ 35 0 256 = true := by kernel_rfl
theorem run36a (ρ : Nat → Value) : kindRun ρ 36 0 64 = true := by kernel_rfl
theorem run36b (ρ : Nat → Value) : kindRun ρ 36 64 64 = true := by kernel_rfl
theorem run36c (ρ : Nat → Value) : kindRun ρ 36 128 64 = true := by kernel_rfl
theorem run36d (ρ : Nat → Value) : kindRun ρ 36 192 64 = true := by kernel_rfl
theorem kindRun_at {ρ : Nat → Value} {f lo n : Nat} (h : kindRun ρ f lo n = true) {b : Int} (h1 : (lo : Int) ≤ b) (h2 : b < lo + n) : ∃ H', call Tryd.prog (tb.atS ρ noSp noLp) 300 f [.val (.int .u8 b)] H0 = some [(.val (.int .i64 (kindN b)), H')] := by
  unfold kindRun at h
  have := List.all_eq_true.1 h (b - lo).toNat (List.mem_range.2 (by omega))
  rw [show Int.ofNat (lo + (b - lo).toNat) = b by simp only [Int.ofNat_eq_natCast]; omega, callX_eq] at this
  exact kindIs_eq this
theorem kind_at (ρ : Nat → Value) {f : Nat} (hf : f = 35 ∨ f = 36) {b : Int} (h1 : 0 ≤ b) (h2 : b ≤ 255) : ∃ H', call Tryd.prog (tb.atS ρ noSp noLp) 300 f [.val (.int .u8 b)] H0 = some [(.val (.int .i64 (kindN b)), H')] := by
  rcases hf with rfl | rfl
  · exact kindRun_at (run35 ρ) (by omega) (by omega)
  · by_cases ha : b < 64
    · exact kindRun_at (run36a ρ) (by omega) (by omega)
    · by_cases hb : b < 128
      · exact kindRun_at (run36b ρ) (by omega) (by omega)
      · by_cases hc : b < 192
        · exact kindRun_at (run36c ρ) (by omega) (by omega)
        · exact kindRun_at (run36d ρ) (by omega) (by omega)

theorem base_ok (ρ : Nat → Value) : SpecOk Tryd.prog (tb.atS ρ noSp noLp) := SpecOk.none (fun _ _ => rfl) (fun _ _ => rfl)
theorem kn_ok (ρ : Nat → Value) (sp : Sp) (lp : Lp) (h : isTrue (callX Tryd.prog (tb.atS ρ sp lp) 300 13 [] H0) = true) : KnOk kn (call Tryd.prog (tb.atS ρ sp lp) 300) := by
  intro f v hv
  unfold kn at hv
  split at hv
  · rename_i hf
    cases hv
    rw [show f = 13 by simpa using hf]
    rw [callX_eq] at h
    exact ⟨rfl, isTrue_eq h⟩
  · exact absurd hv (by simp)

/-- What the functions for kinds give, in the model. -/
theorem kind_calls {ρ : Nat → Value} {f : Nat} (hf : f = 35 ∨ f = 36) {b : Int} (h1 : 0 ≤ b) (h2 : b ≤ 255) {N : Nat} {φ : Froz} {γ : Go.Sx.Place} {H : Heap} {w : World} {args' : Array Value} (hr : Rel N φ γ H w) (hρ : φ.rho = ρ) (hg : ∀ g l, tb.glob g = some l → ∀ j v, l[j]? = some v → φ g j = some v) (ha : args' = #[.int .u8 b]) :
    Calls Tryd.prog f args' w (fun e w' => e = .returned (.int .i64 (kindN b)) ∧ Below w.heap.size w w') := by
  obtain ⟨H', hL⟩ := kind_at ρ hf h1 h2
  refine (calls_flat (tb_ok.atS ρ noSp noLp) tb_wf (base_ok ρ) hL (by rfl) hr ⟨hg, hρ⟩ (args' := args') (by subst ha; exact ⟨rfl, fun j v hj => by
    match j, hj with
    | 0, hj => simp at hj; subst hj; exact .val rfl⟩)).mono ?_
  rintro e w' ⟨r, hrm, cv, rfl, hb, hv⟩
  rw [List.mem_singleton.1 hrm] at hv
  have hv := hv rfl
  cases hv
  exact ⟨rfl, hb⟩
theorem known35 : ∃ fn, Tryd.prog.funcs[35]? = some fn ∧ (fn.name == "runtime.NumGoroutine") = false ∧ fn.body.isNone = false := ⟨Tryd.f35, Tryd.func35, by kernel_rfl, by kernel_rfl⟩
theorem known36 : ∃ fn, Tryd.prog.funcs[36]? = some fn ∧ (fn.name == "runtime.NumGoroutine") = false ∧ fn.body.isNone = false := ⟨Tryd.f36, Tryd.func36, by kernel_rfl, by kernel_rfl⟩
theorem kindN_wrap (b : Int) : IntKind.i64.wrap (kindN b) = kindN b := by
  have := kindN_range b
  exact wrap_id .i64 _ (by show (-9223372036854775808 : Int) ≤ _; omega) (by show _ ≤ (9223372036854775807 : Int); omega)
end Go.Proofs.YtdblaloadklcfaaDoor
