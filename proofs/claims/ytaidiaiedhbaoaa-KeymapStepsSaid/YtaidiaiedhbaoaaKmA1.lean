/- Keys as data: what both sides ask of them. -/
import Derived.Test.YtaidiaiedhbaoaaSxT
import Derived.Test.YtaidiaiedhbaoaaProg
/- Keys as data: what both sides ask of them. -/
set_option linter.unusedVariables false
set_option linter.unusedSimpArgs false
namespace Go.Sx
noncomputable section
abbrev iK : IntKind := .i64
/-- A number in a cell. -/
def numC (r : Value) (j : Nat) : Int := IntKind.wrap .i64 (numOf (cellD r j))
def codeD (r : Value) : Int := numC r 0
def levD (r : Value) : List Value := elsD (cellD r 1)
def symsD (lr : Value) : List Value := elsD (cellD lr 0)
def manyD (lr : Value) : Bool := decide (4 < (symsD lr).length)
def wildD (s : Value) : Bool := decide (numC s 0 < 1) || decide (16777223 < numC s 0)
def wildsD (lr : Value) : Bool := (symsD lr).any wildD
/-- The error of some levels. -/
def chkD (ls : List Value) (eL eA eR : Int) : Int :=
  if 4 < ls.length then eL else if ls.any manyD then eL else if ls.length = 0 ∨ ((symsD (ls.getD 0 .nilFunc)).length = 0) then eA else if ls.any wildsD then eR else 0
/-- Where a code stands first, or -1. -/
def idxD (c : Int) : List Value → Int
  | [] => -1
  | r :: l => if codeD r = c then 0 else (if idxD c l < 0 then -1 else idxD c l + 1)

/-! ### Lists looked through -/
theorem any_drop {α : Type} (p : α → Bool) {l : List α} {i : Nat} (h : i < l.length) : (l.drop i).any p = (p (l[i]'h) || (l.drop (i + 1)).any p) := by
  rw [List.drop_eq_getElem_cons h, List.any_cons]
theorem any_end {α : Type} (p : α → Bool) {l : List α} {i : Nat} (h : l.length ≤ i) : (l.drop i).any p = false := by
  rw [List.drop_of_length_le h]
  rfl
theorem getD_at {l : List Value} {i : Nat} (h : i < l.length) : l.getD i .nilFunc = l[i]'h := by
  rw [List.getD_eq_getElem?_getD, List.getElem?_eq_getElem h]
  rfl
theorem idxD_drop {c : Int} {l : List Value} {i : Nat} (h : i < l.length) : idxD c (l.drop i) = if codeD (l[i]'h) = c then 0 else (if idxD c (l.drop (i + 1)) < 0 then -1 else idxD c (l.drop (i + 1)) + 1) := by
  rw [List.drop_eq_getElem_cons h]
  rfl
theorem idxD_range (c : Int) : ∀ l : List Value, -1 ≤ idxD c l ∧ idxD c l < l.length
  | [] => by simp [idxD]
  | r :: l => by
    have := idxD_range c l
    simp only [idxD, List.length_cons]
    split
    · omega
    · split <;> omega
end
end Go.Sx

/- Keymaps: the tables. -/
set_option linter.unusedVariables false
set_option linter.unusedSimpArgs false
namespace Go.Proofs.Ytaidiaiedhbaoaa
open Go.Sx Go.ChangeShapes Go.WideShapes Go.ChangeAt Go.RowKit
noncomputable section
def tb : Tb := tbOf Try.funcs.toList Try.types.toList
theorem tb_ok : tb.Ok Try.prog := tbOf_ok rfl rfl (by kernel_rfl) (by kernel_rfl)
theorem tb_wf : tb.Wf := tbOf_wf (by kernel_rfl)
abbrev Sp := Nat → List V → Heap → Option (V × List (SE × Bool))
abbrev Lp := Nat → St → Option OTree
def noSp : Sp := fun _ _ _ => none
def noLp : Lp := fun _ _ => none
def kn0 : Nat → Option V := fun _ => none
theorem kn0_ok {P : Program} {tb : Tb} {n : Nat} : KnOk kn0 (call P tb n) := fun f v h => by simp [kn0] at h
theorem none_ok (fs : List Nat) (ρ : Nat → Value) : SpecOk Try.prog ((tb.only fs).atS ρ noSp noLp) := SpecOk.none (fun _ _ _ => rfl) (fun _ _ => rfl)
abbrev iv (n : Nat) : V := .sym (.int .i64) (.ivar .i64 n)
abbrev bv (n : Nat) : V := .sym .bool (.bvar n)
abbrev shI : Sh := .li (.cons (.sc (.int .i64)) .nil)
abbrev shL : Sh := .li (.cons shI .nil)
abbrev shK : Sh := .li (.cons (.sc (.int .i64)) (.cons shL .nil))
end
end Go.Proofs.Ytaidiaiedhbaoaa
