/- IfaceVersions: the runs. -/
import Derived.Test.YtdblaloadklcfaaDoorIfB
set_option linter.unusedVariables false
namespace Go.Proofs.YtdblaloadklcfaaDoor
open Go.Sx

def ys : List V := [.sym .str (.svar 0), .sym (.int .i64) (.ivar .i64 1), .sym (.int .i64) (.ivar .i64 2)]
def pcOp (n : String) (j : Int) : PC := (.cmp .eql (.ivar .i64 1) (.int .i64 j), true) :: pcName n
def pcLow (n : String) : PC := (.cmp .lss (.ivar .i64 1) (.int .i64 0), true) :: pcName n
def pcHigh (n : String) (j : Int) : PC := (.cmp .lss (.ivar .i64 1) (.int .i64 j), false) :: pcName n
theorem holds_op {ρ : Nat → Value} {n : String} {j i : Int} (h : (SE.ivar .i64 1).num ρ = i) (e : i = j) (hp : (pcName n).holds ρ) : (pcOp n j).holds ρ :=
  PC.holds_cons (by rw [(truth_cmp _ _ _).1, h, e]; simp [SE.num, SE.all]) hp
theorem holds_low {ρ : Nat → Value} {n : String} {i : Int} (h : (SE.ivar .i64 1).num ρ = i) (e : i < 0) (hp : (pcName n).holds ρ) : (pcLow n).holds ρ :=
  PC.holds_cons (by rw [(truth_cmp _ _ _).2.2.1, h]; first | exact decide_eq_true e | exact decide_eq_false e) hp
theorem holds_high {ρ : Nat → Value} {n : String} {j i : Int} (h : (SE.ivar .i64 1).num ρ = i) (e : ¬ i < j) (hp : (pcName n).holds ρ) : (pcHigh n j).holds ρ :=
  PC.holds_cons (by rw [(truth_cmp _ _ _).2.2.1, h]; first | exact decide_eq_true e | exact decide_eq_false e) hp
end Go.Proofs.YtdblaloadklcfaaDoor
