/- The reference's FromRatio, as a contract. -/
import Derived.Test.YtkjfpjammlihpaaDoorFxF
set_option linter.unusedVariables false
set_option linter.unusedSimpArgs false
namespace Go.Proofs.YtkjfpjammlihpaaDoor
open Go.Sx Go.ChangeShapes Go.WideShapes Go.ChangeAt Go.RowKit
noncomputable section

/-- A sign and a magnitude. -/
def fitQ (neg : Bool) (q : Int) : Int × Int := if neg then (if 2147483648 < q then (0, 6) else (-q, 0)) else (if 2147483647 < q then (0, 6) else (q, 0))
def negAB (a b : Int) : Bool := decide (a < 0) != decide (b < 0)
/-- The quotient of x * 256 by y, rounded. -/
def rdQ (x y : Int) : Int := if y ≤ 2 * (x * 256 % y) then x * 256 / y + 1 else x * 256 / y
def pairV (p : Int × Int) : Value := .tuple #[.int .i32 p.1, .int .i64 p.2]
def frV (a b : Int) : Value := if b = 0 then pairV (0, 2) else pairV (fitQ (negAB a b) (rdQ (ab a) (ab b)))

theorem ret2 (ρ : Nat → Value) (x y : SE) : retOf true (valsOf ρ [(.int .i32, x), (.int .i64, y)]) = pairV (x.num ρ, y.num ρ) := rfl
theorem pair_eq {a b : Int} {p : Int × Int} (h1 : a = p.1) (h2 : b = p.2) : pairV (a, b) = pairV p := by rw [h1, h2]
theorem rdQ_big {x y : Int} (hx : 0 ≤ x) (hy : 0 < y) (h : 16777216 < x / y) : 4294967296 ≤ rdQ x y := by
  have h1 : 256 * (x / y) ≤ x * 256 / y := by
    rw [Int.le_ediv_iff_mul_le hy, Int.mul_assoc]
    have := Int.ediv_mul_le x (b := y) (by omega)
    omega
  unfold rdQ
  split <;> omega
def MFa : List (PC × Bool × List (STy × SE)) := [([(SE.cmp .eql (SE.ivar .u64 3) (SE.int .u64 0), false), (SE.cmp .lss (SE.int .u64 16777216) (SE.bin .quo .u64 (SE.ivar .u64 2) (SE.ivar .u64 3)), true), (SE.cmp .eql (SE.ivar .i64 1) (SE.int .i64 0), false)], true, [(.int .i32, SE.int .i32 0), (.int .i64, SE.int .i64 6)])]
def MFb : List (PC × Bool × List (STy × SE)) := [([(SE.cmp .lss (SE.int .u64 2147483648) (SE.bin .add .u64 (SE.ivar .u64 7) (SE.int .u64 1)), true), ((SE.cmp .lss (SE.ivar .i64 0) (SE.int .i64 0)).eqb (SE.cmp .lss (SE.ivar .i64 1) (SE.int .i64 0)), false), (SE.cmp .lss (SE.bin .mul .u64 (SE.ivar .u64 8) (SE.int .u64 2)) (SE.ivar .u64 3), false), (SE.cmp .eql (SE.ivar .u64 3) (SE.int .u64 0), false), (SE.cmp .lss (SE.int .u64 16777216) (SE.bin .quo .u64 (SE.ivar .u64 2) (SE.ivar .u64 3)), false), (SE.cmp .eql (SE.ivar .i64 1) (SE.int .i64 0), false)], true, [(.int .i32, SE.int .i32 0), (.int .i64, SE.int .i64 6)]), ([(SE.cmp .lss (SE.int .u64 2147483648) (SE.bin .add .u64 (SE.ivar .u64 7) (SE.int .u64 1)), false), ((SE.cmp .lss (SE.ivar .i64 0) (SE.int .i64 0)).eqb (SE.cmp .lss (SE.ivar .i64 1) (SE.int .i64 0)), false), (SE.cmp .lss (SE.bin .mul .u64 (SE.ivar .u64 8) (SE.int .u64 2)) (SE.ivar .u64 3), false), (SE.cmp .eql (SE.ivar .u64 3) (SE.int .u64 0), false), (SE.cmp .lss (SE.int .u64 16777216) (SE.bin .quo .u64 (SE.ivar .u64 2) (SE.ivar .u64 3)), false), (SE.cmp .eql (SE.ivar .i64 1) (SE.int .i64 0), false)], true, [(.int .i32, SE.conv .i32 (SE.bin .sub .i64 (SE.int .i64 0) (SE.conv .i64 (SE.bin .add .u64 (SE.ivar .u64 7) (SE.int .u64 1))))), (.int .i64, SE.int .i64 0)]), ([(SE.cmp .lss (SE.int .u64 2147483647) (SE.bin .add .u64 (SE.ivar .u64 7) (SE.int .u64 1)), true), ((SE.cmp .lss (SE.ivar .i64 0) (SE.int .i64 0)).eqb (SE.cmp .lss (SE.ivar .i64 1) (SE.int .i64 0)), true), (SE.cmp .lss (SE.bin .mul .u64 (SE.ivar .u64 8) (SE.int .u64 2)) (SE.ivar .u64 3), false), (SE.cmp .eql (SE.ivar .u64 3) (SE.int .u64 0), false), (SE.cmp .lss (SE.int .u64 16777216) (SE.bin .quo .u64 (SE.ivar .u64 2) (SE.ivar .u64 3)), false), (SE.cmp .eql (SE.ivar .i64 1) (SE.int .i64 0), false)], true, [(.int .i32, SE.int .i32 0), (.int .i64, SE.int .i64 6)]), ([(SE.cmp .lss (SE.int .u64 2147483647) (SE.bin .add .u64 (SE.ivar .u64 7) (SE.int .u64 1)), false), ((SE.cmp .lss (SE.ivar .i64 0) (SE.int .i64 0)).eqb (SE.cmp .lss (SE.ivar .i64 1) (SE.int .i64 0)), true), (SE.cmp .lss (SE.bin .mul .u64 (SE.ivar .u64 8) (SE.int .u64 2)) (SE.ivar .u64 3), false), (SE.cmp .eql (SE.ivar .u64 3) (SE.int .u64 0), false), (SE.cmp .lss (SE.int .u64 16777216) (SE.bin .quo .u64 (SE.ivar .u64 2) (SE.ivar .u64 3)), false), (SE.cmp .eql (SE.ivar .i64 1) (SE.int .i64 0), false)], true, [(.int .i32, SE.conv .i32 (SE.bin .add .u64 (SE.ivar .u64 7) (SE.int .u64 1))), (.int .i64, SE.int .i64 0)]), ([(SE.cmp .lss (SE.int .u64 2147483648) (SE.ivar .u64 7), true), ((SE.cmp .lss (SE.ivar .i64 0) (SE.int .i64 0)).eqb (SE.cmp .lss (SE.ivar .i64 1) (SE.int .i64 0)), false), (SE.cmp .lss (SE.bin .mul .u64 (SE.ivar .u64 8) (SE.int .u64 2)) (SE.ivar .u64 3), true), (SE.cmp .eql (SE.ivar .u64 3) (SE.int .u64 0), false), (SE.cmp .lss (SE.int .u64 16777216) (SE.bin .quo .u64 (SE.ivar .u64 2) (SE.ivar .u64 3)), false), (SE.cmp .eql (SE.ivar .i64 1) (SE.int .i64 0), false)], true, [(.int .i32, SE.int .i32 0), (.int .i64, SE.int .i64 6)]), ([(SE.cmp .lss (SE.int .u64 2147483648) (SE.ivar .u64 7), false), ((SE.cmp .lss (SE.ivar .i64 0) (SE.int .i64 0)).eqb (SE.cmp .lss (SE.ivar .i64 1) (SE.int .i64 0)), false), (SE.cmp .lss (SE.bin .mul .u64 (SE.ivar .u64 8) (SE.int .u64 2)) (SE.ivar .u64 3), true), (SE.cmp .eql (SE.ivar .u64 3) (SE.int .u64 0), false), (SE.cmp .lss (SE.int .u64 16777216) (SE.bin .quo .u64 (SE.ivar .u64 2) (SE.ivar .u64 3)), false), (SE.cmp .eql (SE.ivar .i64 1) (SE.int .i64 0), false)], true, [(.int .i32, SE.conv .i32 (SE.bin .sub .i64 (SE.int .i64 0) (SE.conv .i64 (SE.ivar .u64 7)))), (.int .i64, SE.int .i64 0)]), ([(SE.cmp .lss (SE.int .u64 2147483647) (SE.ivar .u64 7), true), ((SE.cmp .lss (SE.ivar .i64 0) (SE.int .i64 0)).eqb (SE.cmp .lss (SE.ivar .i64 1) (SE.int .i64 0)), true), (SE.cmp .lss (SE.bin .mul .u64 (SE.ivar .u64 8) (SE.int .u64 2)) (SE.ivar .u64 3), true), (SE.cmp .eql (SE.ivar .u64 3) (SE.int .u64 0), false), (SE.cmp .lss (SE.int .u64 16777216) (SE.bin .quo .u64 (SE.ivar .u64 2) (SE.ivar .u64 3)), false), (SE.cmp .eql (SE.ivar .i64 1) (SE.int .i64 0), false)], true, [(.int .i32, SE.int .i32 0), (.int .i64, SE.int .i64 6)]), ([(SE.cmp .lss (SE.int .u64 2147483647) (SE.ivar .u64 7), false), ((SE.cmp .lss (SE.ivar .i64 0) (SE.int .i64 0)).eqb (SE.cmp .lss (SE.ivar .i64 1) (SE.int .i64 0)), true), (SE.cmp .lss (SE.bin .mul .u64 (SE.ivar .u64 8) (SE.int .u64 2)) (SE.ivar .u64 3), true), (SE.cmp .eql (SE.ivar .u64 3) (SE.int .u64 0), false), (SE.cmp .lss (SE.int .u64 16777216) (SE.bin .quo .u64 (SE.ivar .u64 2) (SE.ivar .u64 3)), false), (SE.cmp .eql (SE.ivar .i64 1) (SE.int .i64 0), false)], true, [(.int .i32, SE.conv .i32 (SE.ivar .u64 7)), (.int .i64, SE.int .i64 0)])]

theorem run_Fa (r : Nat → Value) : runFa r = some MFa := by kernel_rfl
theorem run_Fb (r : Nat → Value) : runFb r = some MFb := by kernel_rfl
def pcZ : PC := addPC (.cmp .eql (.ivar .i64 1) (.int .i64 0)) true []
def MFz : List (PC × Bool × List (STy × SE)) := [([(.cmp .eql (.ivar .i64 1) (.int .i64 0), true)], true, [(.int .i32, .int .i32 0), (.int .i64, .int .i64 2)])]
theorem run_Fz (r : Nat → Value) : outsF (callF kn0 Tryd.prog (tb.atS r noSp noLp) 300 300 pcZ 21 [iv 0, iv 1] H0) = some MFz := by kernel_rfl

theorem quo_num {a b : Int} (h : InF a b) (k : Nat) : (SE.bin .quo .u64 (.ivar .u64 2) (.ivar .u64 3)).num (rhoF a b k) = ab a / ab b := by
  have hb := h.abB
  have ha := h.abA
  rw [n_quo, nF2 h, nF3 h, if_neg (by omega), Int.tdiv_eq_ediv_of_nonneg ha.1]
  refine wid_u64 _ (Int.ediv_nonneg ha.1 (by omega)) ?_
  have : ab a / ab b ≤ ab a := Int.ediv_le_self _ ha.1
  omega
theorem pcF_ok {a b : Int} (h : InF a b) (k : Nat) : pcF.holds (rhoF a b k) := addPC_ok (PC.holds_nil _) (by
  rw [t_eql, nF1 h, n_int]
  simpa using h.b0)
theorem args2 (ρ : Nat → Value) {a b : Int} (h0 : (SE.ivar .i64 0).num ρ = a) (h1 : (SE.ivar .i64 1).num ρ = b) : ([iv 0, iv 1].map (V.at1 ρ)).toArray = #[.int .i64 a, .int .i64 b] := by
  show #[Value.int .i64 ((SE.ivar .i64 0).num ρ), Value.int .i64 ((SE.ivar .i64 1).num ρ)] = _
  rw [h0, h1]

/-- **The reference's FromRatio.** -/
theorem fr_fnc {a b : Int} (h : InF a b) : Fnc Tryd.prog tb.glob 21 #[.int .i64 a, .int .i64 b] (pairV (fitQ (negAB a b) (rdQ (ab a) (ab b)))) := by
  have hb := h.abB
  have ha := h.abA
  by_cases hq : ab a / ab b ≤ 16777216
  · have hp : (pcF2 false).holds (rhoF a b 0) := addPC_ok (pcF_ok h 0) (by
      rw [t_gtr, quo_num h, n_int]
      simpa using hq)
    have := fnc_run (tb := tbF) tbF_ok tbF_wf (specL_F h hq) (kn := kn0) (n0 := 300) (n1 := 300) kn_none hp (f := 21) (args := [iv 0, iv 1]) (by rfl) (run_Fb _) (res := pairV (fitQ (negAB a b) (rdQ (ab a) (ab b)))) (by
      have i8 : InvF a b 8 := by
        have : ∀ k, k ≤ 8 → InvF a b k := fun k => by
          induction k with
          | zero => intro _; exact InvF.start hq
          | succ k ih => intro hk; exact InvF.next h (ih (by omega)) (by omega)
        exact this 8 (by omega)
      have e7 : (SE.ivar .u64 7).num (rhoF a b 0) = qF (ab a) (ab b) 8 := wid_u64 _ (qF_0 h 8) (by have := InvF.q i8; omega)
      have q7 := InvF.q i8
      have q70 := qF_0 h 8
      have r8 := rF_b h 8
      have e9 : rdQ (ab a) (ab b) = if ab b ≤ 2 * rF (ab a) (ab b) 8 then qF (ab a) (ab b) 8 + 1 else qF (ab a) (ab b) 8 := rfl
      rw [e9]
      unfold MFb
      simp only [all_cons, all_nil, h_cons, h_nil, t_lss, t_eql, t_eqb, n_mul, n_int, n_add, n_conv, n_sub, nF0 h, nF1 h, nF3 h, nF8 h, e7, quo_num h, and_true, reduceIte, Bool.false_eq_true, if_false, ret2]
      generalize qF (ab a) (ab b) 8 = q at *
      generalize rF (ab a) (ab b) 8 = r at *
      generalize ab b = y at *
      clear e7 e9
      rw [wid_u64 (r * 2) (by omega) (by omega), wid_u64 (q + 1) (by omega) (by omega)]
      unfold fitQ negAB
      refine ⟨?_, ?_, ?_, ?_, ?_, ?_, ?_, ?_⟩ <;> rintro ⟨g1, g2, g3, -⟩ <;> refine pair_eq ?_ ?_
      all_goals (by_cases ha0 : a < 0 <;> by_cases hb0 : b < 0 <;> simp only [ha0, hb0, true_iff, false_iff, iff_true, iff_false, Int.not_le, Int.not_lt, not_true_eq_false, not_false_eq_true] at g2 <;> simp only [ha0, hb0, decide_true, decide_false, bne_self_eq_false, Bool.true_bne, Bool.false_bne, Bool.not_false, Bool.not_true, reduceIte, Bool.false_eq_true, if_false])
      all_goals first
        | (exfalso; omega)
        | skip
      all_goals (repeat' split)
      all_goals first
        | (exfalso; omega)
        | rfl
        | exact wid_i32 _ (by omega) (by omega)
        | (simp (disch := omega) only [wid_i64, wid_i32, wid_u64]; omega))
    rw [args2 (rhoF a b 0) (nF0 h 0) (nF1 h 0)] at this
    exact this
  · have hp : (pcF2 true).holds (rhoF a b 0) := addPC_ok (pcF_ok h 0) (by
      rw [t_gtr, quo_num h, n_int]
      simp
      omega)
    have := fnc_run (tb := tbF) tbF_ok tbF_wf (spec_F h 0) (kn := kn0) (n0 := 300) (n1 := 300) kn_none hp (f := 21) (args := [iv 0, iv 1]) (by rfl) (run_Fa _) (res := pairV (fitQ (negAB a b) (rdQ (ab a) (ab b)))) (by
      have hbig := rdQ_big ha.1 hb.1 (by omega)
      unfold MFa
      simp only [all_cons, all_nil, and_true, ret2, n_int]
      intro _
      unfold fitQ
      split <;> rw [if_pos (by omega)])
    rw [args2 (rhoF a b 0) (nF0 h 0) (nF1 h 0)] at this
    exact this
end
end Go.Proofs.YtkjfpjammlihpaaDoor
