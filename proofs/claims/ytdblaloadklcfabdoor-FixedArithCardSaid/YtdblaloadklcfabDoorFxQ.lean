/- The program's ratio, as a contract. -/
import Derived.Test.YtdblaloadklcfabDoorFxK
set_option linter.unusedVariables false
set_option linter.unusedSimpArgs false
namespace Go.Proofs.YtdblaloadklcfabDoor
open Go.Sx Go.ChangeShapes Go.WideShapes Go.ChangeAt Go.RowKit
noncomputable section

def kv (k : Int) : V := .val (.int .u64 k)
def runMul (k : Int) (r : Nat → Value) := outsF (callF kn0 Tryd.prog (tb.atS r noSp noLp) 300 300 [] 43 [uv 0, kv k] H0)
def eSzA : Entry := { f := 28, args := [iv 0], res := uv 2 }
def eSzB : Entry := { f := 28, args := [iv 1], res := uv 3 }
def eMul (k : Int) : Entry := { f := 43, args := [uv 2, kv k], res := .tuple [uv 4, uv 5] }
def eDiv : Entry := { f := 44, args := [uv 4, uv 5, uv 3], res := .tuple [uv 6, uv 7] }
def pcR (t : Bool) : PC := addPC (.cmp .geq (.ivar .u64 4) (.ivar .u64 3)) t []
def runRb (k : Int) (r : Nat → Value) := outsF (callF kn0 Tryd.prog (tb.atS r (spOf [eSzA, eSzB, eMul k]) noLp) 300 300 (pcR true) 39 [iv 0, iv 1, kv k] H0)
def runRa (k : Int) (r : Nat → Value) := outsF (callF kn0 Tryd.prog (tb.atS r (spOf [eSzA, eSzB, eMul k, eDiv]) noLp) 300 300 (pcR false) 39 [iv 0, iv 1, kv k] H0)

def eHi (k : Int) : SE := .bin .add .u64 (.bin .add .u64 (.bin .mul .u64 (.int .u64 0) (.bin .shr .u64 (.ivar .u64 0) (.int .u64 32))) (.bin .shr .u64 (.bin .add .u64 (.bin .mul .u64 (.int .u64 k) (.bin .shr .u64 (.ivar .u64 0) (.int .u64 32))) (.bin .shr .u64 (.bin .mul .u64 (.int .u64 k) (.bin .and .u64 (.ivar .u64 0) (.int .u64 4294967295))) (.int .u64 32))) (.int .u64 32))) (.bin .shr .u64 (.bin .add .u64 (.bin .mul .u64 (.int .u64 0) (.bin .and .u64 (.ivar .u64 0) (.int .u64 4294967295))) (.bin .and .u64 (.bin .add .u64 (.bin .mul .u64 (.int .u64 k) (.bin .shr .u64 (.ivar .u64 0) (.int .u64 32))) (.bin .shr .u64 (.bin .mul .u64 (.int .u64 k) (.bin .and .u64 (.ivar .u64 0) (.int .u64 4294967295))) (.int .u64 32))) (.int .u64 4294967295))) (.int .u64 32))
def MMul (k : Int) : List (PC × Bool × List (STy × SE)) := [([], true, [(.int .u64, eHi k), (.int .u64, .bin .mul .u64 (.ivar .u64 0) (.int .u64 k))])]
theorem run_Mul {k : Int} (hk : k = 1 ∨ k = 256) (r : Nat → Value) : runMul k r = some (MMul k) := by
  rcases hk with rfl | rfl <;> kernel_rfl
theorem known43 : ∃ fn, Tryd.prog.funcs[43]? = some fn ∧ (fn.name == "runtime.NumGoroutine") = false ∧ fn.body.isNone = false := ⟨Tryd.f43, Tryd.func43, by kernel_rfl, by kernel_rfl⟩
theorem known44 : ∃ fn, Tryd.prog.funcs[44]? = some fn ∧ (fn.name == "runtime.NumGoroutine") = false ∧ fn.body.isNone = false := ⟨Tryd.f44, Tryd.func44, by kernel_rfl, by kernel_rfl⟩
theorem known28 : ∃ fn, Tryd.prog.funcs[28]? = some fn ∧ (fn.name == "runtime.NumGoroutine") = false ∧ fn.body.isNone = false := ⟨Tryd.f28, Tryd.func28, by kernel_rfl, by kernel_rfl⟩
/-- math/bits.Mul64 by 1 or 256. -/
theorem mul_fnc {k : Int} (hk : k = 1 ∨ k = 256) {x : Int} (h0 : 0 ≤ x) (h1 : x < 18446744073709551616) : Fnc Tryd.prog tb.glob 43 #[.int .u64 x, .int .u64 k] (wordsV (x * k / 18446744073709551616) (x * k % 18446744073709551616)) := by
  have n0 : (SE.ivar .u64 0).num (rho3 x 0 0) = x := wid_u64 _ h0 (by omega)
  have := fnc_run tb_ok tb_wf (base_ok (rho3 x 0 0)) (kn := kn0) (n0 := 300) (n1 := 300) kn_none (pc := []) (PC.holds_nil _) (f := 43) (args := [uv 0, kv k]) (by rfl) (run_Mul hk _) (res := wordsV (x * k / 18446744073709551616) (x * k % 18446744073709551616)) (by
    unfold MMul
    simp only [all_cons, all_nil, and_true, retU2]
    intro _
    unfold eHi
    simp only [n_add, n_mul, n_shr, n_and, n_int, m_32, n0, w_u64]
    rcases hk with rfl | rfl
    · rw [show ((4294967296 : Int)) = 4294967296 from rfl]
      congr 1 <;> simp [IntKind.bits] <;> omega
    · congr 1 <;> simp [IntKind.bits] <;> omega)
  have e : ([uv 0, kv k].map (V.at1 (rho3 x 0 0))).toArray = #[.int .u64 x, .int .u64 k] := by
    show #[Value.int .u64 ((SE.ivar .u64 0).num (rho3 x 0 0)), Value.int .u64 k] = _
    rw [n0]
  rwa [e] at this

/-- A quotient, rounded. -/
def rdN (n y : Int) : Int := if y ≤ 2 * (n % y) then n / y + 1 else n / y
def rhoR (a b k : Int) (n : Nat) : Value :=
  match n with
  | 0 => .int .i64 a
  | 1 => .int .i64 b
  | 2 => .int .u64 (ab a)
  | 3 => .int .u64 (ab b)
  | 4 => .int .u64 (ab a * k / 18446744073709551616)
  | 5 => .int .u64 (ab a * k % 18446744073709551616)
  | 6 => .int .u64 (ab a * k / ab b)
  | _ => .int .u64 (ab a * k % ab b)
section
variable {a b k : Int} (h : InF a b) (hk : k = 1 ∨ k = 256)
include h hk
theorem nk_b : 0 ≤ ab a * k ∧ ab a * k ≤ 2361183241434822606848 := by
  have := h.abA
  rcases hk with rfl | rfl <;> omega
omit hk in
theorem nR0 : (SE.ivar .i64 0).num (rhoR a b k) = a := wid_i64 _ h.al h.ah
omit hk in
theorem nR1 : (SE.ivar .i64 1).num (rhoR a b k) = b := wid_i64 _ h.bl h.bh
omit hk in
theorem nR2 : (SE.ivar .u64 2).num (rhoR a b k) = ab a := wid_u64 _ h.abA.1 (by have := h.abA; omega)
omit hk in
theorem nR3 : (SE.ivar .u64 3).num (rhoR a b k) = ab b := wid_u64 _ (by have := h.abB; omega) (by have := h.abB; omega)
theorem nR4 : (SE.ivar .u64 4).num (rhoR a b k) = ab a * k / 18446744073709551616 := wid_u64 _ (by have := nk_b h hk; omega) (by have := nk_b h hk; omega)
omit h hk in
theorem nR5 : (SE.ivar .u64 5).num (rhoR a b k) = ab a * k % 18446744073709551616 := wid_u64 _ (by omega) (by omega)
theorem nR6 (hlt : ab a * k / 18446744073709551616 < ab b) : (SE.ivar .u64 6).num (rhoR a b k) = ab a * k / ab b := by
  have hn := nk_b h hk
  have hb := h.abB
  refine wid_u64 _ (Int.ediv_nonneg hn.1 (by omega)) ?_
  have : ab a * k / ab b < 18446744073709551616 := by
    rw [Int.ediv_lt_iff_lt_mul hb.1]
    omega
  omega
omit hk in
theorem nR7 : (SE.ivar .u64 7).num (rhoR a b k) = ab a * k % ab b := wid_u64 _ (Int.emod_nonneg _ (by have := h.abB; omega)) (by have := Int.emod_lt_of_pos (ab a * k) h.abB.1; have := h.abB; omega)
theorem entries_R0 : ∀ e, e ∈ [eSzA, eSzB, eMul k] → EntryOk Tryd.prog tb.glob (rhoR a b k) e := by
  rw [all_cons, all_cons, all_cons]
  refine ⟨⟨known28, rfl, rfl, fun q hq => by simp [eSzA] at hq, ?_⟩, ⟨known28, rfl, rfl, fun q hq => by simp [eSzB] at hq, ?_⟩, ⟨known43, rfl, rfl, fun q hq => by simp [eMul] at hq, ?_⟩, fun _ h => by simp at h⟩
  · have := abs_fnc (.inr rfl) h.al h.ah
    show Fnc _ _ 28 #[Value.int .i64 ((SE.ivar .i64 0).num (rhoR a b k))] (Value.int .u64 ((SE.ivar .u64 2).num (rhoR a b k)))
    rw [nR0 h, nR2 h]
    exact this
  · have := abs_fnc (.inr rfl) h.bl h.bh
    show Fnc _ _ 28 #[Value.int .i64 ((SE.ivar .i64 1).num (rhoR a b k))] (Value.int .u64 ((SE.ivar .u64 3).num (rhoR a b k)))
    rw [nR1 h, nR3 h]
    exact this
  · have := mul_fnc hk h.abA.1 (show ab a < 18446744073709551616 by have := h.abA; omega)
    show Fnc _ _ 43 #[Value.int .u64 ((SE.ivar .u64 2).num (rhoR a b k)), Value.int .u64 k] (wordsV ((SE.ivar .u64 4).num (rhoR a b k)) ((SE.ivar .u64 5).num (rhoR a b k)))
    rw [nR2 h, nR4 h hk, nR5]
    exact this
theorem entries_R1 (hlt : ab a * k / 18446744073709551616 < ab b) : ∀ e, e ∈ [eSzA, eSzB, eMul k, eDiv] → EntryOk Tryd.prog tb.glob (rhoR a b k) e := by
  have h0 := entries_R0 h hk
  rw [all_cons, all_cons, all_cons] at h0 ⊢
  rw [all_cons]
  refine ⟨h0.1, h0.2.1, h0.2.2.1, ⟨known44, rfl, rfl, fun q hq => by simp [eDiv] at hq, ?_⟩, fun _ h => by simp at h⟩
  have hn := nk_b h hk
  have := div_fnc (hi := ab a * k / 18446744073709551616) (lo := ab a * k % 18446744073709551616) (d := ab b) (by omega) hlt (by have := h.abB; omega) (by omega) (by omega)
  rw [show ab a * k / 18446744073709551616 * 18446744073709551616 + ab a * k % 18446744073709551616 = ab a * k by omega] at this
  show Fnc _ _ 44 #[Value.int .u64 ((SE.ivar .u64 4).num (rhoR a b k)), Value.int .u64 ((SE.ivar .u64 5).num (rhoR a b k)), Value.int .u64 ((SE.ivar .u64 3).num (rhoR a b k))] (wordsV ((SE.ivar .u64 6).num (rhoR a b k)) ((SE.ivar .u64 7).num (rhoR a b k)))
  rw [nR3 h, nR4 h hk, nR5, nR6 h hk hlt, nR7 h]
  exact this
end
def MRb : List (PC × Bool × List (STy × SE)) := [([(.cmp .lss (.ivar .u64 4) (.ivar .u64 3), false)], true, [(.int .i32, .int .i32 0), (.int .i64, .int .i64 6)])]
def MRa : List (PC × Bool × List (STy × SE)) := [([(.cmp .eql (.bin .add .u64 (.ivar .u64 6) (.int .u64 1)) (.int .u64 0), true), (.cmp .lss (.ivar .u64 7) (.bin .sub .u64 (.ivar .u64 3) (.ivar .u64 7)), false), (.cmp .lss (.ivar .u64 4) (.ivar .u64 3), true)], true, [(.int .i32, .int .i32 0), (.int .i64, .int .i64 6)]), ([(.cmp .lss (.int .u64 2147483648) (.bin .add .u64 (.ivar .u64 6) (.int .u64 1)), false), (.eqb (.cmp .lss (.ivar .i64 0) (.int .i64 0)) (.cmp .lss (.ivar .i64 1) (.int .i64 0)), false), (.cmp .eql (.bin .add .u64 (.ivar .u64 6) (.int .u64 1)) (.int .u64 0), false), (.cmp .lss (.ivar .u64 7) (.bin .sub .u64 (.ivar .u64 3) (.ivar .u64 7)), false), (.cmp .lss (.ivar .u64 4) (.ivar .u64 3), true)], true, [(.int .i32, .conv .i32 (.bin .sub .i64 (.int .i64 0) (.conv .i64 (.bin .add .u64 (.ivar .u64 6) (.int .u64 1))))), (.int .i64, .int .i64 0)]), ([(.cmp .lss (.int .u64 2147483648) (.bin .add .u64 (.ivar .u64 6) (.int .u64 1)), true), (.eqb (.cmp .lss (.ivar .i64 0) (.int .i64 0)) (.cmp .lss (.ivar .i64 1) (.int .i64 0)), false), (.cmp .eql (.bin .add .u64 (.ivar .u64 6) (.int .u64 1)) (.int .u64 0), false), (.cmp .lss (.ivar .u64 7) (.bin .sub .u64 (.ivar .u64 3) (.ivar .u64 7)), false), (.cmp .lss (.ivar .u64 4) (.ivar .u64 3), true)], true, [(.int .i32, .int .i32 0), (.int .i64, .int .i64 6)]), ([(.cmp .lss (.int .u64 2147483647) (.bin .add .u64 (.ivar .u64 6) (.int .u64 1)), false), (.eqb (.cmp .lss (.ivar .i64 0) (.int .i64 0)) (.cmp .lss (.ivar .i64 1) (.int .i64 0)), true), (.cmp .eql (.bin .add .u64 (.ivar .u64 6) (.int .u64 1)) (.int .u64 0), false), (.cmp .lss (.ivar .u64 7) (.bin .sub .u64 (.ivar .u64 3) (.ivar .u64 7)), false), (.cmp .lss (.ivar .u64 4) (.ivar .u64 3), true)], true, [(.int .i32, .conv .i32 (.bin .add .u64 (.ivar .u64 6) (.int .u64 1))), (.int .i64, .int .i64 0)]), ([(.cmp .lss (.int .u64 2147483647) (.bin .add .u64 (.ivar .u64 6) (.int .u64 1)), true), (.eqb (.cmp .lss (.ivar .i64 0) (.int .i64 0)) (.cmp .lss (.ivar .i64 1) (.int .i64 0)), true), (.cmp .eql (.bin .add .u64 (.ivar .u64 6) (.int .u64 1)) (.int .u64 0), false), (.cmp .lss (.ivar .u64 7) (.bin .sub .u64 (.ivar .u64 3) (.ivar .u64 7)), false), (.cmp .lss (.ivar .u64 4) (.ivar .u64 3), true)], true, [(.int .i32, .int .i32 0), (.int .i64, .int .i64 6)]), ([(.cmp .lss (.int .u64 2147483648) (.ivar .u64 6), false), (.eqb (.cmp .lss (.ivar .i64 0) (.int .i64 0)) (.cmp .lss (.ivar .i64 1) (.int .i64 0)), false), (.cmp .lss (.ivar .u64 7) (.bin .sub .u64 (.ivar .u64 3) (.ivar .u64 7)), true), (.cmp .lss (.ivar .u64 4) (.ivar .u64 3), true)], true, [(.int .i32, .conv .i32 (.bin .sub .i64 (.int .i64 0) (.conv .i64 (.ivar .u64 6)))), (.int .i64, .int .i64 0)]), ([(.cmp .lss (.int .u64 2147483648) (.ivar .u64 6), true), (.eqb (.cmp .lss (.ivar .i64 0) (.int .i64 0)) (.cmp .lss (.ivar .i64 1) (.int .i64 0)), false), (.cmp .lss (.ivar .u64 7) (.bin .sub .u64 (.ivar .u64 3) (.ivar .u64 7)), true), (.cmp .lss (.ivar .u64 4) (.ivar .u64 3), true)], true, [(.int .i32, .int .i32 0), (.int .i64, .int .i64 6)]), ([(.cmp .lss (.int .u64 2147483647) (.ivar .u64 6), false), (.eqb (.cmp .lss (.ivar .i64 0) (.int .i64 0)) (.cmp .lss (.ivar .i64 1) (.int .i64 0)), true), (.cmp .lss (.ivar .u64 7) (.bin .sub .u64 (.ivar .u64 3) (.ivar .u64 7)), true), (.cmp .lss (.ivar .u64 4) (.ivar .u64 3), true)], true, [(.int .i32, .conv .i32 (.ivar .u64 6)), (.int .i64, .int .i64 0)]), ([(.cmp .lss (.int .u64 2147483647) (.ivar .u64 6), true), (.eqb (.cmp .lss (.ivar .i64 0) (.int .i64 0)) (.cmp .lss (.ivar .i64 1) (.int .i64 0)), true), (.cmp .lss (.ivar .u64 7) (.bin .sub .u64 (.ivar .u64 3) (.ivar .u64 7)), true), (.cmp .lss (.ivar .u64 4) (.ivar .u64 3), true)], true, [(.int .i32, .int .i32 0), (.int .i64, .int .i64 6)])]
theorem run_Rb {k : Int} (hk : k = 1 ∨ k = 256) (r : Nat → Value) : runRb k r = some MRb := by
  rcases hk with rfl | rfl <;> kernel_rfl
theorem run_Ra {k : Int} (hk : k = 1 ∨ k = 256) (r : Nat → Value) : runRa k r = some MRa := by
  rcases hk with rfl | rfl <;> kernel_rfl
theorem argsR {a b k : Int} (h : InF a b) : ([iv 0, iv 1, kv k].map (V.at1 (rhoR a b k))).toArray = #[.int .i64 a, .int .i64 b, .int .u64 k] := by
  show #[Value.int .i64 ((SE.ivar .i64 0).num (rhoR a b k)), Value.int .i64 ((SE.ivar .i64 1).num (rhoR a b k)), Value.int .u64 k] = _
  rw [nR0 h, nR1 h]
/-- **The program's ratio.** -/
theorem ratio_fnc {a b k : Int} (h : InF a b) (hk : k = 1 ∨ k = 256) : Fnc Tryd.prog tb.glob 39 #[.int .i64 a, .int .i64 b, .int .u64 k] (pairV (fitQ (negAB a b) (rdN (ab a * k) (ab b)))) := by
  have hb := h.abB
  have hn := nk_b h hk
  by_cases hlt : ab a * k / 18446744073709551616 < ab b
  · have hp : (pcR false).holds (rhoR a b k) := addPC_ok (PC.holds_nil _) (by
      rw [t_geq, nR4 h hk, nR3 h]
      simpa using hlt)
    have := fnc_run tb_ok tb_wf (spOf_ok (entries_R1 h hk hlt)) (kn := kn0) (n0 := 300) (n1 := 300) kn_none hp (f := 39) (args := [iv 0, iv 1, kv k]) (by rfl) (run_Ra hk _) (res := pairV (fitQ (negAB a b) (rdN (ab a * k) (ab b)))) (by
      have n6 := nR6 h hk hlt
      have q0 : 0 ≤ ab a * k / ab b := Int.ediv_nonneg hn.1 (by omega)
      have q1 : ab a * k / ab b < 18446744073709551616 := by
        rw [Int.ediv_lt_iff_lt_mul hb.1]
        omega
      have r0 := Int.emod_nonneg (ab a * k) (b := ab b) (by omega)
      have r1 := Int.emod_lt_of_pos (ab a * k) hb.1
      unfold MRa
      simp only [all_cons, all_nil, h_cons, h_nil, t_lss, t_eql, t_eqb, n_mul, n_int, n_add, n_conv, n_sub, nR0 h, nR1 h, nR3 h, nR4 h hk, n6, nR7 h, and_true, reduceIte, Bool.false_eq_true, if_false, ret2]
      clear n6 hp
      unfold rdN
      generalize ab a * k / ab b = q at *
      generalize ab a * k % ab b = r at *
      generalize ab a * k / 18446744073709551616 = hi at *
      generalize ab b = y at *
      rw [wid_u64 (y - r) (by omega) (by omega)]
      unfold fitQ negAB
      refine ⟨?_, ?_, ?_, ?_, ?_, ?_, ?_, ?_, ?_⟩
      · rintro ⟨g1, g2, -⟩
        rw [w_u64] at g1
        rw [if_pos (show y ≤ 2 * r by omega)]
        split <;> rw [if_pos (by omega)]
      · rintro ⟨g1, g2, g4, g3, -⟩
        have g5 : q + 1 < 18446744073709551616 := by
          rw [w_u64] at g4
          omega
        rw [wid_u64 (q + 1) (by omega) (by omega)] at g1
        rw [if_pos (show y ≤ 2 * r by omega)]
        rw [wid_u64 (q + 1) (by omega) (by omega)]
        by_cases ha0 : a < 0 <;> by_cases hb0 : b < 0 <;> simp only [ha0, hb0, true_iff, false_iff, iff_true, iff_false, Int.not_le, Int.not_lt, not_true_eq_false, not_false_eq_true] at g2 <;> simp only [ha0, hb0, decide_true, decide_false, bne_self_eq_false, Bool.true_bne, Bool.false_bne, Bool.not_false, Bool.not_true, reduceIte, Bool.false_eq_true, if_false]
        all_goals first
          | (exfalso; omega)
          | skip
        all_goals (rw [if_neg (by omega)]; refine pair_eq ?_ rfl)
        all_goals first
          | exact wid_i32 _ (by omega) (by omega)
          | (simp (disch := omega) only [wid_i64, wid_i32, wid_u64]; omega)
          | (simp (disch := omega) only [wid_i64, wid_i32, wid_u64])
      · rintro ⟨g1, g2, g4, g3, -⟩
        have g5 : q + 1 < 18446744073709551616 := by
          rw [w_u64] at g4
          omega
        rw [wid_u64 (q + 1) (by omega) (by omega)] at g1
        rw [if_pos (show y ≤ 2 * r by omega)]
        by_cases ha0 : a < 0 <;> by_cases hb0 : b < 0 <;> simp only [ha0, hb0, true_iff, false_iff, iff_true, iff_false, Int.not_le, Int.not_lt, not_true_eq_false, not_false_eq_true] at g2 <;> simp only [ha0, hb0, decide_true, decide_false, bne_self_eq_false, Bool.true_bne, Bool.false_bne, Bool.not_false, Bool.not_true, reduceIte, Bool.false_eq_true, if_false]
        all_goals first
          | (exfalso; omega)
          | skip
        all_goals (rw [if_pos (by omega)])
      · rintro ⟨g1, g2, g4, g3, -⟩
        have g5 : q + 1 < 18446744073709551616 := by
          rw [w_u64] at g4
          omega
        rw [wid_u64 (q + 1) (by omega) (by omega)] at g1
        rw [if_pos (show y ≤ 2 * r by omega)]
        rw [wid_u64 (q + 1) (by omega) (by omega)]
        by_cases ha0 : a < 0 <;> by_cases hb0 : b < 0 <;> simp only [ha0, hb0, true_iff, false_iff, iff_true, iff_false, Int.not_le, Int.not_lt, not_true_eq_false, not_false_eq_true] at g2 <;> simp only [ha0, hb0, decide_true, decide_false, bne_self_eq_false, Bool.true_bne, Bool.false_bne, Bool.not_false, Bool.not_true, reduceIte, Bool.false_eq_true, if_false]
        all_goals first
          | (exfalso; omega)
          | skip
        all_goals (rw [if_neg (by omega)]; refine pair_eq ?_ rfl)
        all_goals first
          | exact wid_i32 _ (by omega) (by omega)
          | (simp (disch := omega) only [wid_i64, wid_i32, wid_u64]; omega)
          | (simp (disch := omega) only [wid_i64, wid_i32, wid_u64])
      · rintro ⟨g1, g2, g4, g3, -⟩
        have g5 : q + 1 < 18446744073709551616 := by
          rw [w_u64] at g4
          omega
        rw [wid_u64 (q + 1) (by omega) (by omega)] at g1
        rw [if_pos (show y ≤ 2 * r by omega)]
        by_cases ha0 : a < 0 <;> by_cases hb0 : b < 0 <;> simp only [ha0, hb0, true_iff, false_iff, iff_true, iff_false, Int.not_le, Int.not_lt, not_true_eq_false, not_false_eq_true] at g2 <;> simp only [ha0, hb0, decide_true, decide_false, bne_self_eq_false, Bool.true_bne, Bool.false_bne, Bool.not_false, Bool.not_true, reduceIte, Bool.false_eq_true, if_false]
        all_goals first
          | (exfalso; omega)
          | skip
        all_goals (rw [if_pos (by omega)])
      · rintro ⟨g1, g2, g3, -⟩
        rw [if_neg (show ¬ y ≤ 2 * r by omega)]
        by_cases ha0 : a < 0 <;> by_cases hb0 : b < 0 <;> simp only [ha0, hb0, true_iff, false_iff, iff_true, iff_false, Int.not_le, Int.not_lt, not_true_eq_false, not_false_eq_true] at g2 <;> simp only [ha0, hb0, decide_true, decide_false, bne_self_eq_false, Bool.true_bne, Bool.false_bne, Bool.not_false, Bool.not_true, reduceIte, Bool.false_eq_true, if_false]
        all_goals first
          | (exfalso; omega)
          | skip
        all_goals (rw [if_neg (by omega)]; refine pair_eq ?_ rfl)
        all_goals first
          | exact wid_i32 _ (by omega) (by omega)
          | (simp (disch := omega) only [wid_i64, wid_i32, wid_u64]; omega)
          | (simp (disch := omega) only [wid_i64, wid_i32, wid_u64])
      · rintro ⟨g1, g2, g3, -⟩
        rw [if_neg (show ¬ y ≤ 2 * r by omega)]
        by_cases ha0 : a < 0 <;> by_cases hb0 : b < 0 <;> simp only [ha0, hb0, true_iff, false_iff, iff_true, iff_false, Int.not_le, Int.not_lt, not_true_eq_false, not_false_eq_true] at g2 <;> simp only [ha0, hb0, decide_true, decide_false, bne_self_eq_false, Bool.true_bne, Bool.false_bne, Bool.not_false, Bool.not_true, reduceIte, Bool.false_eq_true, if_false]
        all_goals first
          | (exfalso; omega)
          | skip
        all_goals (rw [if_pos (by omega)])
      · rintro ⟨g1, g2, g3, -⟩
        rw [if_neg (show ¬ y ≤ 2 * r by omega)]
        by_cases ha0 : a < 0 <;> by_cases hb0 : b < 0 <;> simp only [ha0, hb0, true_iff, false_iff, iff_true, iff_false, Int.not_le, Int.not_lt, not_true_eq_false, not_false_eq_true] at g2 <;> simp only [ha0, hb0, decide_true, decide_false, bne_self_eq_false, Bool.true_bne, Bool.false_bne, Bool.not_false, Bool.not_true, reduceIte, Bool.false_eq_true, if_false]
        all_goals first
          | (exfalso; omega)
          | skip
        all_goals (rw [if_neg (by omega)]; refine pair_eq ?_ rfl)
        all_goals first
          | exact wid_i32 _ (by omega) (by omega)
          | (simp (disch := omega) only [wid_i64, wid_i32, wid_u64]; omega)
          | (simp (disch := omega) only [wid_i64, wid_i32, wid_u64])
      · rintro ⟨g1, g2, g3, -⟩
        rw [if_neg (show ¬ y ≤ 2 * r by omega)]
        by_cases ha0 : a < 0 <;> by_cases hb0 : b < 0 <;> simp only [ha0, hb0, true_iff, false_iff, iff_true, iff_false, Int.not_le, Int.not_lt, not_true_eq_false, not_false_eq_true] at g2 <;> simp only [ha0, hb0, decide_true, decide_false, bne_self_eq_false, Bool.true_bne, Bool.false_bne, Bool.not_false, Bool.not_true, reduceIte, Bool.false_eq_true, if_false]
        all_goals first
          | (exfalso; omega)
          | skip
        all_goals (rw [if_pos (by omega)]))
    rw [argsR h] at this
    exact this
  · have hp : (pcR true).holds (rhoR a b k) := addPC_ok (PC.holds_nil _) (by
      rw [t_geq, nR4 h hk, nR3 h]
      simp
      omega)
    have := fnc_run tb_ok tb_wf (spOf_ok (entries_R0 h hk)) (kn := kn0) (n0 := 300) (n1 := 300) kn_none hp (f := 39) (args := [iv 0, iv 1, kv k]) (by rfl) (run_Rb hk _) (res := pairV (fitQ (negAB a b) (rdN (ab a * k) (ab b)))) (by
      unfold MRb
      simp only [all_cons, all_nil, and_true, ret2, n_int]
      intro _
      have hq : 18446744073709551616 ≤ ab a * k / ab b := by
        rw [Int.le_ediv_iff_mul_le hb.1]
        omega
      have hbig : 18446744073709551616 ≤ rdN (ab a * k) (ab b) := by unfold rdN; split <;> omega
      unfold fitQ
      split <;> rw [if_pos (by omega)])
    rw [argsR h] at this
    exact this
end
end Go.Proofs.YtdblaloadklcfabDoor
