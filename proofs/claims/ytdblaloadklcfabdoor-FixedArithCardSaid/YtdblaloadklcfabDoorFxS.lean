/- The reference's Add and Mul, as contracts. -/
import Derived.Test.YtdblaloadklcfabDoorFxQ
set_option linter.unusedVariables false
set_option linter.unusedSimpArgs false
namespace Go.Proofs.YtdblaloadklcfabDoor
open Go.Sx Go.ChangeShapes Go.WideShapes Go.ChangeAt Go.RowKit
noncomputable section

def jv (n : Nat) : V := .sym (.int .i32) (.ivar .i32 n)
def c0 : SE := .conv .i64 (.ivar .i32 0)
def c1 : SE := .conv .i64 (.ivar .i32 1)
def is (e : SE) : V := .sym (.int .i64) e
def eSum : SE := .bin .add .i64 c0 c1
def eProd : SE := .bin .mul .i64 c0 c1
def eAb0 : Entry := { f := 35, args := [is c0], res := uv 8 }
def eAb1 : Entry := { f := 35, args := [is c1], res := uv 9 }
def eAbS : Entry := { f := 35, args := [is eSum], res := uv 10 }
def runAdd (r : Nat → Value) := outsF (callF kn0 Tryd.prog (tb.atS r (spOf [eAbS]) noLp) 300 300 [] 23 [jv 0, jv 1] H0)
def runMu (r : Nat → Value) := outsF (callF kn0 Tryd.prog (tb.atS r (spOf [eAb0, eAb1]) noLp) 300 300 [] 25 [jv 0, jv 1] H0)
def MAdd : List (PC × Bool × List (STy × SE)) := [([(.cmp .lss (.int .u64 2147483648) (.ivar .u64 10), true), (.cmp .lss (.bin .add .i64 c0 c1) (.int .i64 0), true)], true, [(.int .i32, .int .i32 0), (.int .i64, .int .i64 6)]), ([(.cmp .lss (.int .u64 2147483648) (.ivar .u64 10), false), (.cmp .lss (.bin .add .i64 c0 c1) (.int .i64 0), true)], true, [(.int .i32, .conv .i32 (.bin .sub .i64 (.int .i64 0) (.conv .i64 (.ivar .u64 10)))), (.int .i64, .int .i64 0)]), ([(.cmp .lss (.int .u64 2147483647) (.ivar .u64 10), true), (.cmp .lss (.bin .add .i64 c0 c1) (.int .i64 0), false)], true, [(.int .i32, .int .i32 0), (.int .i64, .int .i64 6)]), ([(.cmp .lss (.int .u64 2147483647) (.ivar .u64 10), false), (.cmp .lss (.bin .add .i64 c0 c1) (.int .i64 0), false)], true, [(.int .i32, .conv .i32 (.ivar .u64 10)), (.int .i64, .int .i64 0)])]
def MMu : List (PC × Bool × List (STy × SE)) := [([(.cmp .lss (.int .u64 2147483648) (.bin .quo .u64 (.bin .add .u64 (.bin .mul .u64 (.ivar .u64 8) (.ivar .u64 9)) (.int .u64 128)) (.int .u64 256)), true), (.eqb (.cmp .lss (.ivar .i32 0) (.int .i32 0)) (.cmp .lss (.ivar .i32 1) (.int .i32 0)), false)], true, [(.int .i32, .int .i32 0), (.int .i64, .int .i64 6)]), ([(.cmp .lss (.int .u64 2147483648) (.bin .quo .u64 (.bin .add .u64 (.bin .mul .u64 (.ivar .u64 8) (.ivar .u64 9)) (.int .u64 128)) (.int .u64 256)), false), (.eqb (.cmp .lss (.ivar .i32 0) (.int .i32 0)) (.cmp .lss (.ivar .i32 1) (.int .i32 0)), false)], true, [(.int .i32, .conv .i32 (.bin .sub .i64 (.int .i64 0) (.conv .i64 (.bin .quo .u64 (.bin .add .u64 (.bin .mul .u64 (.ivar .u64 8) (.ivar .u64 9)) (.int .u64 128)) (.int .u64 256))))), (.int .i64, .int .i64 0)]), ([(.cmp .lss (.int .u64 2147483647) (.bin .quo .u64 (.bin .add .u64 (.bin .mul .u64 (.ivar .u64 8) (.ivar .u64 9)) (.int .u64 128)) (.int .u64 256)), true), (.eqb (.cmp .lss (.ivar .i32 0) (.int .i32 0)) (.cmp .lss (.ivar .i32 1) (.int .i32 0)), true)], true, [(.int .i32, .int .i32 0), (.int .i64, .int .i64 6)]), ([(.cmp .lss (.int .u64 2147483647) (.bin .quo .u64 (.bin .add .u64 (.bin .mul .u64 (.ivar .u64 8) (.ivar .u64 9)) (.int .u64 128)) (.int .u64 256)), false), (.eqb (.cmp .lss (.ivar .i32 0) (.int .i32 0)) (.cmp .lss (.ivar .i32 1) (.int .i32 0)), true)], true, [(.int .i32, .conv .i32 (.bin .quo .u64 (.bin .add .u64 (.bin .mul .u64 (.ivar .u64 8) (.ivar .u64 9)) (.int .u64 128)) (.int .u64 256))), (.int .i64, .int .i64 0)])]

theorem run_Add (r : Nat → Value) : runAdd r = some MAdd := by kernel_rfl
theorem run_Mu (r : Nat → Value) : runMu r = some MMu := by kernel_rfl
theorem known23 : ∃ fn, Tryd.prog.funcs[23]? = some fn ∧ (fn.name == "runtime.NumGoroutine") = false ∧ fn.body.isNone = false := ⟨Tryd.f23, Tryd.func23, by kernel_rfl, by kernel_rfl⟩
theorem known25 : ∃ fn, Tryd.prog.funcs[25]? = some fn ∧ (fn.name == "runtime.NumGoroutine") = false ∧ fn.body.isNone = false := ⟨Tryd.f25, Tryd.func25, by kernel_rfl, by kernel_rfl⟩
theorem known39 : ∃ fn, Tryd.prog.funcs[39]? = some fn ∧ (fn.name == "runtime.NumGoroutine") = false ∧ fn.body.isNone = false := ⟨Tryd.f39, Tryd.func39, by kernel_rfl, by kernel_rfl⟩
theorem known21 : ∃ fn, Tryd.prog.funcs[21]? = some fn ∧ (fn.name == "runtime.NumGoroutine") = false ∧ fn.body.isNone = false := ⟨Tryd.f21, Tryd.func21, by kernel_rfl, by kernel_rfl⟩

/-- Two numbers of 32 bits. -/
structure In32 (a b : Int) : Prop where
  al : -2147483648 ≤ a
  ah : a ≤ 2147483647
  bl : -2147483648 ≤ b
  bh : b ≤ 2147483647
def addP (a b : Int) : Int × Int := fitQ (decide (a + b < 0)) (ab (a + b))
def mulP (a b : Int) : Int × Int := fitQ (negAB a b) ((ab a * ab b + 128) / 256)
def divP (a b : Int) : Int × Int := fitQ (negAB a b) (rdQ (ab a) (ab b))
theorem fitQ_b (neg : Bool) (q : Int) (h : 0 ≤ q) : (-2147483648 ≤ (fitQ neg q).1 ∧ (fitQ neg q).1 ≤ 2147483647) ∧ 0 ≤ (fitQ neg q).2 ∧ (fitQ neg q).2 ≤ 6 := by
  unfold fitQ
  split <;> split <;> simp only <;> omega
theorem ab_nonneg (a : Int) : 0 ≤ ab a := by unfold ab; split <;> omega
theorem rdN_nonneg {n y : Int} (h : 0 ≤ n) (hy : 0 ≤ y) : 0 ≤ rdN n y := by
  have := Int.ediv_nonneg h hy
  unfold rdN
  split <;> omega
theorem add_same (s : Int) : fitQ (negAB s 1) (rdN (ab s * 1) (ab 1)) = fitQ (decide (s < 0)) (ab s) := by
  have e1 : negAB s 1 = decide (s < 0) := by unfold negAB; simp
  have e2 : rdN (ab s * 1) (ab 1) = ab s := by
    show rdN (ab s * 1) 1 = _
    unfold rdN
    rw [Int.mul_one, if_neg (by omega), Int.ediv_one]
  rw [e1, e2]
theorem ab_mul (a b : Int) : ab (a * b) = ab a * ab b := by
  by_cases ha : a < 0 <;> by_cases hb : b < 0
  · have := Int.mul_pos_of_neg_of_neg ha hb
    unfold ab
    rw [if_neg (by omega), if_pos ha, if_pos hb, Int.neg_mul_neg]
  · have : a * b ≤ 0 := Int.mul_nonpos_of_nonpos_of_nonneg (by omega) (by omega)
    unfold ab
    rw [if_pos ha, if_neg hb, Int.neg_mul]
    split <;> omega
  · have : a * b ≤ 0 := Int.mul_nonpos_of_nonneg_of_nonpos (by omega) (by omega)
    unfold ab
    rw [if_neg ha, if_pos hb, Int.mul_neg]
    split <;> omega
  · have : 0 ≤ a * b := Int.mul_nonneg (by omega) (by omega)
    unfold ab
    rw [if_neg (by omega), if_neg ha, if_neg hb]
theorem neg_mul_iff {a b : Int} (h : a * b ≠ 0) : decide (a * b < 0) = (decide (a < 0) != decide (b < 0)) := by
  have ha0 : a ≠ 0 := fun e => h (by rw [e, Int.zero_mul])
  have hb0 : b ≠ 0 := fun e => h (by rw [e, Int.mul_zero])
  by_cases ha : a < 0 <;> by_cases hb : b < 0
  · have := Int.mul_pos_of_neg_of_neg ha hb
    simp [ha, hb]; omega
  · have := Int.mul_neg_of_neg_of_pos ha (show 0 < b by omega)
    simp [ha, hb, this]
  · have := Int.mul_neg_of_pos_of_neg (show 0 < a by omega) hb
    simp [ha, hb, this]
  · have := Int.mul_pos (show 0 < a by omega) (show 0 < b by omega)
    simp [ha, hb]; omega
theorem mul_same (a b : Int) : fitQ (negAB (a * b) 256) (rdN (ab (a * b) * 1) (ab 256)) = mulP a b := by
  have e1 : negAB (a * b) 256 = decide (a * b < 0) := by unfold negAB; simp
  have e2 : rdN (ab (a * b) * 1) (ab 256) = (ab a * ab b + 128) / 256 := by
    rw [Int.mul_one, ab_mul, show ab 256 = 256 from rfl]
    generalize ab a * ab b = p
    unfold rdN
    split <;> omega
  rw [e1, e2]
  unfold mulP
  by_cases h0 : a * b = 0
  · have e3 : ab a * ab b = 0 := by rw [← ab_mul, h0]; rfl
    rw [e3]
    have : ∀ t, fitQ t ((0 + 128) / 256) = (0, 0) := by decide
    rw [this, this]
  · rw [neg_mul_iff h0]
    rfl

def rhoS (a b : Int) (n : Nat) : Value :=
  match n with
  | 0 => .int .i32 a
  | 1 => .int .i32 b
  | 2 => .int .i32 (addP a b).1
  | 3 => .int .i64 (addP a b).2
  | 4 => .int .i32 (mulP a b).1
  | 5 => .int .i64 (mulP a b).2
  | 6 => .int .i32 (divP a b).1
  | 7 => .int .i64 (divP a b).2
  | 8 => .int .u64 (ab a)
  | 9 => .int .u64 (ab b)
  | _ => .int .u64 (ab (a + b))
section
variable {a b : Int} (h : In32 a b)
include h
theorem In32.abA : 0 ≤ ab a ∧ ab a ≤ 2147483648 := by have := h.al; have := h.ah; unfold ab; split <;> omega
theorem In32.abB : 0 ≤ ab b ∧ ab b ≤ 2147483648 := by have := h.bl; have := h.bh; unfold ab; split <;> omega
theorem In32.abS : 0 ≤ ab (a + b) ∧ ab (a + b) ≤ 4294967296 := by have := h.al; have := h.ah; have := h.bl; have := h.bh; unfold ab; split <;> omega
theorem In32.abP : 0 ≤ ab a * ab b ∧ ab a * ab b ≤ 4611686018427387904 := by
  have h1 := h.abA
  have h2 := h.abB
  have h3 : ab a * ab b ≤ 2147483648 * ab b := Int.mul_le_mul_of_nonneg_right h1.2 h2.1
  exact ⟨Int.mul_nonneg h1.1 h2.1, by omega⟩
theorem In32.prod : -4611686018427387904 ≤ a * b ∧ a * b ≤ 4611686018427387904 := by
  have h1 := h.abP
  rw [← ab_mul] at h1
  unfold ab at h1
  split at h1 <;> omega
theorem nS0 : (SE.ivar .i32 0).num (rhoS a b) = a := wid_i32 _ h.al h.ah
theorem nS1 : (SE.ivar .i32 1).num (rhoS a b) = b := wid_i32 _ h.bl h.bh
theorem nC0 : c0.num (rhoS a b) = a := by unfold c0; rw [n_conv, nS0 h]; exact wid_i64 _ (by have := h.al; omega) (by have := h.ah; omega)
theorem nC1 : c1.num (rhoS a b) = b := by unfold c1; rw [n_conv, nS1 h]; exact wid_i64 _ (by have := h.bl; omega) (by have := h.bh; omega)
theorem nSum : eSum.num (rhoS a b) = a + b := by
  have := h.al; have := h.ah; have := h.bl; have := h.bh
  unfold eSum; rw [n_add, nC0 h, nC1 h]; exact wid_i64 _ (by omega) (by omega)
theorem nProd : eProd.num (rhoS a b) = a * b := by
  have := h.prod
  unfold eProd; rw [n_mul, nC0 h, nC1 h]; exact wid_i64 _ (by omega) (by omega)
theorem nS8 : (SE.ivar .u64 8).num (rhoS a b) = ab a := wid_u64 _ h.abA.1 (by have := h.abA; omega)
theorem nS9 : (SE.ivar .u64 9).num (rhoS a b) = ab b := wid_u64 _ h.abB.1 (by have := h.abB; omega)
theorem nS10 : (SE.ivar .u64 10).num (rhoS a b) = ab (a + b) := wid_u64 _ h.abS.1 (by have := h.abS; omega)
omit h in
theorem eAb_ok {n : Nat} {e : SE} {x : Int} (he : e.num (rhoS a b) = x) (hn : (SE.ivar .u64 n).num (rhoS a b) = ab x) (h1 : -9223372036854775808 ≤ x) (h2 : x ≤ 9223372036854775807) : EntryOk Tryd.prog tb.glob (rhoS a b) { f := 35, args := [is e], res := uv n } := by
  refine ⟨known35, rfl, rfl, fun q hq => by simp at hq, ?_⟩
  have := abs_fnc (.inl rfl) h1 h2
  show Fnc _ _ 35 #[Value.int .i64 (e.num (rhoS a b))] (Value.int .u64 ((SE.ivar .u64 n).num (rhoS a b)))
  rw [he, hn]
  exact this
theorem args32 : ([jv 0, jv 1].map (V.at1 (rhoS a b))).toArray = #[.int .i32 a, .int .i32 b] := by
  show #[Value.int .i32 ((SE.ivar .i32 0).num (rhoS a b)), Value.int .i32 ((SE.ivar .i32 1).num (rhoS a b))] = _
  rw [nS0 h, nS1 h]
theorem add_fnc : Fnc Tryd.prog tb.glob 23 #[.int .i32 a, .int .i32 b] (pairV (addP a b)) := by
  have hs := h.abS
  have := fnc_run tb_ok tb_wf (spOf_ok (l := [eAbS]) (by
    rw [all_cons]
    exact ⟨eAb_ok (nSum h) (nS10 h) (by have := h.al; have := h.bl; omega) (by have := h.ah; have := h.bh; omega), fun _ h => by simp at h⟩)) (kn := kn0) (n0 := 300) (n1 := 300) kn_none (PC.holds_nil _) (f := 23) (args := [jv 0, jv 1]) (by rfl) (run_Add _) (res := pairV (addP a b)) (by
    unfold MAdd
    have e : (SE.bin .add .i64 c0 c1).num (rhoS a b) = a + b := nSum h
    simp only [all_cons, all_nil, h_cons, h_nil, t_lss, n_int, n_conv, n_sub, nS10 h, e, and_true, reduceIte, Bool.false_eq_true, if_false, ret2]
    unfold addP fitQ
    generalize ab (a + b) = q at *
    generalize a + b = s at *
    refine ⟨?_, ?_, ?_, ?_⟩
    · rintro ⟨g1, g2⟩
      rw [if_pos (by simpa using g2), if_pos g1]
    · rintro ⟨g1, g2⟩
      rw [if_pos (by simpa using g2), if_neg (by omega)]
      refine pair_eq ?_ rfl
      simp (disch := omega) only [wid_i64, wid_i32, wid_u64]; omega
    · rintro ⟨g1, g2⟩
      rw [if_neg (by simpa using g2), if_pos g1]
    · rintro ⟨g1, g2⟩
      rw [if_neg (by simpa using g2), if_neg (by omega)]
      exact pair_eq (wid_i32 _ (by omega) (by omega)) rfl)
  rw [args32 h] at this
  exact this
theorem mulR_fnc : Fnc Tryd.prog tb.glob 25 #[.int .i32 a, .int .i32 b] (pairV (mulP a b)) := by
  have hs := h.abP
  have := fnc_run tb_ok tb_wf (spOf_ok (l := [eAb0, eAb1]) (by
    rw [all_cons, all_cons]
    exact ⟨eAb_ok (nC0 h) (nS8 h) (by have := h.al; omega) (by have := h.ah; omega), eAb_ok (nC1 h) (nS9 h) (by have := h.bl; omega) (by have := h.bh; omega), fun _ h => by simp at h⟩)) (kn := kn0) (n0 := 300) (n1 := 300) kn_none (PC.holds_nil _) (f := 25) (args := [jv 0, jv 1]) (by rfl) (run_Mu _) (res := pairV (mulP a b)) (by
    unfold MMu
    have e : (SE.bin .quo .u64 (.bin .add .u64 (.bin .mul .u64 (.ivar .u64 8) (.ivar .u64 9)) (.int .u64 128)) (.int .u64 256)).num (rhoS a b) = (ab a * ab b + 128) / 256 := by
      rw [n_quo, n_add, n_mul, n_int, n_int, nS8 h, nS9 h, if_neg (by decide), wid_u64 (ab a * ab b) hs.1 (by omega), wid_u64 (_ + 128) (by omega) (by omega), Int.tdiv_eq_ediv_of_nonneg (by omega), wid_u64 _ (by omega) (by omega)]
    simp only [all_cons, all_nil, h_cons, h_nil, t_lss, t_eqb, n_int, n_conv, n_sub, nS0 h, nS1 h, e, and_true, reduceIte, Bool.false_eq_true, if_false, ret2]
    unfold mulP fitQ negAB
    have hq : 0 ≤ (ab a * ab b + 128) / 256 := by omega
    have hq2 : (ab a * ab b + 128) / 256 ≤ 18014398509481985 := by omega
    generalize (ab a * ab b + 128) / 256 = q at *
    refine ⟨?_, ?_, ?_, ?_⟩
    · rintro ⟨g1, g2⟩
      by_cases ha0 : a < 0 <;> by_cases hb0 : b < 0 <;> simp only [ha0, hb0, true_iff, false_iff, iff_true, iff_false, Int.not_le, Int.not_lt, not_true_eq_false, not_false_eq_true] at g2 <;> simp only [ha0, hb0, decide_true, decide_false, bne_self_eq_false, Bool.true_bne, Bool.false_bne, Bool.not_false, Bool.not_true, reduceIte, Bool.false_eq_true, if_false]
      all_goals first
        | (exfalso; omega)
        | skip
      all_goals (rw [if_pos (by omega)])
    · rintro ⟨g1, g2⟩
      by_cases ha0 : a < 0 <;> by_cases hb0 : b < 0 <;> simp only [ha0, hb0, true_iff, false_iff, iff_true, iff_false, Int.not_le, Int.not_lt, not_true_eq_false, not_false_eq_true] at g2 <;> simp only [ha0, hb0, decide_true, decide_false, bne_self_eq_false, Bool.true_bne, Bool.false_bne, Bool.not_false, Bool.not_true, reduceIte, Bool.false_eq_true, if_false]
      all_goals first
        | (exfalso; omega)
        | skip
      all_goals (rw [if_neg (by omega)]; refine pair_eq ?_ rfl)
      all_goals first
        | exact wid_i32 _ (by omega) (by omega)
        | (simp (disch := omega) only [wid_i64, wid_i32, wid_u64]; omega)
        | (simp (disch := omega) only [wid_i64, wid_i32, wid_u64])
    · rintro ⟨g1, g2⟩
      by_cases ha0 : a < 0 <;> by_cases hb0 : b < 0 <;> simp only [ha0, hb0, true_iff, false_iff, iff_true, iff_false, Int.not_le, Int.not_lt, not_true_eq_false, not_false_eq_true] at g2 <;> simp only [ha0, hb0, decide_true, decide_false, bne_self_eq_false, Bool.true_bne, Bool.false_bne, Bool.not_false, Bool.not_true, reduceIte, Bool.false_eq_true, if_false]
      all_goals first
        | (exfalso; omega)
        | skip
      all_goals (rw [if_pos (by omega)])
    · rintro ⟨g1, g2⟩
      by_cases ha0 : a < 0 <;> by_cases hb0 : b < 0 <;> simp only [ha0, hb0, true_iff, false_iff, iff_true, iff_false, Int.not_le, Int.not_lt, not_true_eq_false, not_false_eq_true] at g2 <;> simp only [ha0, hb0, decide_true, decide_false, bne_self_eq_false, Bool.true_bne, Bool.false_bne, Bool.not_false, Bool.not_true, reduceIte, Bool.false_eq_true, if_false]
      all_goals first
        | (exfalso; omega)
        | skip
      all_goals (rw [if_neg (by omega)]; refine pair_eq ?_ rfl)
      all_goals first
        | exact wid_i32 _ (by omega) (by omega)
        | (simp (disch := omega) only [wid_i64, wid_i32, wid_u64]; omega)
        | (simp (disch := omega) only [wid_i64, wid_i32, wid_u64]))
  rw [args32 h] at this
  exact this
end
end
end Go.Proofs.YtdblaloadklcfabDoor
