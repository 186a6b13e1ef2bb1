/- Long division by two half words: the plain law. -/
set_option linter.unusedVariables false
namespace Go.Halves

/-- What is asked of a divisor's halves and of a dividend's. -/
structure Ok (y1 y0 U u : Int) : Prop where
  y1l : 2147483648 ≤ y1
  y1h : y1 < 4294967296
  y0l : 0 ≤ y0
  y0h : y0 < 4294967296
  Ul : 0 ≤ U
  Uh : U < y1 * 4294967296 + y0
  ul : 0 ≤ u
  uh : u < 4294967296

def quot (y1 y0 U u : Int) : Int := (U * 4294967296 + u) / (y1 * 4294967296 + y0)

section
variable {y1 y0 U u : Int} (h : Ok y1 y0 U u)
include h

theorem pos : 0 < y1 * 4294967296 + y0 := by have := h.y1l; have := h.y0l; omega
theorem quot_nonneg : 0 ≤ quot y1 y0 U u := Int.ediv_nonneg (by have := h.Ul; have := h.ul; omega) (by have := pos h; omega)
theorem quot_lt : quot y1 y0 U u < 4294967296 := by
  unfold quot
  rw [Int.ediv_lt_iff_lt_mul (pos h)]
  have := h.Uh; have := h.uh
  omega
theorem gt_quot (q : Int) : q > quot y1 y0 U u ↔ q * (y1 * 4294967296 + y0) > U * 4294967296 + u := by
  unfold quot
  exact Int.ediv_lt_iff_lt_mul (pos h)
theorem gt_iff {q r : Int} (hU : q * y1 + r = U) : q * y0 > 4294967296 * r + u ↔ q > quot y1 y0 U u := by
  rw [gt_quot h]
  have e1 : q * (y1 * 4294967296 + y0) = (q * y1) * 4294967296 + q * y0 := by rw [Int.mul_add, Int.mul_assoc]
  rw [e1]
  generalize q * y1 = m at hU ⊢
  generalize q * y0 = n
  omega
/-- A trial quotient. -/
structure Trial (y1 y0 U u q r : Int) : Prop where
  sum : q * y1 + r = U
  rl : 0 ≤ r
  rh : r < 4294967296
  ge : quot y1 y0 U u ≤ q
  le : q ≤ 4294967297

theorem Trial.start : Trial y1 y0 U u (U / y1) (U % y1) := by
  have hp : 0 < y1 := by have := h.y1l; omega
  have hs : U / y1 * y1 + U % y1 = U := Int.ediv_mul_add_emod U y1
  have hr0 := Int.emod_nonneg U (b := y1) (by omega)
  have hr1 := Int.emod_lt_of_pos U hp
  have hq0 : 0 ≤ U / y1 := Int.ediv_nonneg h.Ul (by omega)
  refine ⟨hs, hr0, by have := h.y1h; omega, ?_, ?_⟩
  · have : quot y1 y0 U u < U / y1 + 1 := by
      rw [show (quot y1 y0 U u < U / y1 + 1) = (U / y1 + 1 > quot y1 y0 U u) from rfl, gt_quot h]
      have e1 : (U / y1 + 1) * (y1 * 4294967296 + y0) = (U / y1 * y1) * 4294967296 + y1 * 4294967296 + (U / y1) * y0 + y0 := by
        rw [Int.add_mul, Int.mul_add, Int.mul_assoc, Int.one_mul]
        omega
      rw [e1]
      have h2 : 0 ≤ (U / y1) * y0 := Int.mul_nonneg hq0 h.y0l
      have := h.y0l; have := h.uh
      omega
    omega
  · have h3 : (U / y1) * y1 < 4294967298 * y1 := by
      have := h.Uh; have := h.y0h; have := h.y1l
      omega
    have := Int.lt_of_mul_lt_mul_right h3 (by omega)
    omega
theorem Trial.big {q r : Int} (t : Trial y1 y0 U u q r) (hq : 4294967296 ≤ q) : q > quot y1 y0 U u := by
  have := quot_lt h
  omega
theorem Trial.done {q r : Int} (t : Trial y1 y0 U u q r) (hq : ¬ q * y0 > 4294967296 * r + u) : q = quot y1 y0 U u := by
  have h1 := mt (gt_iff h t.sum).2 hq
  have := t.ge
  omega
theorem Trial.next {q r : Int} (t : Trial y1 y0 U u q r) (hq : q > quot y1 y0 U u) (hr : r + y1 < 4294967296) : Trial y1 y0 U u (q - 1) (r + y1) := by
  have e1 : (q - 1) * y1 = q * y1 - y1 := by rw [Int.sub_mul, Int.one_mul]
  have := t.sum; have := t.rl; have := t.le; have := h.y1l
  exact ⟨by omega, by omega, hr, by omega, by omega⟩
theorem Trial.last {q r : Int} (t : Trial y1 y0 U u q r) (hq : q > quot y1 y0 U u) (hr : ¬ r + y1 < 4294967296) : q - 1 = quot y1 y0 U u := by
  have e1 : (q - 1) * y1 = q * y1 - y1 := by rw [Int.sub_mul, Int.one_mul]
  have hs := t.sum
  have hl := t.le
  have hq0 := quot_nonneg h
  have h1 : ¬ (q - 1 > quot y1 y0 U u) := by
    rw [← gt_iff h (r := r + y1) (by omega)]
    have h2 : (q - 1) * y0 ≤ 4294967296 * y0 := Int.mul_le_mul_of_nonneg_right (by omega) h.y0l
    have := h.y0h; have := h.ul
    omega
  omega
/-- What is left lies below the divisor. -/
theorem rest : 0 ≤ U * 4294967296 + u - quot y1 y0 U u * (y1 * 4294967296 + y0) ∧ U * 4294967296 + u - quot y1 y0 U u * (y1 * 4294967296 + y0) < y1 * 4294967296 + y0 := by
  have h1 := Int.ediv_mul_add_emod (U * 4294967296 + u) (y1 * 4294967296 + y0)
  have h2 := Int.emod_nonneg (U * 4294967296 + u) (b := y1 * 4294967296 + y0) (by have := pos h; omega)
  have h3 := Int.emod_lt_of_pos (U * 4294967296 + u) (pos h)
  unfold quot
  generalize (U * 4294967296 + u) / (y1 * 4294967296 + y0) * (y1 * 4294967296 + y0) = m at h1 ⊢
  generalize (U * 4294967296 + u) % (y1 * 4294967296 + y0) = n at h1 h2 h3
  omega
end

/-- Two halves of a quotient. -/
theorem halves {N d D U u1 u0 y1 y0 R1 : Int} (hd : 0 < d) (hD : 0 < D) (hy : y1 * 4294967296 + y0 = d * D) (h1 : Ok y1 y0 U u1) (hR : R1 = U * 4294967296 + u1 - quot y1 y0 U u1 * (y1 * 4294967296 + y0)) (h0 : Ok y1 y0 R1 u0)
    (hN : N * D = U * 18446744073709551616 + u1 * 4294967296 + u0) :
    quot y1 y0 U u1 * 4294967296 + quot y1 y0 R1 u0 = N / d ∧ (R1 * 4294967296 + u0 - quot y1 y0 R1 u0 * (y1 * 4294967296 + y0)) / D = N % d := by
  have hr := rest h0
  have e : N * D = (quot y1 y0 U u1 * 4294967296 + quot y1 y0 R1 u0) * (d * D) + (R1 * 4294967296 + u0 - quot y1 y0 R1 u0 * (y1 * 4294967296 + y0)) := by
    rw [hN, ← hy, Int.add_mul, Int.mul_assoc _ 4294967296, Int.mul_comm 4294967296 (y1 * 4294967296 + y0), ← Int.mul_assoc]
    generalize quot y1 y0 R1 u0 * (y1 * 4294967296 + y0) = m
    generalize quot y1 y0 U u1 * (y1 * 4294967296 + y0) = n at hR ⊢
    omega
  have hpos : 0 < d * D := Int.mul_pos hd hD
  rw [hy] at hr e ⊢
  generalize hq : quot y1 y0 U u1 * 4294967296 + quot y1 y0 R1 u0 = q at e ⊢
  generalize hm : R1 * 4294967296 + u0 - quot y1 y0 R1 u0 * (d * D) = m at e hr ⊢
  have a1 : N * D / (d * D) = N / d := Int.mul_ediv_mul_of_pos_left N d hD
  have a2 : N * D / (d * D) = q := by
    rw [e, Int.add_comm, Int.add_mul_ediv_right _ _ (by omega), Int.ediv_eq_zero_of_lt hr.1 hr.2]
    omega
  have a3 : N * D % (d * D) = m := by
    rw [e, Int.add_comm, Int.add_mul_emod_self_right, Int.emod_eq_of_lt hr.1 hr.2]
  have a4 : N * D % (d * D) = (N % d) * D := by
    rw [Int.mul_comm N, Int.mul_comm d, Int.mul_emod_mul_of_pos _ _ hD, Int.mul_comm]
  refine ⟨by rw [← a2, a1], ?_⟩
  rw [← a3, a4, Int.mul_ediv_cancel _ (by omega)]
end Go.Halves
