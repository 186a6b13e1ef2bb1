/- Decimal texts: the program's way of reading and the reference's way of reading are the same (no program in sight). -/
import Derived.Test.YtkjfpjammlihpaaDoorFxPl
set_option linter.unusedVariables false
namespace Go.Dec
open Go.Lib (decDigits)

/-- A sign and a magnitude. -/
def fitN (neg : Bool) (q : Nat) : Int × Int := if neg then (if 2147483648 < q then (0, 6) else (-(q : Int), 0)) else (if 2147483647 < q then (0, 6) else ((q : Int), 0))
theorem fitN_big (neg : Bool) {q : Nat} (h : 2147483648 < q) : fitN neg q = (0, 6) := by
  unfold fitN
  rw [if_pos h, if_pos (show 2147483647 < q by omega)]
  cases neg <;> rfl
/-- What a text says, or what is wrong with it. -/
def parseL (s : List UInt8) : Int × Int := match readL s with
  | none => (0, 3)
  | some (neg, n, r) => fitN neg (n * 256 + r)

/-! ### The program's way -/
def headBad (neg : Bool) (w t : List UInt8) : Bool := !isNum w || ((Nat.blt 1 w.length && w.head? == some 48) || (neg && t == [48]))
def tailL (neg : Bool) (w : List UInt8) (r : Nat) : Int × Int := if 8 < w.length then (0, 6) else fitN neg (valL w * 256 + r)
def progL (neg point : Bool) (w p t : List UInt8) : Int × Int :=
  if headBad neg w t then (0, 3) else
  if point then (match fracL p with
    | none => (0, 3)
    | some r => tailL neg w r) else tailL neg w 0
theorem long_big {w : List UInt8} (h : isNum w = true) (h0 : (Nat.blt 1 w.length && w.head? == some 48) = false) (h8 : 8 < w.length) : 100000000 ≤ valL w := by
  obtain ⟨hne, hd⟩ := (isNum_iff _).1 h
  have hdec := (dec_of (w.length - 1) w (by omega) hd (fun hl e => by
    rw [show Nat.blt 1 w.length = true from by rw [Nat.blt_eq]; exact hl, Bool.true_and, e] at h0
    simp at h0)).1
  apply Nat.le_of_not_lt
  intro hlt
  have := dec_len_le 7 (valL w) (by simpa using hlt)
  rw [hdec] at this
  omega
theorem head_ok {neg : Bool} {t : List UInt8} : headBad neg (wholeL t) t = !wholeOk neg t := by
  unfold headBad wholeOk
  cases isNum (wholeL t) <;> cases (Nat.blt 1 (wholeL t).length && (wholeL t).head? == some 48) <;> cases (neg && t == [48]) <;> rfl
theorem tail_eq {neg : Bool} {w : List UInt8} (h : isNum w = true) (h0 : (Nat.blt 1 w.length && w.head? == some 48) = false) (r : Nat) : tailL neg w r = fitN neg (valL w * 256 + r) := by
  unfold tailL
  split
  · rename_i h8
    have := long_big h h0 h8
    rw [fitN_big neg (by omega)]
  · rfl
theorem prog_eq (s : List UInt8) : progL (negL s) (pointL (bodyL s)) (wholeL (bodyL s)) (partL (bodyL s)) (bodyL s) = parseL s := by
  unfold progL parseL readL
  rw [head_ok]
  cases hok : wholeOk (negL s) (bodyL s) with
  | false => rfl
  | true =>
    have ht : ∀ r, tailL (negL s) (wholeL (bodyL s)) r = fitN (negL s) (valL (wholeL (bodyL s)) * 256 + r) := by
      unfold wholeOk at hok
      simp only [Bool.and_eq_true, Bool.not_eq_true'] at hok
      exact fun r => tail_eq hok.1 hok.2.1 r
    simp only [Bool.not_true, Bool.false_eq_true, if_false, if_true, ht]
    cases pointL (bodyL s) with
    | false => simp
    | true =>
      simp only [if_true]
      cases fracL (partL (bodyL s)) <;> rfl

/-! ### The reference's way -/
def satL (w : List UInt8) : Nat := w.foldl (fun n b => min (n * 10 + (b.toNat - 48)) 1099511627776) 0
theorem satL_snoc (w : List UInt8) (b : UInt8) : satL (w ++ [b]) = min (satL w * 10 + (b.toNat - 48)) 1099511627776 := by
  unfold satL
  rw [List.foldl_append]
  rfl
theorem sat_eq (w : List UInt8) : satL w = min (valL w) 1099511627776 := by
  have aux : ∀ (l : List UInt8), (fun w => satL w = min (valL w) 1099511627776) l.reverse := by
    intro l
    induction l with
    | nil => rfl
    | cons b l ih =>
      have ih : satL l.reverse = min (valL l.reverse) 1099511627776 := ih
      show satL (b :: l).reverse = min (valL (b :: l).reverse) 1099511627776
      rw [List.reverse_cons, satL_snoc, valL_snoc, ih]
      omega
  have := aux w.reverse
  rwa [List.reverse_reverse] at this
theorem fit_sat (neg : Bool) (w : List UInt8) (r : Nat) : fitN neg (satL w * 256 + r) = fitN neg (valL w * 256 + r) := by
  rw [sat_eq]
  by_cases h : valL w ≤ 1099511627776
  · rw [Nat.min_eq_left h]
  · rw [fitN_big neg (by omega), fitN_big neg (by omega)]
/-- The number of the first eight digits, zeros behind. -/
def xL (p : List UInt8) : Nat := valL p * 10 ^ (8 - p.length)
def rfracL (p : List UInt8) : Option Nat := if isNum p && (Nat.ble p.length 8 && p.getLast? != some 48) then (if xL p % 390625 = 0 then some (xL p / 390625) else none) else none
theorem quo_gen (v c m D E : Nat) (h : D * E = m * c) (hE : 0 < E) (hc : 0 < c) : (v * c % D = 0 ↔ v * E % m = 0) ∧ v * c / D = v * E / m := by
  have e : v * c * E = v * E * c := by rw [Nat.mul_assoc, Nat.mul_comm c E, ← Nat.mul_assoc]
  have q : v * c / D = v * E / m := by
    have h1 := Nat.mul_div_mul_right (v * c) D hE
    have h2 := Nat.mul_div_mul_right (v * E) m hc
    rw [← h1, e, h, h2]
  have r : v * c % D * E = v * E % m * c := by
    have h1 := Nat.mul_mod_mul_right E (v * c) D
    have h2 := Nat.mul_mod_mul_right c (v * E) m
    rw [← h1, e, h, h2]
  refine ⟨⟨fun h0 => ?_, fun h0 => ?_⟩, q⟩
  · rw [h0, Nat.zero_mul] at r
    exact (Nat.mul_eq_zero.1 r.symm).resolve_right (by omega)
  · rw [h0, Nat.zero_mul] at r
    exact (Nat.mul_eq_zero.1 r).resolve_right (by omega)
theorem quo_eq (v k : Nat) (hk : k ≤ 8) : (v * 10 ^ (8 - k) % 390625 = 0 ↔ v * 256 % 10 ^ k = 0) ∧ (v * 256 % 10 ^ k = 0 → v * 10 ^ (8 - k) / 390625 = v * 256 / 10 ^ k) := by
  have h : 390625 * 256 = 10 ^ k * 10 ^ (8 - k) := by
    rw [← Nat.pow_add, show k + (8 - k) = 8 by omega]
  have := quo_gen v (10 ^ (8 - k)) (10 ^ k) 390625 256 h (by decide) (Nat.pow_pos (by decide))
  exact ⟨this.1, fun _ => this.2⟩
theorem rfrac_eq (p : List UInt8) : rfracL p = fracL p := by
  unfold rfracL fracL
  cases h1 : isNum p with
  | false => rfl
  | true =>
    cases h2 : Nat.ble p.length 8 with
    | false => rfl
    | true =>
      cases h3 : p.getLast? != some 48 with
      | false => rfl
      | true =>
        have h2 := Nat.le_of_ble_eq_true h2
        obtain ⟨q1, q2⟩ := quo_eq (valL p) p.length h2
        simp only [Bool.and_true, Bool.true_and, if_true]
        unfold xL
        by_cases hz : valL p * 256 % 10 ^ p.length = 0
        · rw [if_pos (q1.2 hz), if_pos (by rw [hz]; rfl), q2 hz]
        · rw [if_neg (fun h => hz (q1.1 h)), if_neg]
          intro h
          exact hz (Nat.eq_of_beq_eq_true h)
/-- As the reference reads. -/
def refL (neg point : Bool) (w p t : List UInt8) : Int × Int :=
  if point then (if isNum p && (Nat.ble p.length 8 && p.getLast? != some 48) then (if headBad neg w t then (0, 3) else if xL p % 390625 = 0 then fitN neg (satL w * 256 + xL p / 390625) else (0, 3)) else (0, 3))
  else (if headBad neg w t then (0, 3) else fitN neg (satL w * 256))
theorem ref_eq (s : List UInt8) : refL (negL s) (pointL (bodyL s)) (wholeL (bodyL s)) (partL (bodyL s)) (bodyL s) = parseL s := by
  unfold refL parseL readL
  rw [head_ok, ← rfrac_eq]
  have e0 := fit_sat (negL s) (wholeL (bodyL s)) 0
  rw [Nat.add_zero] at e0
  rw [e0]
  simp only [fit_sat]
  unfold rfracL
  cases hok : wholeOk (negL s) (bodyL s) with
  | false =>
    cases pointL (bodyL s) with
    | false => rfl
    | true =>
      simp only [Bool.not_false, if_true, Bool.false_eq_true, if_false]
      split <;> rfl
  | true =>
    cases pointL (bodyL s) with
    | false => simp
    | true =>
      simp only [Bool.not_true, if_true, Bool.false_eq_true, if_false]
      split
      · split
        · rename_i h2
          rfl
        · rfl
      · rfl
end Go.Dec
