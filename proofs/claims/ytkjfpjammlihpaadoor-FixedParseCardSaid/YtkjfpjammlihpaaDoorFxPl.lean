/- Decimal texts of numbers of 24.8 bits: the plain law (no program in sight): what is written is read again, and what is read is written again. -/
import Derived.Lib.ItoaNum
set_option linter.unusedVariables false
namespace Go.Dec
open Go.Lib (decDigits)

def dig (b : UInt8) : Bool := Nat.ble 48 b.toNat && Nat.ble b.toNat 57
def valL (l : List UInt8) : Nat := l.foldl (fun n b => 10 * n + (b.toNat - 48)) 0
def isNum (l : List UInt8) : Bool := !l.isEmpty && l.all dig
/-- The digits of r / 256 behind the point. -/
def fdigF : Nat → Nat → List UInt8
  | 0, _ => []
  | f + 1, r => if r = 0 then [] else UInt8.ofNat (48 + r * 10 / 256) :: fdigF f (r * 10 % 256)
def fdig (r : Nat) : List UInt8 := fdigF 8 r
/-- The text of n + r / 256 under a sign. -/
def textL (neg : Bool) (n r : Nat) : List UInt8 := (if neg then [45] else []) ++ (decDigits n ++ (if r = 0 then [] else 46 :: fdig r))
def wholeL (t : List UInt8) : List UInt8 := t.takeWhile (· != 46)
def partL (t : List UInt8) : List UInt8 := (t.dropWhile (· != 46)).drop 1
def pointL (t : List UInt8) : Bool := t.any (· == 46)
def fracL (p : List UInt8) : Option Nat := if isNum p && (Nat.ble p.length 8 && (p.getLast? != some 48 && Nat.beq (valL p * 256 % 10 ^ p.length) 0)) then some (valL p * 256 / 10 ^ p.length) else none
def negL (s : List UInt8) : Bool := s.head? == some 45
def bodyL (s : List UInt8) : List UInt8 := if negL s then s.tail else s
/-- Is the text before the point in order? -/
def wholeOk (neg : Bool) (t : List UInt8) : Bool := isNum (wholeL t) && (!(Nat.blt 1 (wholeL t).length && (wholeL t).head? == some 48) && !(neg && t == [48]))
/-- What a text says: the sign, the whole number, the fraction; none if it is not in order. -/
def readL (s : List UInt8) : Option (Bool × Nat × Nat) :=
  if wholeOk (negL s) (bodyL s) then (if pointL (bodyL s) then (fracL (partL (bodyL s))).map fun r => (negL s, valL (wholeL (bodyL s)), r) else some (negL s, valL (wholeL (bodyL s)), 0)) else none

/-! ### Digits -/
theorem dig_iff (b : UInt8) : dig b = true ↔ 48 ≤ b.toNat ∧ b.toNat ≤ 57 := by
  unfold dig
  rw [Bool.and_eq_true]
  exact ⟨fun h => ⟨Nat.le_of_ble_eq_true h.1, Nat.le_of_ble_eq_true h.2⟩, fun h => ⟨Nat.ble_eq_true_of_le h.1, Nat.ble_eq_true_of_le h.2⟩⟩
theorem digit_nat (d : Nat) (h : d < 10) : (UInt8.ofNat (48 + d)).toNat = 48 + d := by
  have : 48 + d < 256 := by omega
  simp [Nat.mod_eq_of_lt this]
theorem digit_of (b : UInt8) (h : dig b = true) : UInt8.ofNat (48 + (b.toNat - 48)) = b := by
  obtain ⟨h1, h2⟩ := (dig_iff b).1 h
  apply UInt8.toNat_inj.1
  rw [digit_nat _ (by omega)]
  omega
theorem valL_snoc (l : List UInt8) (b : UInt8) : valL (l ++ [b]) = 10 * valL l + (b.toNat - 48) := by
  unfold valL
  rw [List.foldl_append]
  rfl
theorem isNum_iff (l : List UInt8) : isNum l = true ↔ l ≠ [] ∧ ∀ b, b ∈ l → dig b = true := by
  unfold isNum
  cases l with
  | nil => simp
  | cons a l => simp

theorem dec_small {n : Nat} (h : n < 10) : decDigits n = [UInt8.ofNat (48 + n)] := by rw [decDigits, dif_pos h]
theorem dec_big {n : Nat} (h : ¬ n < 10) : decDigits n = decDigits (n / 10) ++ [UInt8.ofNat (48 + n % 10)] := by rw [decDigits, dif_neg h]
theorem dec_ne (n : Nat) : decDigits n ≠ [] := by
  by_cases h : n < 10
  · rw [dec_small h]; simp
  · rw [dec_big h]; simp
theorem dec_dig (n : Nat) : ∀ b, b ∈ decDigits n → dig b = true := by
  induction n using Nat.strongRecOn with
  | _ n ih =>
    intro b hb
    by_cases h : n < 10
    · rw [dec_small h, List.mem_singleton] at hb
      subst hb
      rw [dig_iff, digit_nat _ h]
      omega
    · rw [dec_big h] at hb
      rcases List.mem_append.1 hb with hb | hb
      · exact ih (n / 10) (by omega) b hb
      · rw [List.mem_singleton] at hb
        subst hb
        rw [dig_iff, digit_nat _ (by omega)]
        omega
theorem dec_isNum (n : Nat) : isNum (decDigits n) = true := (isNum_iff _).2 ⟨dec_ne n, dec_dig n⟩
theorem dec_val (n : Nat) : valL (decDigits n) = n := by
  induction n using Nat.strongRecOn with
  | _ n ih =>
    by_cases h : n < 10
    · rw [dec_small h]
      show 10 * 0 + ((UInt8.ofNat (48 + n)).toNat - 48) = n
      rw [digit_nat _ h]
      omega
    · rw [dec_big h, valL_snoc, ih (n / 10) (by omega), digit_nat _ (by omega)]
      omega
theorem head_append {α : Type} {l : List α} (m : List α) (h : l ≠ []) : (l ++ m).head? = l.head? := by
  cases l with
  | nil => exact absurd rfl h
  | cons a l => rfl
/-- No zero leads, but in the text of 0. -/
theorem dec_head {n : Nat} (h : n ≠ 0) : (decDigits n).head? ≠ some 48 := by
  induction n using Nat.strongRecOn with
  | _ n ih =>
    by_cases h1 : n < 10
    · rw [dec_small h1]
      intro e
      simp only [List.head?_cons, Option.some.injEq] at e
      have := congrArg UInt8.toNat e
      rw [digit_nat _ h1] at this
      have e48 : (48 : UInt8).toNat = 48 := rfl
      omega
    · rw [dec_big h1, head_append _ (dec_ne _)]
      exact ih (n / 10) (by omega) (by omega)
theorem dec_len {n : Nat} (h : ¬ n < 10) : 1 < (decDigits n).length := by
  rw [dec_big h, List.length_append]
  have : 0 < (decDigits (n / 10)).length := List.length_pos_iff.2 (dec_ne _)
  simp
  omega
theorem dec_len_le : ∀ (k n : Nat), n < 10 ^ (k + 1) → (decDigits n).length ≤ k + 1
  | 0, n, h => by rw [dec_small (by simpa using h)]; simp
  | k + 1, n, h => by
    by_cases h1 : n < 10
    · rw [dec_small h1]; simp
    · rw [dec_big h1, List.length_append]
      have := dec_len_le k (n / 10) (by rw [Nat.pow_succ] at h; omega)
      simp
      omega
/-- Digits without a leading zero are those of their number. -/
theorem dec_of : ∀ (k : Nat) (l : List UInt8), l.length = k + 1 → (∀ b, b ∈ l → dig b = true) → (1 < l.length → l.head? ≠ some 48) → decDigits (valL l) = l ∧ (l.head? ≠ some 48 → 0 < valL l) := by
  intro k
  induction k with
  | zero =>
    intro l hl hd _
    match l, hl with
    | [b], _ =>
      have hb := hd b (by simp)
      obtain ⟨h1, h2⟩ := (dig_iff b).1 hb
      have hv : valL [b] = b.toNat - 48 := by show 10 * 0 + (b.toNat - 48) = _; omega
      rw [hv]
      refine ⟨?_, fun hne => ?_⟩
      · rw [dec_small (by omega), digit_of b hb]
      · have : b ≠ 48 := fun e => hne (by rw [e]; rfl)
        have : b.toNat ≠ 48 := fun e => this (UInt8.toNat_inj.1 e)
        omega
  | succ k ih =>
    intro l hl hd hz
    obtain ⟨m, b, rfl⟩ : ∃ m b, l = m ++ [b] := ⟨l.dropLast, l.getLast (by intro e; subst e; simp at hl), (List.dropLast_concat_getLast _).symm⟩
    have hm : m.length = k + 1 := by simp at hl; omega
    have hmne : m ≠ [] := by intro e; subst e; simp at hm
    have hz' := hz (by simp; omega)
    rw [head_append _ hmne] at hz'
    obtain ⟨i1, i2⟩ := ih m hm (fun c hc => hd c (List.mem_append_left _ hc)) (fun _ => hz')
    have hpos := i2 hz'
    have hb := hd b (List.mem_append_right _ (by simp))
    obtain ⟨h1, h2⟩ := (dig_iff b).1 hb
    rw [valL_snoc]
    refine ⟨?_, fun _ => by omega⟩
    rw [dec_big (by omega), show (10 * valL m + (b.toNat - 48)) / 10 = valL m by omega, i1, show (10 * valL m + (b.toNat - 48)) % 10 = b.toNat - 48 by omega, digit_of b hb]

/-! ### Fractions -/
/-- The last k digits of a number. -/
def padL : Nat → Nat → List UInt8
  | 0, _ => []
  | k + 1, v => padL k (v / 10) ++ [UInt8.ofNat (48 + v % 10)]
theorem pad_of : ∀ (k : Nat) (l : List UInt8), l.length = k → (∀ b, b ∈ l → dig b = true) → padL k (valL l) = l ∧ valL l < 10 ^ k
  | 0, l, hl, _ => by
    rw [List.length_eq_zero_iff.1 hl]
    exact ⟨rfl, by decide⟩
  | k + 1, l, hl, hd => by
    obtain ⟨m, b, rfl⟩ : ∃ m b, l = m ++ [b] := ⟨l.dropLast, l.getLast (by intro e; subst e; simp at hl), (List.dropLast_concat_getLast _).symm⟩
    have hm : m.length = k := by simp at hl; omega
    obtain ⟨i1, i2⟩ := pad_of k m hm (fun c hc => hd c (List.mem_append_left _ hc))
    have hb := hd b (List.mem_append_right _ (by simp))
    obtain ⟨h1, h2⟩ := (dig_iff b).1 hb
    rw [valL_snoc]
    refine ⟨?_, by rw [Nat.pow_succ]; omega⟩
    show padL k ((10 * valL m + (b.toNat - 48)) / 10) ++ [UInt8.ofNat (48 + (10 * valL m + (b.toNat - 48)) % 10)] = _
    rw [show (10 * valL m + (b.toNat - 48)) / 10 = valL m by omega, i1, show (10 * valL m + (b.toNat - 48)) % 10 = b.toNat - 48 by omega, digit_of b hb]
theorem frac_tab : ∀ r : Fin 256, r.val ≠ 0 → fracL (fdig r.val) = some r.val := by decide +kernel
theorem fdig_tab : ∀ r : Fin 256, ∀ k : Fin 9, r.val * 10 ^ k.val % 256 = 0 → r.val * 10 ^ k.val / 256 % 10 ≠ 0 → fdig r.val = padL k.val (r.val * 10 ^ k.val / 256) := by decide +kernel
theorem frac_of {p : List UInt8} {r : Nat} (h : fracL p = some r) : r < 256 ∧ r ≠ 0 ∧ fdig r = p := by
  unfold fracL at h
  split at h
  · rename_i hc
    simp only [Bool.and_eq_true] at hc
    obtain ⟨h1, h2, h3, h4⟩ := hc
    have h2 := Nat.le_of_ble_eq_true h2
    have h4 : valL p * 256 % 10 ^ p.length = 0 := Nat.eq_of_beq_eq_true h4
    obtain ⟨hne, hd⟩ := (isNum_iff p).1 h1
    obtain ⟨q1, q2⟩ := pad_of p.length p rfl hd
    have hp : 0 < 10 ^ p.length := Nat.pow_pos (by decide)
    have hr : r = valL p * 256 / 10 ^ p.length := (Option.some.inj h).symm
    have hm : r * 10 ^ p.length = valL p * 256 := by
      rw [hr]
      exact Nat.div_mul_cancel (Nat.dvd_of_mod_eq_zero h4)
    have hlt : r < 256 := by
      rw [hr, Nat.div_lt_iff_lt_mul hp, Nat.mul_comm 256]
      exact Nat.mul_lt_mul_of_pos_right q2 (by decide)
    have hv : r * 10 ^ p.length / 256 = valL p := by rw [hm, Nat.mul_div_cancel _ (by decide)]
    have hv0 : r * 10 ^ p.length % 256 = 0 := by rw [hm]; exact Nat.mul_mod_left _ _
    have hlast : valL p % 10 ≠ 0 := by
      obtain ⟨m, b, rfl⟩ : ∃ m b, p = m ++ [b] := ⟨p.dropLast, p.getLast hne, (List.dropLast_concat_getLast _).symm⟩
      have hb := hd b (List.mem_append_right _ (by simp))
      obtain ⟨g1, g2⟩ := (dig_iff b).1 hb
      have hb48 : b ≠ 48 := fun e => by
        rw [e] at h3
        simp at h3
      have : b.toNat ≠ 48 := fun e => hb48 (UInt8.toNat_inj.1 e)
      rw [valL_snoc]
      omega
    have ht := fdig_tab ⟨r, hlt⟩ ⟨p.length, by omega⟩ hv0 (by show r * 10 ^ p.length / 256 % 10 ≠ 0; rw [hv]; exact hlast)
    refine ⟨hlt, ?_, ?_⟩
    · intro e
      rw [e, Nat.zero_mul] at hm
      have : valL p = 0 := by omega
      rw [this] at hlast
      exact hlast rfl
    · rw [show fdig r = padL p.length (r * 10 ^ p.length / 256) from ht, hv, q1]
  · exact absurd h (by simp)

/-! ### Writing and reading -/
theorem not46 {b : UInt8} (h : dig b = true) : (b != 46) = true := by
  obtain ⟨h1, h2⟩ := (dig_iff b).1 h
  have : b ≠ 46 := fun e => by
    rw [e] at h1
    have : (46 : UInt8).toNat = 46 := rfl
    omega
  simpa using this
theorem not45 {b : UInt8} (h : dig b = true) : b ≠ 45 := by
  obtain ⟨h1, h2⟩ := (dig_iff b).1 h
  intro e
  rw [e] at h1
  have : (45 : UInt8).toNat = 45 := rfl
  omega
theorem whole_app {l m : List UInt8} (h : ∀ b, b ∈ l → dig b = true) : (wholeL (l ++ 46 :: m) = l ∧ partL (l ++ 46 :: m) = m ∧ pointL (l ++ 46 :: m) = true) ∧ (wholeL l = l ∧ pointL l = false) := by
  induction l with
  | nil => exact ⟨⟨rfl, rfl, rfl⟩, rfl, rfl⟩
  | cons a l ih =>
    have ha := not46 (h a List.mem_cons_self)
    obtain ⟨⟨i1, i2, i3⟩, i4, i5⟩ := ih (fun b hb => h b (List.mem_cons_of_mem _ hb))
    have hne : (a == 46) = false := by simpa using ha
    refine ⟨⟨?_, ?_, ?_⟩, ?_, ?_⟩
    · show List.takeWhile _ (a :: (l ++ 46 :: m)) = _
      rw [List.takeWhile_cons, if_pos ha]
      exact congrArg _ i1
    · show (List.dropWhile _ (a :: (l ++ 46 :: m))).drop 1 = _
      rw [List.dropWhile_cons, if_pos ha]
      exact i2
    · show (List.any (a :: (l ++ 46 :: m)) _) = true
      rw [List.any_cons, hne]
      exact i3
    · show List.takeWhile _ (a :: l) = _
      rw [List.takeWhile_cons, if_pos ha]
      exact congrArg _ i4
    · show (List.any (a :: l) _) = false
      rw [List.any_cons, hne]
      exact i5
/-- A text is its whole part, the point and the part behind it. -/
theorem parts : ∀ t : List UInt8, t = wholeL t ++ (if pointL t then 46 :: partL t else [])
  | [] => rfl
  | a :: l => by
    have ih := parts l
    by_cases h : (a != 46) = true
    · have hne : (a == 46) = false := by simpa using h
      have e1 : wholeL (a :: l) = a :: wholeL l := by show List.takeWhile _ _ = _; rw [List.takeWhile_cons, if_pos h]; rfl
      have e2 : partL (a :: l) = partL l := by show (List.dropWhile _ _).drop 1 = _; rw [List.dropWhile_cons, if_pos h]; rfl
      have e3 : pointL (a :: l) = pointL l := by show List.any _ _ = _; rw [List.any_cons, hne]; rfl
      rw [e1, e2, e3, List.cons_append, ← ih]
    · have he : a = 46 := by simpa using h
      subst he
      rfl
theorem head_body {neg : Bool} {t : List UInt8} (h : t.head? ≠ some 45) : negL ((if neg then [45] else []) ++ t) = neg ∧ bodyL ((if neg then [45] else []) ++ t) = t := by
  cases neg with
  | true => exact ⟨rfl, rfl⟩
  | false =>
    have : negL t = false := by unfold negL; simpa using h
    exact ⟨this, by show bodyL t = t; unfold bodyL; rw [this]; rfl⟩

/-- **What is written is read again.** -/
theorem read_text (neg : Bool) (n r : Nat) (hr : r < 256) (hz : neg = true → n ≠ 0 ∨ r ≠ 0) : readL (textL neg n r) = some (neg, n, r) := by
  have hd := dec_dig n
  have hh : (decDigits n ++ (if r = 0 then [] else 46 :: fdig r)).head? ≠ some 45 := by
    rw [head_append _ (dec_ne n)]
    cases he : decDigits n with
    | nil => exact absurd he (dec_ne n)
    | cons a l =>
      intro e
      simp only [List.head?_cons, Option.some.injEq] at e
      exact not45 (hd a (by rw [he]; simp)) e
  obtain ⟨b1, b2⟩ := head_body (neg := neg) hh
  have hw : wholeL (decDigits n ++ (if r = 0 then [] else 46 :: fdig r)) = decDigits n ∧ (r ≠ 0 → partL (decDigits n ++ (if r = 0 then [] else 46 :: fdig r)) = fdig r) ∧ pointL (decDigits n ++ (if r = 0 then [] else 46 :: fdig r)) = decide (r ≠ 0) := by
    by_cases h0 : r = 0
    · rw [if_pos h0, List.append_nil]
      have := (whole_app (m := []) hd).2
      exact ⟨this.1, fun h => absurd h0 h, by rw [this.2]; simp [h0]⟩
    · rw [if_neg h0]
      have := (whole_app (m := fdig r) hd).1
      exact ⟨this.1, fun _ => this.2.1, by rw [this.2.2]; simp [h0]⟩
  obtain ⟨w1, w2, w3⟩ := hw
  unfold readL textL
  rw [b1, b2]
  have hok : wholeOk neg (decDigits n ++ (if r = 0 then [] else 46 :: fdig r)) = true := by
    unfold wholeOk
    rw [w1, dec_isNum]
    have c1 : (Nat.blt 1 (decDigits n).length && (decDigits n).head? == some 48) = false := by
      by_cases hn : n < 10
      · rw [dec_small hn]; rfl
      · have := dec_head (n := n) (by omega)
        have e : ((decDigits n).head? == some 48) = false := by simpa using this
        rw [e, Bool.and_false]
    have c2 : (neg && (decDigits n ++ (if r = 0 then [] else 46 :: fdig r)) == [48]) = false := by
      cases neg with
      | false => rfl
      | true =>
        rw [Bool.true_and]
        apply Bool.eq_false_iff.2
        intro e
        have e := eq_of_beq e
        by_cases h0 : r = 0
        · rw [if_pos h0, List.append_nil] at e
          have hn : n ≠ 0 := (hz rfl).resolve_right (fun h => h h0)
          have := dec_head hn
          rw [e] at this
          exact this rfl
        · rw [if_neg h0] at e
          have hl := congrArg List.length e
          have : 0 < (decDigits n).length := List.length_pos_iff.2 (dec_ne n)
          simp at hl
          omega
    rw [c1, c2]
    rfl
  rw [if_pos hok, w3, w1, dec_val]
  by_cases h0 : r = 0
  · simp [h0]
  · rw [if_pos (by simpa using h0), w2 h0, frac_tab ⟨r, hr⟩ h0]
    rfl
/-- **What is read is written again.** -/
theorem text_read {s : List UInt8} {neg : Bool} {n r : Nat} (h : readL s = some (neg, n, r)) : textL neg n r = s ∧ r < 256 ∧ (neg = true → n ≠ 0 ∨ r ≠ 0) := by
  unfold readL at h
  split at h
  · rename_i hok
    unfold wholeOk at hok
    simp only [Bool.and_eq_true, Bool.not_eq_true'] at hok
    obtain ⟨h1, h2, h3⟩ := hok
    obtain ⟨hne, hd⟩ := (isNum_iff _).1 h1
    have hlen : (wholeL (bodyL s)).length = ((wholeL (bodyL s)).length - 1) + 1 := by
      have := List.length_pos_iff.2 hne
      omega
    have hdec := (dec_of _ _ hlen hd (fun hl e => by
      rw [show Nat.blt 1 (wholeL (bodyL s)).length = true from by rw [Nat.blt_eq]; exact hl, Bool.true_and, e] at h2
      simp at h2)).1
    have hs : s = (if negL s then [45] else []) ++ bodyL s := by
      unfold bodyL
      cases hn : negL s with
      | false => rfl
      | true =>
        unfold negL at hn
        cases s with
        | nil => simp at hn
        | cons a l =>
          simp at hn
          subst hn
          rfl
    have hp := parts (bodyL s)
    split at h
    · rename_i hpt
      obtain ⟨r', hr', he⟩ := Option.map_eq_some_iff.1 h
      simp only [Prod.mk.injEq] at he
      obtain ⟨rfl, rfl, rfl⟩ := he
      obtain ⟨f1, f2, f3⟩ := frac_of hr'
      refine ⟨?_, f1, fun _ => .inr f2⟩
      rw [if_pos hpt] at hp
      unfold textL
      rw [hdec, if_neg f2, f3, ← hp, ← hs]
    · rename_i hpt
      simp only [Option.some.injEq, Prod.mk.injEq] at h
      obtain ⟨rfl, rfl, rfl⟩ := h
      rw [if_neg hpt, List.append_nil] at hp
      refine ⟨?_, by decide, fun hneg => .inl fun h0 => ?_⟩
      · unfold textL
        rw [hdec, if_pos rfl, List.append_nil, ← hp, ← hs]
      · rw [hneg, Bool.true_and] at h3
        have e0 : decDigits 0 = [48] := dec_small (by decide)
        rw [h0, e0] at hdec
        rw [hp, ← hdec] at h3
        simp at h3
  · exact absurd h (by simp)
end Go.Dec
