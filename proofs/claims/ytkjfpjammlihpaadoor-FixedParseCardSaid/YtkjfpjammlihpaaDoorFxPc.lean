/- The reference's Parse, as a contract. -/
import Derived.Test.YtkjfpjammlihpaaDoorFxPb
set_option linter.unusedVariables false
set_option linter.unusedSimpArgs false
namespace Go.Proofs.YtkjfpjammlihpaaDoor
open Go.Sx Go.ChangeShapes Go.WideShapes Go.ChangeAt Go.RowKit Go.Dec
noncomputable section

def paE : SE := .cmp .eql (.byte subP (.bin .sub .i64 (.len subP) (.int .i64 1))) (.int .u8 48)
def paG : SE := .and (.bvar 8) (.cmp .lss (.int .i64 0) (.len subP))
def paK : SE := .cmp .lss (.int .i64 8) (.len subP)
def paG0 : SE := .cmp .lss (.int .i64 0) (.len subP)
def paN : SE := .and (.bvar 6) (.cmp .lss (.int .i64 0) (.len subW))
def paH : SE := .cmp .eql (.byte subW (.int .i64 0)) (.int .u8 48)
def paL1 : SE := .cmp .lss (.int .i64 1) (.len subW)
def paL0 : SE := .cmp .lss (.int .i64 0) (.len subW)
def paP : SE := .cmp .lss (.ivar .i64 9) (.len (.svar 1))
def paT : SE := .cmp .lss (.ivar .i64 9) (.int .i64 4611686018427387904)
def paM : SE := .cmp .lss (.ivar .i64 9) (.int .i64 0)
def paQ : SE := .cmp .eql (.ivar .i64 9) (.len (.svar 1))
def pa0e : SE := .eqs (.svar 0) (.str ⟨#[]⟩)
def pa0l : SE := .cmp .lss (.int .i64 0) (.len (.svar 0))
def pa0m : SE := .cmp .lss (.len (.svar 0)) (.int .i64 1001)
def paZ : SE := .eqs (.svar 1) (.str ⟨#[48]⟩)
def paX : SE := .cmp .eql (.bin .rem .u64 (.ivar .u64 13) (.int .u64 390625)) (.int .u64 0)
def rZ : List (STy × SE) := [(.int .i32, .int .i32 0), (.int .i64, .int .i64 0)]
def rA : List (STy × SE) := [(.int .i32, .ivar .i32 17), (.int .i64, .ivar .i64 18)]
def rB : List (STy × SE) := [(.int .i32, .ivar .i32 19), (.int .i64, .ivar .i64 20)]
def MXt : List (PC × Bool × List (STy × SE)) :=
  [([(paM, true), (pa0e, false), (pa0l, true), (firstE, true), (pa0m, true)], true, rZ),
   ([(paG, false), (paP, true), (paT, true), (paM, false), (pa0e, false), (pa0l, true), (firstE, true), (pa0m, true)], true, rS),
   ([(paK, true), ((.bvar 8), true), (paG0, true), (paP, true), (paT, true), (paM, false), (pa0e, false), (pa0l, true), (firstE, true), (pa0m, true)], true, rS),
   ([(paE, true), (paK, false), ((.bvar 8), true), (paG0, true), (paP, true), (paT, true), (paM, false), (pa0e, false), (pa0l, true), (firstE, true), (pa0m, true)], true, rS),
   ([(paN, false), (paE, false), (paK, false), ((.bvar 8), true), (paG0, true), (paP, true), (paT, true), (paM, false), (pa0e, false), (pa0l, true), (firstE, true), (pa0m, true)], true, rS),
   ([(paH, true), (paL1, true), ((.bvar 6), true), (paL0, true), (paE, false), (paK, false), ((.bvar 8), true), (paG0, true), (paP, true), (paT, true), (paM, false), (pa0e, false), (pa0l, true), (firstE, true), (pa0m, true)], true, rS),
   ([(paZ, true), (paH, false), (paL1, true), ((.bvar 6), true), (paL0, true), (paE, false), (paK, false), ((.bvar 8), true), (paG0, true), (paP, true), (paT, true), (paM, false), (pa0e, false), (pa0l, true), (firstE, true), (pa0m, true)], true, rS),
   ([(paX, false), (paZ, false), (paH, false), (paL1, true), ((.bvar 6), true), (paL0, true), (paE, false), (paK, false), ((.bvar 8), true), (paG0, true), (paP, true), (paT, true), (paM, false), (pa0e, false), (pa0l, true), (firstE, true), (pa0m, true)], true, rS),
   ([(paX, true), (paZ, false), (paH, false), (paL1, true), ((.bvar 6), true), (paL0, true), (paE, false), (paK, false), ((.bvar 8), true), (paG0, true), (paP, true), (paT, true), (paM, false), (pa0e, false), (pa0l, true), (firstE, true), (pa0m, true)], true, rA),
   ([(paZ, true), (paL1, false), ((.bvar 6), true), (paL0, true), (paE, false), (paK, false), ((.bvar 8), true), (paG0, true), (paP, true), (paT, true), (paM, false), (pa0e, false), (pa0l, true), (firstE, true), (pa0m, true)], true, rS),
   ([(paX, false), (paZ, false), (paL1, false), ((.bvar 6), true), (paL0, true), (paE, false), (paK, false), ((.bvar 8), true), (paG0, true), (paP, true), (paT, true), (paM, false), (pa0e, false), (pa0l, true), (firstE, true), (pa0m, true)], true, rS),
   ([(paX, true), (paZ, false), (paL1, false), ((.bvar 6), true), (paL0, true), (paE, false), (paK, false), ((.bvar 8), true), (paG0, true), (paP, true), (paT, true), (paM, false), (pa0e, false), (pa0l, true), (firstE, true), (pa0m, true)], true, rA),
   ([(paN, false), (paQ, true), (paP, false), (paT, true), (paM, false), (pa0e, false), (pa0l, true), (firstE, true), (pa0m, true)], true, rS),
   ([(paH, true), (paL1, true), ((.bvar 6), true), (paL0, true), (paQ, true), (paP, false), (paT, true), (paM, false), (pa0e, false), (pa0l, true), (firstE, true), (pa0m, true)], true, rS),
   ([(paZ, true), (paH, false), (paL1, true), ((.bvar 6), true), (paL0, true), (paQ, true), (paP, false), (paT, true), (paM, false), (pa0e, false), (pa0l, true), (firstE, true), (pa0m, true)], true, rS),
   ([(paZ, false), (paH, false), (paL1, true), ((.bvar 6), true), (paL0, true), (paQ, true), (paP, false), (paT, true), (paM, false), (pa0e, false), (pa0l, true), (firstE, true), (pa0m, true)], true, rB),
   ([(paZ, true), (paL1, false), ((.bvar 6), true), (paL0, true), (paQ, true), (paP, false), (paT, true), (paM, false), (pa0e, false), (pa0l, true), (firstE, true), (pa0m, true)], true, rS),
   ([(paZ, false), (paL1, false), ((.bvar 6), true), (paL0, true), (paQ, true), (paP, false), (paT, true), (paM, false), (pa0e, false), (pa0l, true), (firstE, true), (pa0m, true)], true, rB),
   ([(paQ, false), (paP, false), (paT, true), (paM, false), (pa0e, false), (pa0l, true), (firstE, true), (pa0m, true)], true, rZ),
   ([(paT, false), (paM, false), (pa0e, false), (pa0l, true), (firstE, true), (pa0m, true)], true, rZ)]
def MXf : List (PC × Bool × List (STy × SE)) :=
  [([(paM, true), (pa0e, false), (pa0l, true), (firstE, false), (pa0m, true)], true, rZ),
   ([(paG, false), (paP, true), (paT, true), (paM, false), (pa0e, false), (pa0l, true), (firstE, false), (pa0m, true)], true, rS),
   ([(paK, true), ((.bvar 8), true), (paG0, true), (paP, true), (paT, true), (paM, false), (pa0e, false), (pa0l, true), (firstE, false), (pa0m, true)], true, rS),
   ([(paE, true), (paK, false), ((.bvar 8), true), (paG0, true), (paP, true), (paT, true), (paM, false), (pa0e, false), (pa0l, true), (firstE, false), (pa0m, true)], true, rS),
   ([(paN, false), (paE, false), (paK, false), ((.bvar 8), true), (paG0, true), (paP, true), (paT, true), (paM, false), (pa0e, false), (pa0l, true), (firstE, false), (pa0m, true)], true, rS),
   ([(paH, true), (paL1, true), ((.bvar 6), true), (paL0, true), (paE, false), (paK, false), ((.bvar 8), true), (paG0, true), (paP, true), (paT, true), (paM, false), (pa0e, false), (pa0l, true), (firstE, false), (pa0m, true)], true, rS),
   ([(paX, false), (paH, false), (paL1, true), ((.bvar 6), true), (paL0, true), (paE, false), (paK, false), ((.bvar 8), true), (paG0, true), (paP, true), (paT, true), (paM, false), (pa0e, false), (pa0l, true), (firstE, false), (pa0m, true)], true, rS),
   ([(paX, true), (paH, false), (paL1, true), ((.bvar 6), true), (paL0, true), (paE, false), (paK, false), ((.bvar 8), true), (paG0, true), (paP, true), (paT, true), (paM, false), (pa0e, false), (pa0l, true), (firstE, false), (pa0m, true)], true, rA),
   ([(paX, false), (paL1, false), ((.bvar 6), true), (paL0, true), (paE, false), (paK, false), ((.bvar 8), true), (paG0, true), (paP, true), (paT, true), (paM, false), (pa0e, false), (pa0l, true), (firstE, false), (pa0m, true)], true, rS),
   ([(paX, true), (paL1, false), ((.bvar 6), true), (paL0, true), (paE, false), (paK, false), ((.bvar 8), true), (paG0, true), (paP, true), (paT, true), (paM, false), (pa0e, false), (pa0l, true), (firstE, false), (pa0m, true)], true, rA),
   ([(paN, false), (paQ, true), (paP, false), (paT, true), (paM, false), (pa0e, false), (pa0l, true), (firstE, false), (pa0m, true)], true, rS),
   ([(paH, true), (paL1, true), ((.bvar 6), true), (paL0, true), (paQ, true), (paP, false), (paT, true), (paM, false), (pa0e, false), (pa0l, true), (firstE, false), (pa0m, true)], true, rS),
   ([(paH, false), (paL1, true), ((.bvar 6), true), (paL0, true), (paQ, true), (paP, false), (paT, true), (paM, false), (pa0e, false), (pa0l, true), (firstE, false), (pa0m, true)], true, rB),
   ([(paL1, false), ((.bvar 6), true), (paL0, true), (paQ, true), (paP, false), (paT, true), (paM, false), (pa0e, false), (pa0l, true), (firstE, false), (pa0m, true)], true, rB),
   ([(paQ, false), (paP, false), (paT, true), (paM, false), (pa0e, false), (pa0l, true), (firstE, false), (pa0m, true)], true, rZ),
   ([(paT, false), (paM, false), (pa0e, false), (pa0l, true), (firstE, false), (pa0m, true)], true, rZ)]
theorem run_Xt (r : Nat → Value) : rcX true r = some MXt := by kernel_rfl
theorem run_Xf (r : Nat → Value) : rcX false r = some MXf := by kernel_rfl

/-! ### The reference's way, by its questions -/
section
variable {N P : Bool} {w p t : List UInt8}
theorem ref_bad (hP : P = true) (h : isNum p = false ∨ Nat.blt 8 p.length = true ∨ (p.getLast? == some 48) = true) : refL N P w p t = (0, 3) := by
  subst hP
  unfold refL
  rw [if_pos rfl, if_neg]
  intro hc
  simp only [Bool.and_eq_true] at hc
  obtain ⟨h1, h2, h3⟩ := hc
  rcases h with h | h | h
  · rw [h] at h1; exact absurd h1 (by simp)
  · rw [Nat.blt_eq] at h
    have := Nat.le_of_ble_eq_true h2
    omega
  · rw [eq_of_beq h] at h3
    exact absurd h3 (by simp)
theorem ref_head (h : headBad N w t = true) : refL N P w p t = (0, 3) := by
  unfold refL
  rw [h]
  cases P with
  | false => rfl
  | true =>
    rw [if_pos rfl]
    split <;> rfl
theorem cond_ok (h8 : p.all dig = true) (h0 : (!p.isEmpty) = true) (hk : Nat.blt 8 p.length = false) (he : (p.getLast? == some 48) = false) : (isNum p && (Nat.ble p.length 8 && p.getLast? != some 48)) = true ∧ p.length ≤ 8 := by
  have h1 : p.length ≤ 8 := by
    apply Nat.le_of_not_lt
    intro h
    have : Nat.blt 8 p.length = true := by rw [Nat.blt_eq]; exact h
    rw [this] at hk
    exact absurd hk (by simp)
  refine ⟨?_, h1⟩
  rw [isNum_all, h8, h0, Nat.ble_eq_true_of_le h1]
  show (true && (true && !(p.getLast? == some 48))) = true
  rw [he]
  rfl
theorem ref_x (hP : P = true) (h8 : p.all dig = true) (h0 : (!p.isEmpty) = true) (hk : Nat.blt 8 p.length = false) (he : (p.getLast? == some 48) = false) (hx : (((xW p 8 % 390625 : Nat) : Int) == 0) = false) : refL N P w p t = (0, 3) := by
  obtain ⟨hc, h1⟩ := cond_ok h8 h0 hk he
  subst hP
  unfold refL
  rw [if_pos rfl, if_pos hc, if_neg (show ¬ (xL p % 390625 = 0) from fun e => by
    rw [xW_8 h8 h1, e] at hx
    exact absurd hx (by decide))]
  split <;> rfl
theorem ref_good (hP : P = true) (h8 : p.all dig = true) (h0 : (!p.isEmpty) = true) (hk : Nat.blt 8 p.length = false) (he : (p.getLast? == some 48) = false) (hx : (((xW p 8 % 390625 : Nat) : Int) == 0) = true) (hb : headBad N w t = false) : refL N P w p t = fitN N (satL w * 256 + xW p 8 / 390625) := by
  obtain ⟨hc, h1⟩ := cond_ok h8 h0 hk he
  subst hP
  unfold refL
  rw [if_pos rfl, if_pos hc, hb, if_neg (by simp), xW_8 h8 h1, if_pos]
  rw [xW_8 h8 h1] at hx
  have := eq_of_beq hx
  omega
theorem ref_none (hP : P = false) (hb : headBad N w t = false) : refL N P w p t = fitN N (satL w * 256) := by
  subst hP
  unfold refL
  rw [hb]
  rfl
theorem hb_good (b6 : w.all dig = true) (l0 : (!w.isEmpty) = true) (h : Nat.blt 1 w.length = false ∨ (w.head? == some 48) = false) (z : N = false ∨ (t == [48]) = false) : headBad N w t = false := by
  unfold headBad
  rw [isNum_all, b6, l0]
  rcases h with h | h <;> rcases z with z | z <;> rw [h, z] <;> simp
theorem hb_num (h : isNum w = false) : headBad N w t = true := by unfold headBad; rw [h]; rfl
theorem hb_head (h1 : Nat.blt 1 w.length = true) (h2 : (w.head? == some 48) = true) : headBad N w t = true := by unfold headBad; rw [h1, h2]; simp
theorem hb_zero (h1 : N = true) (h2 : (t == [48]) = true) : headBad N w t = true := by unfold headBad; rw [h1, h2]; simp
end

theorem n_byte {ρ : Nat → Value} (a i : SE) : (SE.byte a i).num ρ = byteAt (a.text ρ) (i.num ρ) := rfl
section
variable {l : List UInt8} {b : Bool}
theorem retS3 : retOf true (valsOf (rhoX l b 0 0 0) rS) = pairV (0, 3) := rfl
theorem pbB6 : (SE.bvar 6).truth (rhoX l b 0 0 0) = (wholeL (bodyL l)).all dig := rfl
theorem pbB8 : (SE.bvar 8).truth (rhoX l b 0 0 0) = (partL (bodyL l)).all dig := rfl
theorem pbZ : paZ.truth (rhoX l b 0 0 0) = (bodyL l == [48]) := by
  show (tx (bodyL l) == (⟨#[48]⟩ : ByteArray)) = _
  rw [show (⟨#[48]⟩ : ByteArray) = tx [48] from rfl]
  cases h : bodyL l == [48] with
  | true => rw [eq_of_beq h]; exact (bytes_beq' _ _).2 rfl
  | false =>
    cases h2 : (tx (bodyL l) == tx [48]) with
    | false => rfl
    | true => rw [tx_inj ((bytes_beq' _ _).1 h2)] at h; exact absurd h (by simp)
theorem pbX : paX.truth (rhoX l b 0 0 0) = (((xW (partL (bodyL l)) 8 % 390625 : Nat) : Int) == 0) := by
  unfold paX
  rw [(truth_cmp _ _ _).1, n_int, n_rem, if_neg (by rw [n_int]; decide), n_int, nX13, Int.tmod_eq_emod_of_nonneg (Int.natCast_nonneg _)]
  rfl
variable (hl : l.length ≤ 1000)
include hl
theorem nSP : (SE.len subP).num (rhoX l b 0 0 0) = ((partL (bodyL l)).length : Int) := by
  show ((subP.text (rhoX l b 0 0 0)).size : Int) = _
  rw [textP hl, size_tx]
theorem nSW : (SE.len subW).num (rhoX l b 0 0 0) = ((wholeL (bodyL l)).length : Int) := by
  show ((subW.text (rhoX l b 0 0 0)).size : Int) = _
  rw [textW hl, size_tx]
theorem pbK : paK.truth (rhoX l b 0 0 0) = Nat.blt 8 (partL (bodyL l)).length := by
  unfold paK
  rw [(truth_cmp _ _ _).2.2.1, nSP hl, n_int]
  exact lt_blt 8 _
theorem pbG0 : paG0.truth (rhoX l b 0 0 0) = !(partL (bodyL l)).isEmpty := by
  unfold paG0
  rw [(truth_cmp _ _ _).2.2.1, nSP hl, n_int]
  exact pos_empty _
theorem pbG : paG.truth (rhoX l b 0 0 0) = isNum (partL (bodyL l)) := by
  show ((SE.bvar 8).truth (rhoX l b 0 0 0) && paG0.truth (rhoX l b 0 0 0)) = _
  rw [pbB8, pbG0 hl, isNum_all, Bool.and_comm]
theorem pbL0 : paL0.truth (rhoX l b 0 0 0) = !(wholeL (bodyL l)).isEmpty := by
  unfold paL0
  rw [(truth_cmp _ _ _).2.2.1, nSW hl, n_int]
  exact pos_empty _
theorem pbN : paN.truth (rhoX l b 0 0 0) = isNum (wholeL (bodyL l)) := by
  show ((SE.bvar 6).truth (rhoX l b 0 0 0) && paL0.truth (rhoX l b 0 0 0)) = _
  rw [pbB6, pbL0 hl, isNum_all, Bool.and_comm]
theorem pbL1 : paL1.truth (rhoX l b 0 0 0) = Nat.blt 1 (wholeL (bodyL l)).length := by
  unfold paL1
  rw [(truth_cmp _ _ _).2.2.1, nSW hl, n_int]
  exact lt_blt 1 _
theorem pbH : paH.truth (rhoX l b 0 0 0) = ((wholeL (bodyL l)).head? == some 48) := by
  unfold paH
  rw [(truth_cmp _ _ _).1, n_int]
  have e : (SE.byte subW (.int .i64 0)).num (rhoX l b 0 0 0) = byteAt (tx (wholeL (bodyL l))) 0 := by
    rw [n_byte, textW hl, n_int]
  rw [e]
  generalize wholeL (bodyL l) = w
  cases w with
  | nil => rfl
  | cons c w =>
    have := byte_tx (c :: w) (x := 0) (by simp)
    rw [show byteAt (tx (c :: w)) 0 = (c.toNat : Int) from this]
    cases h : ((c :: w).head? == some 48) with
    | true =>
      have : c = 48 := by simpa using h
      rw [this]
      rfl
    | false =>
      rw [beq_eq_false_iff_ne]
      intro e
      rw [b48] at e
      rw [e] at h
      exact absurd h (by simp)
theorem pbE : paE.truth (rhoX l b 0 0 0) = ((partL (bodyL l)).getLast? == some 48) := by
  have hp := pl hl
  unfold paE
  rw [(truth_cmp _ _ _).1, n_int]
  have e : (SE.byte subP (.bin .sub .i64 (.len subP) (.int .i64 1))).num (rhoX l b 0 0 0) = byteAt (tx (partL (bodyL l))) (((partL (bodyL l)).length : Int) - 1) := by
    rw [n_byte, textP hl, n_sub, nSP hl, n_int, wid_i64 _ (by omega) (by omega)]
  rw [e]
  generalize partL (bodyL l) = p at hp ⊢
  by_cases h0 : p.length = 0
  · rw [List.length_eq_zero_iff.1 h0]
    rfl
  · have hlt : p.length - 1 < p.length := by omega
    have e2 : ((p.length : Int) - 1) = ((p.length - 1 : Nat) : Int) := by omega
    rw [e2, byte_tx p hlt, List.getLast?_eq_getElem?, List.getElem?_eq_getElem hlt]
    generalize p[p.length - 1] = c
    cases h : (some c == some (48 : UInt8)) with
    | true =>
      have : c = 48 := by simpa using h
      rw [this]
      rfl
    | false =>
      rw [beq_eq_false_iff_ne]
      intro e
      rw [b48] at e
      rw [e] at h
      exact absurd h (by simp)
theorem pbM : paM.truth (rhoX l b 0 0 0) = false := by
  have hw := wl hl
  unfold paM
  rw [t_lss, nX9 hl, n_int]
  simp only [Bool.false_eq_true, if_false]
  omega
theorem pbT : paT.truth (rhoX l b 0 0 0) = true := by
  have hw := wl hl
  unfold paT
  rw [t_lss, nX9 hl, n_int]
  simp only [if_true]
  omega
theorem pbQ (h : pointL (bodyL l) = false) : paQ.truth (rhoX l b 0 0 0) = true := by
  unfold paQ
  rw [t_eql, nX9 hl, nX1L, (point_none h).1]
  rfl
theorem pcX_ok (h0 : l ≠ []) (hn : negL l = b) : (pcX b).holds (rhoX l b 0 0 0) := by
  have hpos : 0 < l.length := List.length_pos_iff.2 h0
  have e : (SE.len (.svar 0)).num (rhoX l b 0 0 0) = (l.length : Int) := by
    show ((tx l).size : Int) = _
    rw [size_tx]
  refine addPC_ok (addPC_ok (addPC_ok (addPC_ok (PC.holds_nil _) ?_) ?_) ?_) ?_
  · rw [t_lss, e, n_int]
    simp only [if_true]
    omega
  · rw [first_truth]
    exact hn
  · rw [t_lss, e, n_int]
    simp only [if_true]
    omega
  · show (tx l == (⟨#[]⟩ : ByteArray)) = false
    rw [tx_empty]
    cases l with
    | nil => exact absurd rfl h0
    | cons a l => rfl
theorem rparse_t (h0 : l ≠ []) (hn : negL l = true) : Fnc Tryd.prog tb.glob 15 #[.string (tx l)] (pairV (parseL l)) := by
  have := fnc_run (tb := tbX) (tbO_ok _) (tbO_wf _) (specL_X hl hn) (kn := kn0) (n0 := 300) (n1 := 300) kn_none (pcX_ok hl h0 hn) (f := 15) (args := [xv 0]) (by rfl) (run_Xt _) (res := pairV (parseL l)) (by
    unfold MXt
    rw [all_cons, all_cons, all_cons, all_cons, all_cons, all_cons, all_cons, all_cons, all_cons, all_cons, all_cons, all_cons, all_cons, all_cons, all_cons, all_cons, all_cons, all_cons, all_cons, all_cons]
    refine ⟨fun hp => ?_, fun hp => ?_, fun hp => ?_, fun hp => ?_, fun hp => ?_, fun hp => ?_, fun hp => ?_, fun hp => ?_, fun hp => ?_, fun hp => ?_, fun hp => ?_, fun hp => ?_, fun hp => ?_, fun hp => ?_, fun hp => ?_, fun hp => ?_, fun hp => ?_, fun hp => ?_, fun hp => ?_, fun hp => ?_, fun _ h => by simp at h⟩
    · simp only [h_cons, h_nil, and_true] at hp
      obtain ⟨hpaM, hpa0e, hpa0l, hfirstE, hpa0m⟩ := hp
      exact absurd hpaM (by rw [pbM hl]; simp)
    · simp only [h_cons, h_nil, and_true] at hp
      obtain ⟨hpaG, hpaP, hpaT, hpaM, hpa0e, hpa0l, hfirstE, hpa0m⟩ := hp
      have hPt : pointL (bodyL l) = true := by rw [← tPt hl]; exact hpaP
      rw [retS3]
      refine congrArg pairV (Eq.symm ((ref_eq l).symm.trans ?_))
      exact ref_bad hPt (.inl (by rw [← pbG hl]; exact hpaG))
    · simp only [h_cons, h_nil, and_true] at hp
      obtain ⟨hpaK, hB8, hpaG0, hpaP, hpaT, hpaM, hpa0e, hpa0l, hfirstE, hpa0m⟩ := hp
      have hPt : pointL (bodyL l) = true := by rw [← tPt hl]; exact hpaP
      rw [retS3]
      refine congrArg pairV (Eq.symm ((ref_eq l).symm.trans ?_))
      exact ref_bad hPt (.inr (.inl (by rw [← pbK hl]; exact hpaK)))
    · simp only [h_cons, h_nil, and_true] at hp
      obtain ⟨hpaE, hpaK, hB8, hpaG0, hpaP, hpaT, hpaM, hpa0e, hpa0l, hfirstE, hpa0m⟩ := hp
      have hPt : pointL (bodyL l) = true := by rw [← tPt hl]; exact hpaP
      rw [retS3]
      refine congrArg pairV (Eq.symm ((ref_eq l).symm.trans ?_))
      exact ref_bad hPt (.inr (.inr (by rw [← pbE hl]; exact hpaE)))
    · simp only [h_cons, h_nil, and_true] at hp
      obtain ⟨hpaN, hpaE, hpaK, hB8, hpaG0, hpaP, hpaT, hpaM, hpa0e, hpa0l, hfirstE, hpa0m⟩ := hp
      have hPt : pointL (bodyL l) = true := by rw [← tPt hl]; exact hpaP
      rw [retS3]
      refine congrArg pairV (Eq.symm ((ref_eq l).symm.trans ?_))
      exact ref_head (hb_num (by rw [← pbN hl]; exact hpaN))
    · simp only [h_cons, h_nil, and_true] at hp
      obtain ⟨hpaH, hpaL1, hB6, hpaL0, hpaE, hpaK, hB8, hpaG0, hpaP, hpaT, hpaM, hpa0e, hpa0l, hfirstE, hpa0m⟩ := hp
      have hPt : pointL (bodyL l) = true := by rw [← tPt hl]; exact hpaP
      rw [retS3]
      refine congrArg pairV (Eq.symm ((ref_eq l).symm.trans ?_))
      exact ref_head (hb_head (by rw [← pbL1 hl]; exact hpaL1) (by rw [← pbH hl]; exact hpaH))
    · simp only [h_cons, h_nil, and_true] at hp
      obtain ⟨hpaZ, hpaH, hpaL1, hB6, hpaL0, hpaE, hpaK, hB8, hpaG0, hpaP, hpaT, hpaM, hpa0e, hpa0l, hfirstE, hpa0m⟩ := hp
      have hPt : pointL (bodyL l) = true := by rw [← tPt hl]; exact hpaP
      rw [retS3]
      refine congrArg pairV (Eq.symm ((ref_eq l).symm.trans ?_))
      exact ref_head (hb_zero hn (by rw [← pbZ]; exact hpaZ))
    · simp only [h_cons, h_nil, and_true] at hp
      obtain ⟨hpaX, hpaZ, hpaH, hpaL1, hB6, hpaL0, hpaE, hpaK, hB8, hpaG0, hpaP, hpaT, hpaM, hpa0e, hpa0l, hfirstE, hpa0m⟩ := hp
      have hPt : pointL (bodyL l) = true := by rw [← tPt hl]; exact hpaP
      rw [retS3]
      refine congrArg pairV (Eq.symm ((ref_eq l).symm.trans ?_))
      exact ref_x hPt (by rw [← pbB8]; exact hB8) (by rw [← pbG0 hl]; exact hpaG0) (by rw [← pbK hl]; exact hpaK) (by rw [← pbE hl]; exact hpaE) (by rw [← pbX]; exact hpaX)
    · simp only [h_cons, h_nil, and_true] at hp
      obtain ⟨hpaX, hpaZ, hpaH, hpaL1, hB6, hpaL0, hpaE, hpaK, hB8, hpaG0, hpaP, hpaT, hpaM, hpa0e, hpa0l, hfirstE, hpa0m⟩ := hp
      have hPt : pointL (bodyL l) = true := by rw [← tPt hl]; exact hpaP
      rw [show retOf true (valsOf _ rA) = _ from ret17, satW_eq (show (wholeL (bodyL l)).all dig = true by rw [← pbB6]; exact hB6)]
      refine congrArg pairV (Eq.symm ((ref_eq l).symm.trans ?_))
      rw [hn]
      exact ref_good hPt (by rw [← pbB8]; exact hB8) (by rw [← pbG0 hl]; exact hpaG0) (by rw [← pbK hl]; exact hpaK) (by rw [← pbE hl]; exact hpaE) (by rw [← pbX]; exact hpaX) (hb_good (by rw [← pbB6]; exact hB6) (by rw [← pbL0 hl]; exact hpaL0) (.inr (by rw [← pbH hl]; exact hpaH)) (.inr (by rw [← pbZ]; exact hpaZ)))
    · simp only [h_cons, h_nil, and_true] at hp
      obtain ⟨hpaZ, hpaL1, hB6, hpaL0, hpaE, hpaK, hB8, hpaG0, hpaP, hpaT, hpaM, hpa0e, hpa0l, hfirstE, hpa0m⟩ := hp
      have hPt : pointL (bodyL l) = true := by rw [← tPt hl]; exact hpaP
      rw [retS3]
      refine congrArg pairV (Eq.symm ((ref_eq l).symm.trans ?_))
      exact ref_head (hb_zero hn (by rw [← pbZ]; exact hpaZ))
    · simp only [h_cons, h_nil, and_true] at hp
      obtain ⟨hpaX, hpaZ, hpaL1, hB6, hpaL0, hpaE, hpaK, hB8, hpaG0, hpaP, hpaT, hpaM, hpa0e, hpa0l, hfirstE, hpa0m⟩ := hp
      have hPt : pointL (bodyL l) = true := by rw [← tPt hl]; exact hpaP
      rw [retS3]
      refine congrArg pairV (Eq.symm ((ref_eq l).symm.trans ?_))
      exact ref_x hPt (by rw [← pbB8]; exact hB8) (by rw [← pbG0 hl]; exact hpaG0) (by rw [← pbK hl]; exact hpaK) (by rw [← pbE hl]; exact hpaE) (by rw [← pbX]; exact hpaX)
    · simp only [h_cons, h_nil, and_true] at hp
      obtain ⟨hpaX, hpaZ, hpaL1, hB6, hpaL0, hpaE, hpaK, hB8, hpaG0, hpaP, hpaT, hpaM, hpa0e, hpa0l, hfirstE, hpa0m⟩ := hp
      have hPt : pointL (bodyL l) = true := by rw [← tPt hl]; exact hpaP
      rw [show retOf true (valsOf _ rA) = _ from ret17, satW_eq (show (wholeL (bodyL l)).all dig = true by rw [← pbB6]; exact hB6)]
      refine congrArg pairV (Eq.symm ((ref_eq l).symm.trans ?_))
      rw [hn]
      exact ref_good hPt (by rw [← pbB8]; exact hB8) (by rw [← pbG0 hl]; exact hpaG0) (by rw [← pbK hl]; exact hpaK) (by rw [← pbE hl]; exact hpaE) (by rw [← pbX]; exact hpaX) (hb_good (by rw [← pbB6]; exact hB6) (by rw [← pbL0 hl]; exact hpaL0) (.inl (by rw [← pbL1 hl]; exact hpaL1)) (.inr (by rw [← pbZ]; exact hpaZ)))
    · simp only [h_cons, h_nil, and_true] at hp
      obtain ⟨hpaN, hpaQ, hpaP, hpaT, hpaM, hpa0e, hpa0l, hfirstE, hpa0m⟩ := hp
      have hPt : pointL (bodyL l) = false := by rw [← tPt hl]; exact hpaP
      rw [retS3]
      refine congrArg pairV (Eq.symm ((ref_eq l).symm.trans ?_))
      exact ref_head (hb_num (by rw [← pbN hl]; exact hpaN))
    · simp only [h_cons, h_nil, and_true] at hp
      obtain ⟨hpaH, hpaL1, hB6, hpaL0, hpaQ, hpaP, hpaT, hpaM, hpa0e, hpa0l, hfirstE, hpa0m⟩ := hp
      have hPt : pointL (bodyL l) = false := by rw [← tPt hl]; exact hpaP
      rw [retS3]
      refine congrArg pairV (Eq.symm ((ref_eq l).symm.trans ?_))
      exact ref_head (hb_head (by rw [← pbL1 hl]; exact hpaL1) (by rw [← pbH hl]; exact hpaH))
    · simp only [h_cons, h_nil, and_true] at hp
      obtain ⟨hpaZ, hpaH, hpaL1, hB6, hpaL0, hpaQ, hpaP, hpaT, hpaM, hpa0e, hpa0l, hfirstE, hpa0m⟩ := hp
      have hPt : pointL (bodyL l) = false := by rw [← tPt hl]; exact hpaP
      rw [retS3]
      refine congrArg pairV (Eq.symm ((ref_eq l).symm.trans ?_))
      exact ref_head (hb_zero hn (by rw [← pbZ]; exact hpaZ))
    · simp only [h_cons, h_nil, and_true] at hp
      obtain ⟨hpaZ, hpaH, hpaL1, hB6, hpaL0, hpaQ, hpaP, hpaT, hpaM, hpa0e, hpa0l, hfirstE, hpa0m⟩ := hp
      have hPt : pointL (bodyL l) = false := by rw [← tPt hl]; exact hpaP
      rw [show retOf true (valsOf _ rB) = _ from ret19, satW_eq (show (wholeL (bodyL l)).all dig = true by rw [← pbB6]; exact hB6)]
      refine congrArg pairV (Eq.symm ((ref_eq l).symm.trans ?_))
      rw [hn]
      exact ref_none hPt (hb_good (by rw [← pbB6]; exact hB6) (by rw [← pbL0 hl]; exact hpaL0) (.inr (by rw [← pbH hl]; exact hpaH)) (.inr (by rw [← pbZ]; exact hpaZ)))
    · simp only [h_cons, h_nil, and_true] at hp
      obtain ⟨hpaZ, hpaL1, hB6, hpaL0, hpaQ, hpaP, hpaT, hpaM, hpa0e, hpa0l, hfirstE, hpa0m⟩ := hp
      have hPt : pointL (bodyL l) = false := by rw [← tPt hl]; exact hpaP
      rw [retS3]
      refine congrArg pairV (Eq.symm ((ref_eq l).symm.trans ?_))
      exact ref_head (hb_zero hn (by rw [← pbZ]; exact hpaZ))
    · simp only [h_cons, h_nil, and_true] at hp
      obtain ⟨hpaZ, hpaL1, hB6, hpaL0, hpaQ, hpaP, hpaT, hpaM, hpa0e, hpa0l, hfirstE, hpa0m⟩ := hp
      have hPt : pointL (bodyL l) = false := by rw [← tPt hl]; exact hpaP
      rw [show retOf true (valsOf _ rB) = _ from ret19, satW_eq (show (wholeL (bodyL l)).all dig = true by rw [← pbB6]; exact hB6)]
      refine congrArg pairV (Eq.symm ((ref_eq l).symm.trans ?_))
      rw [hn]
      exact ref_none hPt (hb_good (by rw [← pbB6]; exact hB6) (by rw [← pbL0 hl]; exact hpaL0) (.inl (by rw [← pbL1 hl]; exact hpaL1)) (.inr (by rw [← pbZ]; exact hpaZ)))
    · simp only [h_cons, h_nil, and_true] at hp
      obtain ⟨hpaQ, hpaP, hpaT, hpaM, hpa0e, hpa0l, hfirstE, hpa0m⟩ := hp
      exact absurd hpaQ (by rw [pbQ hl (by rw [← tPt hl]; exact hpaP)]; simp)
    · simp only [h_cons, h_nil, and_true] at hp
      obtain ⟨hpaT, hpaM, hpa0e, hpa0l, hfirstE, hpa0m⟩ := hp
      exact absurd hpaT (by rw [pbT hl]; simp)
)
  exact this
theorem rparse_f (h0 : l ≠ []) (hn : negL l = false) : Fnc Tryd.prog tb.glob 15 #[.string (tx l)] (pairV (parseL l)) := by
  have := fnc_run (tb := tbX) (tbO_ok _) (tbO_wf _) (specL_X hl hn) (kn := kn0) (n0 := 300) (n1 := 300) kn_none (pcX_ok hl h0 hn) (f := 15) (args := [xv 0]) (by rfl) (run_Xf _) (res := pairV (parseL l)) (by
    unfold MXf
    rw [all_cons, all_cons, all_cons, all_cons, all_cons, all_cons, all_cons, all_cons, all_cons, all_cons, all_cons, all_cons, all_cons, all_cons, all_cons, all_cons]
    refine ⟨fun hp => ?_, fun hp => ?_, fun hp => ?_, fun hp => ?_, fun hp => ?_, fun hp => ?_, fun hp => ?_, fun hp => ?_, fun hp => ?_, fun hp => ?_, fun hp => ?_, fun hp => ?_, fun hp => ?_, fun hp => ?_, fun hp => ?_, fun hp => ?_, fun _ h => by simp at h⟩
    · simp only [h_cons, h_nil, and_true] at hp
      obtain ⟨hpaM, hpa0e, hpa0l, hfirstE, hpa0m⟩ := hp
      exact absurd hpaM (by rw [pbM hl]; simp)
    · simp only [h_cons, h_nil, and_true] at hp
      obtain ⟨hpaG, hpaP, hpaT, hpaM, hpa0e, hpa0l, hfirstE, hpa0m⟩ := hp
      have hPt : pointL (bodyL l) = true := by rw [← tPt hl]; exact hpaP
      rw [retS3]
      refine congrArg pairV (Eq.symm ((ref_eq l).symm.trans ?_))
      exact ref_bad hPt (.inl (by rw [← pbG hl]; exact hpaG))
    · simp only [h_cons, h_nil, and_true] at hp
      obtain ⟨hpaK, hB8, hpaG0, hpaP, hpaT, hpaM, hpa0e, hpa0l, hfirstE, hpa0m⟩ := hp
      have hPt : pointL (bodyL l) = true := by rw [← tPt hl]; exact hpaP
      rw [retS3]
      refine congrArg pairV (Eq.symm ((ref_eq l).symm.trans ?_))
      exact ref_bad hPt (.inr (.inl (by rw [← pbK hl]; exact hpaK)))
    · simp only [h_cons, h_nil, and_true] at hp
      obtain ⟨hpaE, hpaK, hB8, hpaG0, hpaP, hpaT, hpaM, hpa0e, hpa0l, hfirstE, hpa0m⟩ := hp
      have hPt : pointL (bodyL l) = true := by rw [← tPt hl]; exact hpaP
      rw [retS3]
      refine congrArg pairV (Eq.symm ((ref_eq l).symm.trans ?_))
      exact ref_bad hPt (.inr (.inr (by rw [← pbE hl]; exact hpaE)))
    · simp only [h_cons, h_nil, and_true] at hp
      obtain ⟨hpaN, hpaE, hpaK, hB8, hpaG0, hpaP, hpaT, hpaM, hpa0e, hpa0l, hfirstE, hpa0m⟩ := hp
      have hPt : pointL (bodyL l) = true := by rw [← tPt hl]; exact hpaP
      rw [retS3]
      refine congrArg pairV (Eq.symm ((ref_eq l).symm.trans ?_))
      exact ref_head (hb_num (by rw [← pbN hl]; exact hpaN))
    · simp only [h_cons, h_nil, and_true] at hp
      obtain ⟨hpaH, hpaL1, hB6, hpaL0, hpaE, hpaK, hB8, hpaG0, hpaP, hpaT, hpaM, hpa0e, hpa0l, hfirstE, hpa0m⟩ := hp
      have hPt : pointL (bodyL l) = true := by rw [← tPt hl]; exact hpaP
      rw [retS3]
      refine congrArg pairV (Eq.symm ((ref_eq l).symm.trans ?_))
      exact ref_head (hb_head (by rw [← pbL1 hl]; exact hpaL1) (by rw [← pbH hl]; exact hpaH))
    · simp only [h_cons, h_nil, and_true] at hp
      obtain ⟨hpaX, hpaH, hpaL1, hB6, hpaL0, hpaE, hpaK, hB8, hpaG0, hpaP, hpaT, hpaM, hpa0e, hpa0l, hfirstE, hpa0m⟩ := hp
      have hPt : pointL (bodyL l) = true := by rw [← tPt hl]; exact hpaP
      rw [retS3]
      refine congrArg pairV (Eq.symm ((ref_eq l).symm.trans ?_))
      exact ref_x hPt (by rw [← pbB8]; exact hB8) (by rw [← pbG0 hl]; exact hpaG0) (by rw [← pbK hl]; exact hpaK) (by rw [← pbE hl]; exact hpaE) (by rw [← pbX]; exact hpaX)
    · simp only [h_cons, h_nil, and_true] at hp
      obtain ⟨hpaX, hpaH, hpaL1, hB6, hpaL0, hpaE, hpaK, hB8, hpaG0, hpaP, hpaT, hpaM, hpa0e, hpa0l, hfirstE, hpa0m⟩ := hp
      have hPt : pointL (bodyL l) = true := by rw [← tPt hl]; exact hpaP
      rw [show retOf true (valsOf _ rA) = _ from ret17, satW_eq (show (wholeL (bodyL l)).all dig = true by rw [← pbB6]; exact hB6)]
      refine congrArg pairV (Eq.symm ((ref_eq l).symm.trans ?_))
      rw [hn]
      exact ref_good hPt (by rw [← pbB8]; exact hB8) (by rw [← pbG0 hl]; exact hpaG0) (by rw [← pbK hl]; exact hpaK) (by rw [← pbE hl]; exact hpaE) (by rw [← pbX]; exact hpaX) (hb_good (by rw [← pbB6]; exact hB6) (by rw [← pbL0 hl]; exact hpaL0) (.inr (by rw [← pbH hl]; exact hpaH)) (.inl rfl))
    · simp only [h_cons, h_nil, and_true] at hp
      obtain ⟨hpaX, hpaL1, hB6, hpaL0, hpaE, hpaK, hB8, hpaG0, hpaP, hpaT, hpaM, hpa0e, hpa0l, hfirstE, hpa0m⟩ := hp
      have hPt : pointL (bodyL l) = true := by rw [← tPt hl]; exact hpaP
      rw [retS3]
      refine congrArg pairV (Eq.symm ((ref_eq l).symm.trans ?_))
      exact ref_x hPt (by rw [← pbB8]; exact hB8) (by rw [← pbG0 hl]; exact hpaG0) (by rw [← pbK hl]; exact hpaK) (by rw [← pbE hl]; exact hpaE) (by rw [← pbX]; exact hpaX)
    · simp only [h_cons, h_nil, and_true] at hp
      obtain ⟨hpaX, hpaL1, hB6, hpaL0, hpaE, hpaK, hB8, hpaG0, hpaP, hpaT, hpaM, hpa0e, hpa0l, hfirstE, hpa0m⟩ := hp
      have hPt : pointL (bodyL l) = true := by rw [← tPt hl]; exact hpaP
      rw [show retOf true (valsOf _ rA) = _ from ret17, satW_eq (show (wholeL (bodyL l)).all dig = true by rw [← pbB6]; exact hB6)]
      refine congrArg pairV (Eq.symm ((ref_eq l).symm.trans ?_))
      rw [hn]
      exact ref_good hPt (by rw [← pbB8]; exact hB8) (by rw [← pbG0 hl]; exact hpaG0) (by rw [← pbK hl]; exact hpaK) (by rw [← pbE hl]; exact hpaE) (by rw [← pbX]; exact hpaX) (hb_good (by rw [← pbB6]; exact hB6) (by rw [← pbL0 hl]; exact hpaL0) (.inl (by rw [← pbL1 hl]; exact hpaL1)) (.inl rfl))
    · simp only [h_cons, h_nil, and_true] at hp
      obtain ⟨hpaN, hpaQ, hpaP, hpaT, hpaM, hpa0e, hpa0l, hfirstE, hpa0m⟩ := hp
      have hPt : pointL (bodyL l) = false := by rw [← tPt hl]; exact hpaP
      rw [retS3]
      refine congrArg pairV (Eq.symm ((ref_eq l).symm.trans ?_))
      exact ref_head (hb_num (by rw [← pbN hl]; exact hpaN))
    · simp only [h_cons, h_nil, and_true] at hp
      obtain ⟨hpaH, hpaL1, hB6, hpaL0, hpaQ, hpaP, hpaT, hpaM, hpa0e, hpa0l, hfirstE, hpa0m⟩ := hp
      have hPt : pointL (bodyL l) = false := by rw [← tPt hl]; exact hpaP
      rw [retS3]
      refine congrArg pairV (Eq.symm ((ref_eq l).symm.trans ?_))
      exact ref_head (hb_head (by rw [← pbL1 hl]; exact hpaL1) (by rw [← pbH hl]; exact hpaH))
    · simp only [h_cons, h_nil, and_true] at hp
      obtain ⟨hpaH, hpaL1, hB6, hpaL0, hpaQ, hpaP, hpaT, hpaM, hpa0e, hpa0l, hfirstE, hpa0m⟩ := hp
      have hPt : pointL (bodyL l) = false := by rw [← tPt hl]; exact hpaP
      rw [show retOf true (valsOf _ rB) = _ from ret19, satW_eq (show (wholeL (bodyL l)).all dig = true by rw [← pbB6]; exact hB6)]
      refine congrArg pairV (Eq.symm ((ref_eq l).symm.trans ?_))
      rw [hn]
      exact ref_none hPt (hb_good (by rw [← pbB6]; exact hB6) (by rw [← pbL0 hl]; exact hpaL0) (.inr (by rw [← pbH hl]; exact hpaH)) (.inl rfl))
    · simp only [h_cons, h_nil, and_true] at hp
      obtain ⟨hpaL1, hB6, hpaL0, hpaQ, hpaP, hpaT, hpaM, hpa0e, hpa0l, hfirstE, hpa0m⟩ := hp
      have hPt : pointL (bodyL l) = false := by rw [← tPt hl]; exact hpaP
      rw [show retOf true (valsOf _ rB) = _ from ret19, satW_eq (show (wholeL (bodyL l)).all dig = true by rw [← pbB6]; exact hB6)]
      refine congrArg pairV (Eq.symm ((ref_eq l).symm.trans ?_))
      rw [hn]
      exact ref_none hPt (hb_good (by rw [← pbB6]; exact hB6) (by rw [← pbL0 hl]; exact hpaL0) (.inl (by rw [← pbL1 hl]; exact hpaL1)) (.inl rfl))
    · simp only [h_cons, h_nil, and_true] at hp
      obtain ⟨hpaQ, hpaP, hpaT, hpaM, hpa0e, hpa0l, hfirstE, hpa0m⟩ := hp
      exact absurd hpaQ (by rw [pbQ hl (by rw [← tPt hl]; exact hpaP)]; simp)
    · simp only [h_cons, h_nil, and_true] at hp
      obtain ⟨hpaT, hpaM, hpa0e, hpa0l, hfirstE, hpa0m⟩ := hp
      exact absurd hpaT (by rw [pbT hl]; simp)
)
  exact this
end
theorem run_Xe (r : Nat → Value) : outsF (callF kn0 Tryd.prog (tb.atS r noSp noLp) 300 300 [] 15 [.val (.string ⟨#[]⟩)] H0) = some [([], true, [(.int .i32, .int .i32 0), (.int .i64, .int .i64 3)])] := by kernel_rfl
/-- **The reference's Parse.** -/
theorem rparse_fnc {l : List UInt8} (hl : l.length ≤ 1000) : Fnc Tryd.prog tb.glob 15 #[.string (tx l)] (pairV (parseL l)) := by
  by_cases h0 : l = []
  · subst h0
    have := fnc_run tb_ok tb_wf (base_ok (fun _ => .bool true)) (kn := kn0) (n0 := 300) (n1 := 300) kn_none (PC.holds_nil _) (f := 15) (args := [.val (.string ⟨#[]⟩)]) (by rfl) (run_Xe _) (res := pairV (parseL [])) (by
      rw [all_cons]
      exact ⟨fun _ => rfl, fun _ h => by simp at h⟩)
    exact this
  · cases hn : negL l with
    | true => exact rparse_t hl h0 hn
    | false => exact rparse_f hl h0 hn
end
end Go.Proofs.YtkjfpjammlihpaaDoor
