/- The reference's Parse: the loops, by induction. -/
import Derived.Test.YtkjfpjammlihpaaDoorFxPa
set_option linter.unusedVariables false
set_option linter.unusedSimpArgs false
namespace Go.Proofs.YtkjfpjammlihpaaDoor
open Go.Sx Go.ChangeShapes Go.WideShapes Go.ChangeAt Go.RowKit Go.Dec
noncomputable section

/-! ### What the loops work out -/
theorem at_point : ∀ (t : List UInt8) (k : Nat) (h : k < t.length), k ≤ (wholeL t).length → (t[k] == 46) = decide (k = (wholeL t).length)
  | [], k, h, _ => absurd h (by simp)
  | b :: t, k, h, hk => by
    cases hb : b == 46 with
    | true =>
      have e2 : wholeL (b :: t) = [] := by show List.takeWhile _ _ = _; rw [List.takeWhile_cons, if_neg]; simpa using hb
      rw [e2] at hk ⊢
      obtain rfl : k = 0 := by simpa using hk
      show (b == 46) = _
      rw [hb]
      rfl
    | false =>
      have e2 : wholeL (b :: t) = b :: wholeL t := by show List.takeWhile _ _ = _; rw [List.takeWhile_cons, if_pos]; rfl; simpa using hb
      rw [e2] at hk ⊢
      cases k with
      | zero =>
        show (b == 46) = _
        rw [hb]
        rfl
      | succ k =>
        show (t[k]'(by simpa using h) == 46) = _
        rw [at_point t k (by simpa using h) (by simpa using hk), List.length_cons]
        exact decide_eq_decide.2 (by omega)
def xW (p : List UInt8) : Nat → Nat
  | 0 => 0
  | k + 1 => xW p k * 10 + (if h : k < p.length then dW p[k] else 0)
theorem xW_le (p : List UInt8) : ∀ k, xW p k + 29 ≤ 29 * 10 ^ k
  | 0 => by simp [xW]
  | k + 1 => by
    have ih := xW_le p k
    unfold xW
    rw [Nat.pow_succ]
    split
    · rename_i h
      have : dW p[k] < 256 := Nat.mod_lt _ (by decide)
      omega
    · omega
theorem xW_take {p : List UInt8} : ∀ k, k ≤ p.length → xW p k = valW (p.take k)
  | 0, _ => by simp [xW, valW]
  | k + 1, h => by
    unfold xW
    rw [dif_pos (show k < p.length by omega), xW_take k (by omega), valW_take (show k < p.length by omega), Nat.mul_comm]
theorem xW_pad (p : List UInt8) : ∀ j, xW p (p.length + j) = valW p * 10 ^ j
  | 0 => by rw [Nat.add_zero, xW_take _ (Nat.le_refl _), List.take_length, Nat.pow_zero, Nat.mul_one]
  | j + 1 => by
    show xW p (p.length + j + 1) = _
    unfold xW
    rw [dif_neg (by omega), xW_pad p j, Nat.add_zero, Nat.pow_succ, Nat.mul_assoc]
theorem xW_8 {p : List UInt8} (hd : p.all dig = true) (h8 : p.length ≤ 8) : xW p 8 = xL p := by
  have := xW_pad p (8 - p.length)
  rw [show p.length + (8 - p.length) = 8 by omega] at this
  rw [this, valW_eq hd]
  rfl
def satW (w : List UInt8) : Nat := w.foldl (fun n b => min (n * 10 + dW b) 1099511627776) 0
theorem satW_snoc (w : List UInt8) (b : UInt8) : satW (w ++ [b]) = min (satW w * 10 + dW b) 1099511627776 := by
  unfold satW
  rw [List.foldl_append]
  rfl
theorem satW_take {w : List UInt8} {k : Nat} (h : k < w.length) : satW (w.take (k + 1)) = min (satW (w.take k) * 10 + dW w[k]) 1099511627776 := by
  rw [← List.take_append_getElem h, satW_snoc]
theorem satW_le (w : List UInt8) : satW w ≤ 1099511627776 := by
  have aux : ∀ (l : List UInt8), satW l.reverse ≤ 1099511627776 := by
    intro l
    cases l with
    | nil => simp [satW]
    | cons b l =>
      rw [List.reverse_cons, satW_snoc]
      exact Nat.min_le_right _ _
  have := aux w.reverse
  rwa [List.reverse_reverse] at this
theorem sat_dig : ∀ (l : List UInt8) (n : Nat), l.all dig = true → l.foldl (fun n b => min (n * 10 + dW b) 1099511627776) n = l.foldl (fun n b => min (n * 10 + (b.toNat - 48)) 1099511627776) n
  | [], n, _ => rfl
  | b :: l, n, h => by
    simp only [List.all_cons, Bool.and_eq_true] at h
    simp only [List.foldl_cons]
    rw [dW_dig h.1]
    exact sat_dig l _ h.2
theorem satW_eq {l : List UInt8} (h : l.all dig = true) : satW l = satL l := sat_dig l 0 h

def rhoX (l : List UInt8) (b : Bool) (k0 k2 k4 : Nat) (n : Nat) : Value :=
  match n with
  | 0 => .string (tx l)
  | 1 => .string (tx (bodyL l))
  | 3 => .string (tx (wholeL (bodyL l)))
  | 4 => .string (tx (partL (bodyL l)))
  | 6 => .bool ((wholeL (bodyL l)).all dig)
  | 8 => .bool ((partL (bodyL l)).all dig)
  | 9 => .int .i64 ((wholeL (bodyL l)).length : Nat)
  | 10 => .int .i64 k0
  | 11 => .int .u64 (xW (partL (bodyL l)) k2 : Nat)
  | 12 => .int .i64 k2
  | 13 => .int .u64 (xW (partL (bodyL l)) 8 : Nat)
  | 14 => .int .u64 (satW ((wholeL (bodyL l)).take k4) : Nat)
  | 15 => .int .i64 k4
  | 16 => .int .u64 (satW (wholeL (bodyL l)) : Nat)
  | 17 => .int .i32 (fitN b (satW (wholeL (bodyL l)) * 256 + xW (partL (bodyL l)) 8 / 390625)).1
  | 18 => .int .i64 (fitN b (satW (wholeL (bodyL l)) * 256 + xW (partL (bodyL l)) 8 / 390625)).2
  | 19 => .int .i32 (fitN b (satW (wholeL (bodyL l)) * 256)).1
  | _ => .int .i64 (fitN b (satW (wholeL (bodyL l)) * 256)).2
section
variable {l : List UInt8} {b : Bool} {k0 k2 k4 : Nat} (hl : l.length ≤ 1000)
theorem ret17 : retOf true (valsOf (rhoX l b k0 k2 k4) [(.int .i32, .ivar .i32 17), (.int .i64, .ivar .i64 18)]) = pairV (fitN b (satW (wholeL (bodyL l)) * 256 + xW (partL (bodyL l)) 8 / 390625)) := by
  obtain ⟨⟨h1, h2⟩, h3, h4⟩ := fitN_range b (satW (wholeL (bodyL l)) * 256 + xW (partL (bodyL l)) 8 / 390625)
  show pairV ((SE.ivar .i32 17).num (rhoX l b k0 k2 k4), (SE.ivar .i64 18).num (rhoX l b k0 k2 k4)) = _
  rw [show (SE.ivar .i32 17).num (rhoX l b k0 k2 k4) = _ from wid_i32 _ h1 h2, show (SE.ivar .i64 18).num (rhoX l b k0 k2 k4) = _ from wid_i64 _ (by omega) (by omega)]
theorem ret19 : retOf true (valsOf (rhoX l b k0 k2 k4) [(.int .i32, .ivar .i32 19), (.int .i64, .ivar .i64 20)]) = pairV (fitN b (satW (wholeL (bodyL l)) * 256)) := by
  obtain ⟨⟨h1, h2⟩, h3, h4⟩ := fitN_range b (satW (wholeL (bodyL l)) * 256)
  show pairV ((SE.ivar .i32 19).num (rhoX l b k0 k2 k4), (SE.ivar .i64 20).num (rhoX l b k0 k2 k4)) = _
  rw [show (SE.ivar .i32 19).num (rhoX l b k0 k2 k4) = _ from wid_i32 _ h1 h2, show (SE.ivar .i64 20).num (rhoX l b k0 k2 k4) = _ from wid_i64 _ (by omega) (by omega)]
theorem nX13 : (SE.ivar .u64 13).num (rhoX l b k0 k2 k4) = (xW (partL (bodyL l)) 8 : Int) := by
  have := xW_le (partL (bodyL l)) 8
  exact wid_u64 _ (by omega) (by omega)
theorem nX16 : (SE.ivar .u64 16).num (rhoX l b k0 k2 k4) = (satW (wholeL (bodyL l)) : Int) := by
  have := satW_le (wholeL (bodyL l))
  exact wid_u64 _ (by omega) (by omega)
theorem nXq : (SE.bin .quo .u64 (.ivar .u64 13) (.int .u64 390625)).num (rhoX l b k0 k2 k4) = ((xW (partL (bodyL l)) 8 / 390625 : Nat) : Int) := by
  have := xW_le (partL (bodyL l)) 8
  rw [n_quo, if_neg (by rw [n_int]; decide), n_int, nX13, Int.tdiv_eq_ediv_of_nonneg (Int.natCast_nonneg _), wid_u64 _ (by omega) (by omega)]
  omega
theorem nXm : (SE.bin .mul .u64 (.ivar .u64 16) (.int .u64 256)).num (rhoX l b k0 k2 k4) = ((satW (wholeL (bodyL l)) * 256 : Nat) : Int) := by
  have := satW_le (wholeL (bodyL l))
  rw [n_mul, nX16, n_int, wid_u64 _ (by omega) (by omega)]
  omega
theorem nXa : sumA.num (rhoX l b k0 k2 k4) = ((satW (wholeL (bodyL l)) * 256 + xW (partL (bodyL l)) 8 / 390625 : Nat) : Int) := by
  have := satW_le (wholeL (bodyL l))
  have := xW_le (partL (bodyL l)) 8
  unfold sumA
  rw [n_add, nXq, nXm, wid_u64 _ (by omega) (by omega)]
  omega
theorem nXb : sumB.num (rhoX l b k0 k2 k4) = ((satW (wholeL (bodyL l)) * 256 : Nat) : Int) := by
  have := satW_le (wholeL (bodyL l))
  unfold sumB
  rw [n_add, n_int, nXm, wid_u64 _ (by omega) (by omega)]
  omega
theorem eNx_ok {e : SE} {c : Nat} {ρ : Nat → Value} {m : List UInt8} (hm : m.length ≤ 1000) (he : e.text ρ = tx m) (hb : ρ c = .bool (m.all dig)) : EntryOk Tryd.prog tb.glob ρ (eNx e c) where
  known := ⟨Tryd.f37, Tryd.func37, by kernel_rfl, by kernel_rfl⟩
  scal := rfl
  res := rfl
  facts := fun q hq => by simp [eNx] at hq
  fnc := by
    have e2 : (SE.and (.bvar c) (.cmp .lss (.int .i64 0) (.len e))).val ρ .bool = .bool (isNum m) := by
      show Value.bool (truthOf (ρ c) && (SE.cmp .lss (.int .i64 0) (.len e)).truth ρ) = _
      rw [hb, (truth_cmp _ _ _).2.2.1, n_int]
      have e3 : (SE.len e).num ρ = (m.length : Int) := by
        show ((e.text ρ).size : Int) = _
        rw [he, size_tx]
      rw [e3]
      show Value.bool (m.all dig && decide ((0 : Int) < (m.length : Int))) = _
      rw [show decide ((0 : Int) < (m.length : Int)) = !m.isEmpty from pos_empty m, isNum_all, Bool.and_comm]
    show Fnc _ _ 37 #[Value.string (e.text ρ)] ((SE.and (.bvar c) (.cmp .lss (.int .i64 0) (.len e))).val ρ .bool)
    rw [he, e2]
    exact number_fnc hm
include hl
theorem wl : (wholeL (bodyL l)).length ≤ 1000 := Nat.le_trans (whole_le _) (Nat.le_trans (body_le l) hl)
theorem nX9 : (SE.ivar .i64 9).num (rhoX l b k0 k2 k4) = ((wholeL (bodyL l)).length : Int) := by
  have := wl hl
  exact wid_i64 _ (by omega) (by omega)
omit hl in
theorem nX1L : (SE.len (.svar 1)).num (rhoX l b k0 k2 k4) = ((bodyL l).length : Int) := by
  show ((tx (bodyL l)).size : Int) = _
  rw [size_tx]
theorem textW : subW.text (rhoX l b k0 k2 k4) = tx (wholeL (bodyL l)) := by
  show (tx (bodyL l)).extract 0 ((SE.ivar .i64 9).num (rhoX l b k0 k2 k4)).toNat = _
  rw [nX9 hl, Int.toNat_natCast, tx_extract]
  exact congrArg tx (whole_take _)
theorem textP : subP.text (rhoX l b k0 k2 k4) = tx (partL (bodyL l)) := by
  have := wl hl
  have e1 : (SE.bin .add .i64 (.ivar .i64 9) (.int .i64 1)).num (rhoX l b k0 k2 k4) = (((wholeL (bodyL l)).length + 1 : Nat) : Int) := by
    rw [n_add, nX9 hl, n_int, wid_i64 _ (by omega) (by omega)]
    omega
  show (tx (bodyL l)).extract ((SE.bin .add .i64 (.ivar .i64 9) (.int .i64 1)).num (rhoX l b k0 k2 k4)).toNat ((SE.len (.svar 1)).num (rhoX l b k0 k2 k4)).toNat = _
  rw [e1, nX1L, Int.toNat_natCast, Int.toNat_natCast, tx_extract, part_drop, List.take_of_length_le (by rw [← part_drop, List.length_drop]; omega)]
omit hl in
theorem first_truth : firstE.truth (rhoX l b k0 k2 k4) = negL l := by
  unfold firstE
  rw [(truth_cmp _ _ _).1, n_int]
  have e : (SE.byte (.svar 0) (.int .i64 0)).num (rhoX l b k0 k2 k4) = byteAt (tx l) 0 := rfl
  rw [e]
  unfold negL
  cases l with
  | nil => rfl
  | cons c l =>
    have := byte_tx (c :: l) (x := 0) (by simp)
    rw [show byteAt (tx (c :: l)) 0 = (c.toNat : Int) from this]
    cases h : ((c :: l).head? == some 45) with
    | true =>
      have : c = 45 := by simpa using h
      rw [this]
      rfl
    | false =>
      rw [beq_eq_false_iff_ne]
      intro e
      have : c = 45 := UInt8.toNat_inj.1 (by show c.toNat = 45; omega)
      rw [this] at h
      exact absurd h (by simp)
variable (hn : negL l = b)
include hn
theorem entries_X : ∀ e, e ∈ [eNx subW 6, eNx subP 8, eFa b, eFb b] → EntryOk Tryd.prog tb.glob (rhoX l b k0 k2 k4) e := by
  have h1 := satW_le (wholeL (bodyL l))
  have h2 := xW_le (partL (bodyL l)) 8
  rw [all_cons, all_cons, all_cons, all_cons]
  refine ⟨eNx_ok (wl hl) (textW hl) rfl, eNx_ok (Nat.le_trans (part_le _) (Nat.le_trans (body_le l) hl)) (textP hl) rfl,
    ⟨⟨Tryd.f38, Tryd.func38, by kernel_rfl, by kernel_rfl⟩, rfl, rfl, fun q hq => by simp [eFa] at hq, ?_⟩, ⟨⟨Tryd.f38, Tryd.func38, by kernel_rfl, by kernel_rfl⟩, rfl, rfl, fun q hq => by simp [eFb] at hq, ?_⟩, fun _ h => by simp at h⟩
  · show Fnc _ _ 38 #[.bool (firstE.truth (rhoX l b k0 k2 k4)), .int .u64 (sumA.num (rhoX l b k0 k2 k4))] (retOf true (valsOf (rhoX l b k0 k2 k4) [(.int .i32, .ivar .i32 17), (.int .i64, .ivar .i64 18)]))
    rw [first_truth, hn, nXa, ret17]
    exact fit_fnc (by omega) (.inr rfl)
  · show Fnc _ _ 38 #[.bool (firstE.truth (rhoX l b k0 k2 k4)), .int .u64 (sumB.num (rhoX l b k0 k2 k4))] (retOf true (valsOf (rhoX l b k0 k2 k4) [(.int .i32, .ivar .i32 19), (.int .i64, .ivar .i64 20)]))
    rw [first_truth, hn, nXb, ret19]
    exact fit_fnc (by omega) (.inr rfl)
theorem spec_X : SpecOk Tryd.prog (tbX.atS (rhoX l b k0 k2 k4) (spX b) noLp) := spOf_ok (tb := tbX) (entries_X hl hn)
end
/-! ### The rounds -/
def M0 : List (PC × Sm) :=
  [([(.cmp .eql (.byte (.svar 1) (.ivar .i64 10)) (.int .u8 46), false), (.cmp .lss (.ivar .i64 10) (.len (.svar 1)), true), (.cmp .lss (.ivar .i64 10) (.int .i64 0), false)], .next [(10, .int .i64, .bin .add .i64 (.ivar .i64 10) (.int .i64 1))]),
   ([(.cmp .eql (.byte (.svar 1) (.ivar .i64 10)) (.int .u8 46), true), (.cmp .lss (.ivar .i64 10) (.len (.svar 1)), true), (.cmp .lss (.ivar .i64 10) (.int .i64 0), false)], .out 0 [(9, .int .i64, .ivar .i64 10)]),
   ([(.cmp .lss (.ivar .i64 10) (.len (.svar 1)), false), (.cmp .lss (.ivar .i64 10) (.int .i64 0), false)], .out 0 [(9, .int .i64, .ivar .i64 10)])]
def digE (s i : Nat) : SE := .conv .u64 (.bin .sub .u8 (.byte (.svar s) (.ivar .i64 i)) (.int .u8 48))
def M2 : List (PC × Sm) :=
  [([(.cmp .lss (.ivar .i64 12) (.len (.svar 4)), true), (.cmp .lss (.ivar .i64 12) (.int .i64 8), true), (.cmp .lss (.ivar .i64 12) (.int .i64 0), false)], .next [(11, .int .u64, .bin .add .u64 (.bin .mul .u64 (.ivar .u64 11) (.int .u64 10)) (digE 4 12)), (12, .int .i64, .bin .add .i64 (.ivar .i64 12) (.int .i64 1))]),
   ([(.cmp .lss (.ivar .i64 12) (.len (.svar 4)), false), (.cmp .lss (.ivar .i64 12) (.int .i64 8), true), (.cmp .lss (.ivar .i64 12) (.int .i64 0), false)], .next [(11, .int .u64, .bin .mul .u64 (.ivar .u64 11) (.int .u64 10)), (12, .int .i64, .bin .add .i64 (.ivar .i64 12) (.int .i64 1))]),
   ([(.cmp .lss (.ivar .i64 12) (.int .i64 8), false), (.cmp .lss (.ivar .i64 12) (.int .i64 0), false)], .out 0 [(13, .int .u64, .ivar .u64 11)])]
def M4 : List (PC × Sm) :=
  [([(.cmp .lss (.ivar .i64 15) (.len (.svar 3)), true), (.cmp .lss (.ivar .i64 15) (.int .i64 0), false)], .next [(14, .int .u64, .max false (.bin .add .u64 (.bin .mul .u64 (.ivar .u64 14) (.int .u64 10)) (digE 3 15)) (.int .u64 1099511627776)), (15, .int .i64, .bin .add .i64 (.ivar .i64 15) (.int .i64 1))]),
   ([(.cmp .lss (.ivar .i64 15) (.len (.svar 3)), false), (.cmp .lss (.ivar .i64 15) (.int .i64 0), false)], .out 0 [(16, .int .u64, .ivar .u64 14)])]
theorem run_0 (b : Bool) (r : Nat → Value) : rn0 b r = some M0 := by cases b <;> kernel_rfl
theorem run_2 (b : Bool) (r : Nat → Value) : rn2 b r = some M2 := by cases b <;> kernel_rfl
theorem run_4 (b : Bool) (r : Nat → Value) : rn4 b (uv 13) r = some M4 := by cases b <;> kernel_rfl
theorem run_4z (b : Bool) (r : Nat → Value) : rn4 b v0 r = some M4 := by cases b <;> kernel_rfl
section
variable {l : List UInt8} {b : Bool} (hl : l.length ≤ 1000)
include hl
theorem bl : (bodyL l).length ≤ 1000 := Nat.le_trans (body_le l) hl
theorem pl : (partL (bodyL l)).length ≤ 1000 := Nat.le_trans (part_le _) (bl hl)
def Inv0 (l : List UInt8) (k : Nat) : Prop := k ≤ (wholeL (bodyL l)).length
theorem nX10 {k : Nat} (hk : k ≤ (wholeL (bodyL l)).length) : (SE.ivar .i64 10).num (rhoX l b k 0 0) = k := by
  have := wl hl
  exact wid_i64 _ (by omega) (by omega)
theorem rounds_0 {D : LoopD} {k : Nat} (hk : Inv0 l k) : ∀ q, q ∈ M0 → q.1.holds (rhoX l b k 0 0) → SmOk S0 (fun k => rhoX l b k 0 0) (Inv0 l) (fun k => (wholeL (bodyL l)).length - k) D (fun _ => 0) k q.2 := by
  have hk' : k ≤ (wholeL (bodyL l)).length := hk
  have hw := wl hl
  have hwb := whole_le (bodyL l)
  have out : k = (wholeL (bodyL l)).length → SmOk S0 (fun k => rhoX l b k 0 0) (Inv0 l) (fun k => (wholeL (bodyL l)).length - k) D (fun _ => 0) k (.out 0 [(9, .int .i64, .ivar .i64 10)]) := fun h => by
    refine ⟨rfl, ?_⟩
    unfold UpdOk
    rw [all_cons]
    refine ⟨?_, fun _ h => by simp at h⟩
    show Value.int .i64 ((SE.ivar .i64 10).num (rhoX l b k 0 0)) = Value.int .i64 ((SE.ivar .i64 9).num (rhoX l b k 0 0))
    rw [nX10 hl hk', nX9 hl, h]
  have byte : ∀ h : k < (bodyL l).length, (SE.byte (.svar 1) (.ivar .i64 10)).num (rhoX l b k 0 0) = (((bodyL l)[k]'h).toNat : Int) := fun h => by
    show byteAt (tx (bodyL l)) ((SE.ivar .i64 10).num (rhoX l b k 0 0)) = _
    rw [nX10 hl hk', byte_tx _ h]
  have b46 : ∀ c : UInt8, ((c.toNat : Int) = 46) ↔ (c == 46) = true := fun c => by
    constructor
    · intro h
      have : c = 46 := UInt8.toNat_inj.1 (by show c.toNat = 46; omega)
      rw [this]
      rfl
    · intro h
      rw [eq_of_beq h]
      rfl
  unfold M0
  rw [all_cons, all_cons, all_cons]
  refine ⟨fun hp => ?_, fun hp => ?_, fun hp => ?_, fun _ h => by simp at h⟩
  · simp only [h_cons, h_nil, t_eql, t_lss, n_int, nX10 hl hk', nX1L, if_true, Bool.false_eq_true, if_false] at hp
    obtain ⟨g1, g2, _⟩ := hp
    have hlt : k < (bodyL l).length := by omega
    rw [byte hlt] at g1
    have h46 := at_point (bodyL l) k hlt hk'
    have hne : k ≠ (wholeL (bodyL l)).length := fun e => by
      rw [decide_eq_true e] at h46
      exact g1 ((b46 _).2 h46)
    refine ⟨k + 1, (by show k + 1 ≤ (wholeL (bodyL l)).length; omega), (by show (wholeL (bodyL l)).length - (k + 1) < (wholeL (bodyL l)).length - k; omega), fun n hn => ?_, ?_, rfl⟩
    · have hn : (Nat.ble n 9 || Nat.ble 11 n) = true := hn
      match n, hn with
      | 0, _ => rfl
      | 1, _ => rfl
      | 2, _ => rfl
      | 3, _ => rfl
      | 4, _ => rfl
      | 5, _ => rfl
      | 6, _ => rfl
      | 7, _ => rfl
      | 8, _ => rfl
      | 9, _ => rfl
      | 11, _ => rfl
      | 12, _ => rfl
      | 13, _ => rfl
      | 14, _ => rfl
      | 15, _ => rfl
      | 16, _ => rfl
      | 17, _ => rfl
      | 18, _ => rfl
      | 19, _ => rfl
      | _ + 20, _ => rfl
    · unfold UpdOk
      rw [all_cons]
      refine ⟨upd_F ?_ (nX10 hl (by omega)), fun _ h => by simp at h⟩
      rw [n_add, n_int, nX10 hl hk', wid_i64 _ (by omega) (by omega)]
      omega
  · simp only [h_cons, h_nil, t_eql, t_lss, n_int, nX10 hl hk', nX1L, if_true, Bool.false_eq_true, if_false] at hp
    obtain ⟨g1, g2, _⟩ := hp
    have hlt : k < (bodyL l).length := by omega
    rw [byte hlt] at g1
    have h46 := at_point (bodyL l) k hlt hk'
    rw [(b46 _).1 g1] at h46
    exact out (of_decide_eq_true h46.symm)
  · simp only [h_cons, h_nil, t_lss, n_int, nX10 hl hk', nX1L, if_true, Bool.false_eq_true, if_false] at hp
    exact out (by omega)
omit hl in
theorem nX11 {k : Nat} (hk : k ≤ 8) : (SE.ivar .u64 11).num (rhoX l b 0 k 0) = (xW (partL (bodyL l)) k : Int) := by
  have h1 := xW_le (partL (bodyL l)) k
  have h2 := pow10_le hk
  exact wid_u64 _ (by omega) (by omega)
omit hl in
theorem nX12 {k : Nat} (hk : k ≤ 8) : (SE.ivar .i64 12).num (rhoX l b 0 k 0) = k := wid_i64 _ (by omega) (by omega)
omit hl in
theorem nX4L {k0 k2 k4 : Nat} : (SE.len (.svar 4)).num (rhoX l b k0 k2 k4) = ((partL (bodyL l)).length : Int) := by
  show ((tx (partL (bodyL l))).size : Int) = _
  rw [size_tx]
omit hl in
theorem nX3L {k0 k2 k4 : Nat} : (SE.len (.svar 3)).num (rhoX l b k0 k2 k4) = ((wholeL (bodyL l)).length : Int) := by
  show ((tx (wholeL (bodyL l))).size : Int) = _
  rw [size_tx]
def Inv2 (k : Nat) : Prop := k ≤ 8
omit hl in
theorem rounds_2 {D : LoopD} {k : Nat} (hk : Inv2 k) : ∀ q, q ∈ M2 → q.1.holds (rhoX l b 0 k 0) → SmOk S2 (fun k => rhoX l b 0 k 0) Inv2 (fun k => 8 - k) D (fun _ => 0) k q.2 := by
  have hk' : k ≤ 8 := hk
  have h1 := xW_le (partL (bodyL l)) k
  have h2 := pow10_le hk'
  have same : ∀ n, S2 n = true → rhoX l b 0 k 0 n = rhoX l b 0 (k + 1) 0 n := fun n hn => by
    have hn : (Nat.ble n 10 || Nat.ble 13 n) = true := hn
    match n, hn with
    | 0, _ => rfl
    | 1, _ => rfl
    | 2, _ => rfl
    | 3, _ => rfl
    | 4, _ => rfl
    | 5, _ => rfl
    | 6, _ => rfl
    | 7, _ => rfl
    | 8, _ => rfl
    | 9, _ => rfl
    | 10, _ => rfl
    | 13, _ => rfl
    | 14, _ => rfl
    | 15, _ => rfl
    | 16, _ => rfl
    | 17, _ => rfl
    | 18, _ => rfl
    | 19, _ => rfl
    | _ + 20, _ => rfl
  unfold M2
  rw [all_cons, all_cons, all_cons]
  refine ⟨fun hp => ?_, fun hp => ?_, fun hp => ?_, fun _ h => by simp at h⟩
  · simp only [h_cons, h_nil, t_lss, n_int, nX12 hk', nX4L, if_true, Bool.false_eq_true, if_false] at hp
    obtain ⟨g1, g2, _⟩ := hp
    have hlt : k < (partL (bodyL l)).length := by omega
    have hd : dW (partL (bodyL l))[k] < 256 := Nat.mod_lt _ (by decide)
    have ed : (digE 4 12).num (rhoX l b 0 k 0) = (dW ((partL (bodyL l))[k]'hlt) : Int) := by
      unfold digE
      have e : (SE.byte (.svar 4) (.ivar .i64 12)).num (rhoX l b 0 k 0) = (((partL (bodyL l))[k]'hlt).toNat : Int) := by
        show byteAt (tx (partL (bodyL l))) ((SE.ivar .i64 12).num (rhoX l b 0 k 0)) = _
        rw [nX12 hk', byte_tx _ hlt]
      rw [n_conv, n_sub, e, n_int, dW_num]
    refine ⟨k + 1, (by show k + 1 ≤ 8; omega), (by show 8 - (k + 1) < 8 - k; omega), same, ?_, rfl⟩
    unfold UpdOk
    rw [all_cons, all_cons]
    refine ⟨upd_F ?_ (nX11 (by omega)), upd_F ?_ (nX12 (by omega)), fun _ h => by simp at h⟩
    · rw [n_add, n_mul, nX11 hk', n_int, ed, wid_u64 (_ * 10) (by omega) (by omega), wid_u64 _ (by omega) (by omega), xW, dif_pos hlt]
      omega
    · rw [n_add, n_int, nX12 hk', wid_i64 _ (by omega) (by omega)]
      omega
  · simp only [h_cons, h_nil, t_lss, n_int, nX12 hk', nX4L, if_true, Bool.false_eq_true, if_false] at hp
    obtain ⟨g1, g2, _⟩ := hp
    refine ⟨k + 1, (by show k + 1 ≤ 8; omega), (by show 8 - (k + 1) < 8 - k; omega), same, ?_, rfl⟩
    unfold UpdOk
    rw [all_cons, all_cons]
    refine ⟨upd_F ?_ (nX11 (by omega)), upd_F ?_ (nX12 (by omega)), fun _ h => by simp at h⟩
    · rw [n_mul, nX11 hk', n_int, wid_u64 (_ * 10) (by omega) (by omega), xW, dif_neg (by omega)]
      omega
    · rw [n_add, n_int, nX12 hk', wid_i64 _ (by omega) (by omega)]
      omega
  · simp only [h_cons, h_nil, t_lss, n_int, nX12 hk', Bool.false_eq_true, if_false] at hp
    obtain rfl : k = 8 := by omega
    refine ⟨rfl, ?_⟩
    unfold UpdOk
    rw [all_cons]
    exact ⟨rfl, fun _ h => by simp at h⟩
def Inv4 (l : List UInt8) (k : Nat) : Prop := k ≤ (wholeL (bodyL l)).length
omit hl in
theorem nX14 {k : Nat} : (SE.ivar .u64 14).num (rhoX l b 0 0 k) = (satW ((wholeL (bodyL l)).take k) : Int) := by
  have := satW_le ((wholeL (bodyL l)).take k)
  exact wid_u64 _ (by omega) (by omega)
theorem nX15 {k : Nat} (hk : k ≤ (wholeL (bodyL l)).length) : (SE.ivar .i64 15).num (rhoX l b 0 0 k) = k := by
  have := wl hl
  exact wid_i64 _ (by omega) (by omega)
theorem rounds_4 {D : LoopD} {k : Nat} (hk : Inv4 l k) : ∀ q, q ∈ M4 → q.1.holds (rhoX l b 0 0 k) → SmOk S4 (fun k => rhoX l b 0 0 k) (Inv4 l) (fun k => (wholeL (bodyL l)).length - k) D (fun _ => 0) k q.2 := by
  have hk' : k ≤ (wholeL (bodyL l)).length := hk
  have hw := wl hl
  have h1 := satW_le ((wholeL (bodyL l)).take k)
  unfold M4
  rw [all_cons, all_cons]
  refine ⟨fun hp => ?_, fun hp => ?_, fun _ h => by simp at h⟩
  · simp only [h_cons, h_nil, t_lss, n_int, nX15 hl hk', nX3L, if_true, Bool.false_eq_true, if_false] at hp
    obtain ⟨g1, _⟩ := hp
    have hlt : k < (wholeL (bodyL l)).length := by omega
    have hd : dW (wholeL (bodyL l))[k] < 256 := Nat.mod_lt _ (by decide)
    have ed : (digE 3 15).num (rhoX l b 0 0 k) = (dW ((wholeL (bodyL l))[k]'hlt) : Int) := by
      unfold digE
      have e : (SE.byte (.svar 3) (.ivar .i64 15)).num (rhoX l b 0 0 k) = (((wholeL (bodyL l))[k]'hlt).toNat : Int) := by
        show byteAt (tx (wholeL (bodyL l))) ((SE.ivar .i64 15).num (rhoX l b 0 0 k)) = _
        rw [nX15 hl hk', byte_tx _ hlt]
      rw [n_conv, n_sub, e, n_int, dW_num]
    refine ⟨k + 1, hlt, (by show (wholeL (bodyL l)).length - (k + 1) < (wholeL (bodyL l)).length - k; omega), fun n hn => ?_, ?_, rfl⟩
    · have hn : (Nat.ble n 13 || Nat.ble 16 n) = true := hn
      match n, hn with
      | 0, _ => rfl
      | 1, _ => rfl
      | 2, _ => rfl
      | 3, _ => rfl
      | 4, _ => rfl
      | 5, _ => rfl
      | 6, _ => rfl
      | 7, _ => rfl
      | 8, _ => rfl
      | 9, _ => rfl
      | 10, _ => rfl
      | 11, _ => rfl
      | 12, _ => rfl
      | 13, _ => rfl
      | 16, _ => rfl
      | 17, _ => rfl
      | 18, _ => rfl
      | 19, _ => rfl
      | _ + 20, _ => rfl
    · unfold UpdOk
      rw [all_cons, all_cons]
      refine ⟨upd_F ?_ nX14, upd_F ?_ (nX15 hl hlt), fun _ h => by simp at h⟩
      · have ea : (SE.bin .add .u64 (.bin .mul .u64 (.ivar .u64 14) (.int .u64 10)) (digE 3 15)).num (rhoX l b 0 0 k) = ((satW ((wholeL (bodyL l)).take k) * 10 + dW (wholeL (bodyL l))[k] : Nat) : Int) := by
          rw [n_add, n_mul, nX14, n_int, ed, wid_u64 (_ * 10) (by omega) (by omega), wid_u64 _ (by omega) (by omega)]
          omega
        rw [n_min, ea, n_int, satW_take hlt]
        split <;> omega
      · rw [n_add, n_int, nX15 hl hk', wid_i64 _ (by omega) (by omega)]
        omega
  · simp only [h_cons, h_nil, t_lss, n_int, nX15 hl hk', nX3L, if_true, Bool.false_eq_true, if_false] at hp
    obtain rfl : k = (wholeL (bodyL l)).length := by omega
    refine ⟨rfl, ?_⟩
    unfold UpdOk
    rw [all_cons]
    refine ⟨?_, fun _ h => by simp at h⟩
    show Value.int .u64 ((SE.ivar .u64 14).num (rhoX l b 0 0 _)) = Value.int .u64 ((SE.ivar .u64 16).num (rhoX l b 0 0 _))
    rw [nX14, List.take_length, nX16]
end
/-! ### The loops as known loops -/
theorem fn15 : ∃ fn c, tb.func 15 = some fn ∧ fn.body = some c ∧ fn.ntmps = 125 ∧ loopsOf c = [bodyX 0, bodyX 1, bodyX 2] := ⟨Tryd.f15, _, by kernel_rfl, rfl, by kernel_rfl, by kernel_rfl⟩
theorem code_X0 : codeOk 125 (bodyX 0) = true := by kernel_rfl
theorem code_X1 : codeOk 125 (bodyX 1) = true := by kernel_rfl
theorem code_X2 : codeOk 125 (bodyX 2) = true := by kernel_rfl
theorem loops_X0 : loopsOf (bodyX 0) = [] := by kernel_rfl
theorem loops_X1 : loopsOf (bodyX 1) = [] := by kernel_rfl
theorem loops_X2 : loopsOf (bodyX 2) = [] := by kernel_rfl
theorem key_X0 : loopK (bodyX 0) = 384 := by kernel_rfl
theorem key_X1 : loopK (bodyX 1) = 1088 := by kernel_rfl
theorem key_X2 : loopK (bodyX 2) = 1664 := by kernel_rfl
section
variable {l : List UInt8} {b : Bool} (hl : l.length ≤ 1000)
include hl
theorem known_0 (hn : negL l = b) {k : Nat} (hk : Inv0 l k) : SoundAt Tryd.prog (tbX.atS (rhoX l b k 0 0) (spX b) noLp) 125 (.code (.loop (bodyX 0))) (hd0 b) [(.exit 0, { env := ex0 b, h := (hd0 b).h })] :=
  loop_known (D := D0 b) (ρ := fun k => rhoX l b k 0 0) (out := fun _ => 0) (tbO_ok _) (tbO_wf _) (fun x => spec_X hl hn) (by omega) code_X0 (fun x d hd => by rw [loops_X0] at hd; simp at hd) (by cases b <;> kernel_rfl) (by cases b <;> kernel_rfl) (by cases b <;> kernel_rfl)
    (kn := kn0) (n0 := 300) (n1 := 300) (n2 := 300) (fun x => kn_none) (pc := pcX0) (fun k hk => addPC_ok (PC.holds_nil _) (by
      rw [t_leq, n_int, nX10 hl hk]
      simp only [if_true]
      omega)) (fun r => run_0 b r) (fun x hx => rounds_0 hl hx) (fun x hx => by show 0 < 1; omega) k hk
set_option maxRecDepth 100000 in
theorem known_2 (hn : negL l = b) {k : Nat} (hk : Inv2 k) : SoundAt Tryd.prog (tbX.atS (rhoX l b 0 k 0) (spX b) noLp) 125 (.code (.loop (bodyX 1))) (hd2 b) [(.exit 2, { env := ex2 b, h := (hd2 b).h })] :=
  loop_known (D := D2 b) (ρ := fun k => rhoX l b 0 k 0) (out := fun _ => 0) (tbO_ok _) (tbO_wf _) (fun x => spec_X hl hn) (by omega) code_X1 (fun x d hd => by rw [loops_X1] at hd; simp at hd) (by cases b <;> kernel_rfl) (by cases b <;> kernel_rfl) (by cases b <;> kernel_rfl)
    (kn := kn0) (n0 := 300) (n1 := 300) (n2 := 300) (fun x => kn_none) (pc := pcX2) (fun k hk => addPC_ok (PC.holds_nil _) (by
      rw [t_leq, n_int, nX12 hk]
      simp only [if_true]
      omega)) (fun r => run_2 b r) (fun x hx => rounds_2 hx) (fun x hx => by show 0 < 1; omega) k hk
set_option maxRecDepth 100000 in
theorem known_4 (hn : negL l = b) {k : Nat} (hk : Inv4 l k) : SoundAt Tryd.prog (tbX.atS (rhoX l b 0 0 k) (spX b) noLp) 125 (.code (.loop (bodyX 2))) (hd4 b (uv 13)) [(.exit 4, { env := ex4 b (uv 13), h := (hd4 b (uv 13)).h })] :=
  loop_known (D := D4 b (uv 13)) (ρ := fun k => rhoX l b 0 0 k) (out := fun _ => 0) (tbO_ok _) (tbO_wf _) (fun x => spec_X hl hn) (by omega) code_X2 (fun x d hd => by rw [loops_X2] at hd; simp at hd) (by cases b <;> kernel_rfl) (by cases b <;> kernel_rfl) (by cases b <;> kernel_rfl)
    (kn := kn0) (n0 := 300) (n1 := 300) (n2 := 300) (fun x => kn_none) (pc := pcX4) (fun k hk => addPC_ok (PC.holds_nil _) (by
      rw [t_leq, n_int, nX15 hl hk]
      simp only [if_true]
      omega)) (fun r => run_4 b r) (fun x hx => rounds_4 hl hx) (fun x hx => by show 0 < 1; omega) k hk
set_option maxRecDepth 100000 in
theorem known_4z (hn : negL l = b) {k : Nat} (hk : Inv4 l k) : SoundAt Tryd.prog (tbX.atS (rhoX l b 0 0 k) (spX b) noLp) 125 (.code (.loop (bodyX 2))) (hd4 b v0) [(.exit 4, { env := ex4 b v0, h := (hd4 b v0).h })] :=
  loop_known (D := D4 b v0) (ρ := fun k => rhoX l b 0 0 k) (out := fun _ => 0) (tbO_ok _) (tbO_wf _) (fun x => spec_X hl hn) (by omega) code_X2 (fun x d hd => by rw [loops_X2] at hd; simp at hd) (by cases b <;> kernel_rfl) (by cases b <;> kernel_rfl) (by cases b <;> kernel_rfl)
    (kn := kn0) (n0 := 300) (n1 := 300) (n2 := 300) (fun x => kn_none) (pc := pcX4) (fun k hk => addPC_ok (PC.holds_nil _) (by
      rw [t_leq, n_int, nX15 hl hk]
      simp only [if_true]
      omega)) (fun r => run_4z b r) (fun x hx => rounds_4 hl hx) (fun x hx => by show 0 < 1; omega) k hk
theorem tPt {k0 k2 k4 : Nat} : (SE.cmp .lss (.ivar .i64 9) (.len (.svar 1))).truth (rhoX l b k0 k2 k4) = pointL (bodyL l) := by
  rw [(truth_cmp _ _ _).2.2.1, nX9 hl, nX1L]
  cases hp : pointL (bodyL l) with
  | true =>
    have := point_lt hp
    simp only [decide_eq_true_eq]
    omega
  | false =>
    rw [(point_none hp).1]
    simp only [decide_eq_false_iff_not]
    omega
theorem tree_0 : (tree0 b).eval (rhoX l b 0 0 0) = (.exit 0, ex0 b) := by
  have hw := wl hl
  have e1 : (SE.cmp .lss (.ivar .i64 9) (.int .i64 0)).truth (rhoX l b 0 0 0) = false := by
    rw [t_lss, nX9 hl, n_int]
    simp only [Bool.false_eq_true, if_false]
    omega
  have e2 : (SE.cmp .lss (.ivar .i64 9) (.int .i64 4611686018427387904)).truth (rhoX l b 0 0 0) = true := by
    rw [t_lss, nX9 hl, n_int]
    simp only [if_true]
    omega
  show (if (SE.cmp .lss (.ivar .i64 9) (.int .i64 0)).truth (rhoX l b 0 0 0) then _ else (if (SE.cmp .lss (.ivar .i64 9) (.int .i64 4611686018427387904)).truth (rhoX l b 0 0 0) then (if (SE.cmp .lss (.ivar .i64 9) (.len (.svar 1))).truth (rhoX l b 0 0 0) then _ else (if (SE.cmp .eql (.ivar .i64 9) (.len (.svar 1))).truth (rhoX l b 0 0 0) then _ else _)) else _)) = _
  rw [e1, e2, tPt hl]
  cases hp : pointL (bodyL l) with
  | true => rfl
  | false =>
    have e3 : (SE.cmp .eql (.ivar .i64 9) (.len (.svar 1))).truth (rhoX l b 0 0 0) = true := by
      rw [t_eql, nX9 hl, nX1L, (point_none hp).1]
      rfl
    rw [e3]
    rfl
omit hl in
theorem txE_ok (hn : negL l = b) : (txE b).text (rhoX l b 0 0 0) = tx (bodyL l) := by
  unfold bodyL
  rw [hn]
  cases b with
  | true =>
    show (tx l).extract 1 (SE.num (rhoX l true 0 0 0) (.len (.svar 0))).toNat = _
    have e : SE.num (rhoX l true 0 0 0) (.len (.svar 0)) = (l.length : Int) := by
      show ((tx l).size : Int) = _
      rw [size_tx]
    rw [e, Int.toNat_natCast, tx_extract, List.drop_one, List.take_of_length_le (by rw [List.length_tail]; omega)]
    rfl
  | false => rfl
set_option maxRecDepth 100000 in
theorem specL_X (hn : negL l = b) : SpecOk Tryd.prog (tbX.atS (rhoX l b 0 0 0) (spX b) (lpX b)) :=
  specL_of (spec_X hl hn) (fun f fn c hfn hc d hd e he hk => by
    obtain ⟨hf, hfn⟩ := tbO_func hfn
    obtain rfl : f = 15 := Nat.eq_of_beq_eq_true hf
    obtain ⟨fn', c', h1, h2, h3, h4⟩ := fn15
    obtain rfl : fn = fn' := Option.some.inj (hfn.symm.trans h1)
    obtain rfl : c = c' := Option.some.inj (hc.symm.trans h2)
    rw [h4] at hd
    rw [h3]
    have z0 : Inv0 l 0 := Nat.zero_le _
    have z2 : Inv2 0 := Nat.zero_le _
    have z4 : Inv4 l 0 := Nat.zero_le _
    have s0 : UpdOk (rhoX l b 0 0 0) (rhoX l b 0 0 0) [(1, .str, txE b), (10, .int .i64, .int .i64 0)] := by
      unfold UpdOk
      rw [all_cons, all_cons]
      refine ⟨?_, rfl, fun _ h => by simp at h⟩
      show Value.string ((txE b).text _) = Value.string (tx (bodyL l))
      rw [txE_ok hn]
    have s2 : UpdOk (rhoX l b 0 0 0) (rhoX l b 0 0 0) [(4, .str, subP), (11, .int .u64, .int .u64 0), (12, .int .i64, .int .i64 0)] := by
      unfold UpdOk
      rw [all_cons, all_cons, all_cons]
      refine ⟨?_, rfl, rfl, fun _ h => by simp at h⟩
      show Value.string (subP.text _) = Value.string (tx (partL (bodyL l)))
      rw [textP hl]
    have s4 : UpdOk (rhoX l b 0 0 0) (rhoX l b 0 0 0) [(3, .str, subW), (14, .int .u64, .int .u64 0), (15, .int .i64, .int .i64 0)] := by
      unfold UpdOk
      rw [all_cons, all_cons, all_cons]
      refine ⟨?_, rfl, rfl, fun _ h => by simp at h⟩
      show Value.string (subW.text _) = Value.string (tx (wholeL (bodyL l)))
      rw [textW hl]
    simp only [List.mem_cons, List.mem_nil_iff, or_false] at hd he
    rcases hd with rfl | rfl | rfl
    · rw [key_X0] at hk
      rcases he with rfl | rfl | rfl | rfl
      · refine ⟨s0, ?_⟩
        rw [show (eL0 b).tree.eval (rhoX l b 0 0 0) = (.exit 0, ex0 b) from tree_0 hl]
        exact known_0 hl hn z0
      · exact absurd hk (by show ¬ (384 = 1088); omega)
      · exact absurd hk (by show ¬ (384 = 1664); omega)
      · exact absurd hk (by show ¬ (384 = 1664); omega)
    · rw [key_X1] at hk
      rcases he with rfl | rfl | rfl | rfl
      · exact absurd hk (by show ¬ (1088 = 384); omega)
      · exact ⟨s2, known_2 hl hn z2⟩
      · exact absurd hk (by show ¬ (1088 = 1664); omega)
      · exact absurd hk (by show ¬ (1088 = 1664); omega)
    · rw [key_X2] at hk
      rcases he with rfl | rfl | rfl | rfl
      · exact absurd hk (by show ¬ (1664 = 384); omega)
      · exact absurd hk (by show ¬ (1664 = 1088); omega)
      · exact ⟨s4, known_4 hl hn z4⟩
      · exact ⟨s4, known_4z hl hn z4⟩)
end
end
end Go.Proofs.YtkjfpjammlihpaaDoor
