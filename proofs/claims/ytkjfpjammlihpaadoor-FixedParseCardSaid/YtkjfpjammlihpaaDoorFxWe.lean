/- CutPrefix, Cut, signs and magnitudes, as contracts. -/
import Derived.Test.YtkjfpjammlihpaaDoorFxW
import Derived.Shelf.Strings.Search2
set_option linter.unusedVariables false
set_option linter.unusedSimpArgs false
namespace Go.Proofs.YtkjfpjammlihpaaDoor
open Go.Sx Go.ChangeShapes Go.WideShapes Go.ChangeAt Go.RowKit Go.Dec
noncomputable section
def minusV : V := .val (.string ⟨#[45]⟩)
def pointV : V := .val (.string ⟨#[46]⟩)
def tbC : Tb := tbO fun f => Nat.beq f 30 || (Nat.beq f 41 || Nat.beq f 49)
def rcC (r : Nat → Value) := outsF (callF kn0 Tryd.prog (tbC.atS r noSp noLp) 300 300 [] 30 [xv 0, minusV] H0)
def eIdx : Entry := { f := 50, args := [xv 0, pointV], res := iv 9, facts := [(.cmp .lss (.ivar .i64 9) (.len (.svar 0)), true), (.cmp .lss (.ivar .i64 9) (.int .i64 4611686018427387904), true)] }
def tbD : Tb := tbO fun f => Nat.beq f 31 || Nat.beq f 42
def rcD (r : Nat → Value) := outsF (callF kn0 Tryd.prog (tbD.atS r (spOf [eIdx]) noLp) 300 300 [] 31 [xv 0, pointV] H0)
end
end Go.Proofs.YtkjfpjammlihpaaDoor

namespace Go.Proofs.YtkjfpjammlihpaaDoor
open Go.Sx Go.ChangeShapes Go.WideShapes Go.ChangeAt Go.RowKit Go.Dec

def renI : Go.Shelf.Ren := ⟨fun n => if Nat.beq n 219 then 50 else if Nat.beq n 217 then 57 else if Nat.beq n 225 then 58 else if Nat.beq n 224 then 59 else if Nat.beq n 267 then 60 else if Nat.beq n 266 then 63 else 64,
  fun n => if Nat.beq n 46 then 42 else if Nat.beq n 146 then 76 else if Nat.beq n 51 then 71 else n, fun n => if Nat.beq n 1 then 3 else n⟩
theorem laysI : Lays.n219 Tryd.prog renI where
  mixed := by kernel_rfl
  f217 := by kernel_rfl
  f219 := by kernel_rfl
  f224 := by kernel_rfl
  f225 := by kernel_rfl
  f266 := by kernel_rfl
  f267 := by kernel_rfl
  f314 := by kernel_rfl
  t3 := by kernel_rfl
  a3 := fun _ => by kernel_rfl
  z3 := fun _ => by kernel_rfl
  v3 := fun _ => by kernel_rfl
  t4 := by kernel_rfl
  a4 := fun _ => by kernel_rfl
  z4 := fun _ => by kernel_rfl
  v4 := fun _ => by kernel_rfl
  t5 := by kernel_rfl
  a5 := fun _ => by kernel_rfl
  z5 := fun _ => by kernel_rfl
  v5 := fun _ => by kernel_rfl
  t9 := by kernel_rfl
  a9 := fun _ => by kernel_rfl
  z9 := fun _ => by kernel_rfl
  v9 := fun _ => by kernel_rfl
  t46 := by kernel_rfl
  a46 := fun _ => by kernel_rfl
  z46 := fun _ => by kernel_rfl
  v46 := fun _ => by kernel_rfl
  t51 := by kernel_rfl
  a51 := fun _ => by kernel_rfl
  z51 := fun _ => by kernel_rfl
  v51 := fun _ => by kernel_rfl
  t146 := by kernel_rfl
  a146 := fun _ => by kernel_rfl
  z146 := fun _ => by kernel_rfl
  v146 := fun _ => by kernel_rfl
  g1 := by kernel_rfl
theorem index_calls (s : ByteArray) (c : UInt8) (w : World) : Calls Tryd.prog 50 #[.string s, .string ⟨#[c]⟩] w fun e w' => e = .returned (.int .i64 (Lib.indexByte s.data.toList c)) ∧ w' = w :=
  Any.stringslite_Index_one laysI s c w
end Go.Proofs.YtkjfpjammlihpaaDoor

namespace Go.Proofs.YtkjfpjammlihpaaDoor
open Go.Sx Go.ChangeShapes Go.WideShapes Go.ChangeAt Go.RowKit Go.Dec
noncomputable section

theorem tx_extract (l : List UInt8) (a b : Nat) : (tx l).extract a b = tx ((l.drop a).take (b - a)) := by
  have e : ∀ x y : ByteArray, x.data = y.data → x = y := fun x y h => by cases x; cases y; exact congrArg _ h
  apply e
  rw [ByteArray.data_extract]
  show l.toArray.extract a b = ((l.drop a).take (b - a)).toArray
  rw [List.extract_toArray]
theorem index_point : ∀ l : List UInt8, Lib.indexByte l 46 = if pointL l then ((wholeL l).length : Int) else -1
  | [] => rfl
  | b :: l => by
    have ih := index_point l
    unfold Lib.indexByte
    cases hb : b == 46 with
    | true =>
      have e1 : pointL (b :: l) = true := by show List.any _ _ = true; rw [List.any_cons, hb]; rfl
      have e2 : wholeL (b :: l) = [] := by show List.takeWhile _ _ = _; rw [List.takeWhile_cons, if_neg]; simpa using hb
      rw [e1, e2]
      rfl
    | false =>
      have e1 : pointL (b :: l) = pointL l := by show List.any _ _ = _; rw [List.any_cons, hb]; rfl
      have e2 : wholeL (b :: l) = b :: wholeL l := by show List.takeWhile _ _ = _; rw [List.takeWhile_cons, if_pos]; rfl; simpa using hb
      rw [e1, e2, ih]
      cases pointL l with
      | false => rfl
      | true =>
        have : ((wholeL l).length : Int) ≠ -1 := by omega
        simp [this]
theorem whole_take (l : List UInt8) : l.take (wholeL l).length = wholeL l := by
  induction l with
  | nil => rfl
  | cons b l ih =>
    cases hb : b == 46 with
    | true =>
      have e2 : wholeL (b :: l) = [] := by show List.takeWhile _ _ = _; rw [List.takeWhile_cons, if_neg]; simpa using hb
      rw [e2]
      rfl
    | false =>
      have e2 : wholeL (b :: l) = b :: wholeL l := by show List.takeWhile _ _ = _; rw [List.takeWhile_cons, if_pos]; rfl; simpa using hb
      rw [e2, List.length_cons, List.take_succ_cons, ih]
theorem part_drop (l : List UInt8) : l.drop ((wholeL l).length + 1) = partL l := by
  induction l with
  | nil => rfl
  | cons b l ih =>
    cases hb : b == 46 with
    | true =>
      have e2 : wholeL (b :: l) = [] := by show List.takeWhile _ _ = _; rw [List.takeWhile_cons, if_neg]; simpa using hb
      have e3 : partL (b :: l) = l := by show (List.dropWhile _ _).drop 1 = _; rw [List.dropWhile_cons, if_neg]; rfl; simpa using hb
      rw [e2, e3]
      rfl
    | false =>
      have e2 : wholeL (b :: l) = b :: wholeL l := by show List.takeWhile _ _ = _; rw [List.takeWhile_cons, if_pos]; rfl; simpa using hb
      have e3 : partL (b :: l) = partL l := by show (List.dropWhile _ _).drop 1 = _; rw [List.dropWhile_cons, if_pos]; rfl; simpa using hb
      rw [e2, e3, List.length_cons, List.drop_succ_cons, ih]
theorem whole_le (l : List UInt8) : (wholeL l).length ≤ l.length := by
  have := congrArg List.length (whole_take l)
  rw [List.length_take] at this
  omega
theorem point_lt {l : List UInt8} (h : pointL l = true) : (wholeL l).length < l.length := by
  have := congrArg List.length (parts l)
  rw [h, if_pos rfl, List.length_append, List.length_cons] at this
  omega
theorem point_none {l : List UInt8} (h : pointL l = false) : wholeL l = l ∧ partL l = [] := by
  have h1 := parts l
  rw [h] at h1
  simp only [Bool.false_eq_true, if_false, List.append_nil] at h1
  refine ⟨h1.symm, ?_⟩
  rw [← part_drop, ← h1]
  exact List.drop_eq_nil_of_le (by omega)

/-! ### CutPrefix -/
def sub01 : SE := .sub (.svar 0) (.int .i64 0) (.int .i64 1)
def MC : List (PC × Bool × List (STy × SE)) :=
  [([(.eqs sub01 (.str ⟨#[45]⟩), false), (.cmp .lss (.len (.svar 0)) (.int .i64 1), false)], true, [(.str, .svar 0), (.bool, .bool false)]),
   ([(.eqs sub01 (.str ⟨#[45]⟩), true), (.cmp .lss (.len (.svar 0)) (.int .i64 1), false)], true, [(.str, .sub (.svar 0) (.int .i64 1) (.len (.svar 0))), (.bool, .bool true)]),
   ([(.cmp .lss (.len (.svar 0)) (.int .i64 1), true)], true, [(.str, .svar 0), (.bool, .bool false)])]
theorem run_C (r : Nat → Value) : rcC r = some MC := by kernel_rfl
def rhoC (l : List UInt8) (n : Nat) : Value := if Nat.beq n 0 then .string (tx l) else .int .i64 (Lib.indexByte l 46)
theorem nCL (l : List UInt8) : (SE.len (.svar 0)).num (rhoC l) = (l.length : Int) := by
  show ((tx l).size : Int) = _
  rw [size_tx]
theorem tx_inj {l m : List UInt8} (h : tx l = tx m) : l = m := by
  have := congrArg (fun x => x.data.toList) h
  exact this
theorem sub01_eq (l : List UInt8) : (SE.eqs sub01 (.str ⟨#[45]⟩)).truth (rhoC l) = negL l := by
  show ((tx l).extract 0 1 == (⟨#[45]⟩ : ByteArray)) = _
  rw [tx_extract]
  have e : (⟨#[45]⟩ : ByteArray) = tx [45] := rfl
  rw [e]
  cases l with
  | nil =>
    show (tx [] == tx [45]) = false
    cases h : (tx [] == tx [45]) with
    | false => rfl
    | true => exact absurd (tx_inj ((bytes_beq' _ _).1 h)) (by simp)
  | cons b l =>
    show (tx [b] == tx [45]) = (some b == some 45)
    cases hb : (some b == some (45 : UInt8)) with
    | true =>
      have : b = 45 := by simpa using hb
      rw [this]
      exact (bytes_beq' _ _).2 rfl
    | false =>
      cases h : (tx [b] == tx [45]) with
      | false => rfl
      | true =>
        have := tx_inj ((bytes_beq' _ _).1 h)
        simp at this
        rw [this] at hb
        exact absurd hb (by decide)
theorem cutp_fnc {l : List UInt8} (hl : l.length ≤ 1000) : Fnc Tryd.prog tb.glob 30 #[.string (tx l), .string ⟨#[45]⟩] (.tuple #[.string (tx (bodyL l)), .bool (negL l)]) := by
  have := fnc_run (tb := tbC) (tbO_ok _) (tbO_wf _) (base_O _ (rhoC l)) (kn := kn0) (n0 := 300) (n1 := 300) kn_none (PC.holds_nil _) (f := 30) (args := [xv 0, minusV]) (by rfl) (run_C _) (res := .tuple #[.string (tx (bodyL l)), .bool (negL l)]) (by
    unfold MC
    rw [all_cons, all_cons, all_cons]
    refine ⟨fun hp => ?_, fun hp => ?_, fun hp => ?_, fun _ h => by simp at h⟩
    · have h : negL l = false := by rw [← sub01_eq]; exact hp _ List.mem_cons_self
      show Value.tuple #[.string (tx l), .bool false] = _
      unfold bodyL
      rw [h]
      rfl
    · have h : negL l = true := by rw [← sub01_eq]; exact hp _ List.mem_cons_self
      show Value.tuple #[.string ((tx l).extract 1 (SE.num (rhoC l) (.len (.svar 0))).toNat), .bool true] = _
      rw [nCL, Int.toNat_natCast, tx_extract]
      unfold bodyL
      rw [h, if_pos rfl]
      congr 4
      rw [List.drop_one, List.take_of_length_le (by rw [List.length_tail]; omega)]
    · simp only [h_cons, h_nil, t_lss, nCL, n_int, if_true] at hp
      have hn : l = [] := List.length_eq_zero_iff.1 (by omega)
      subst hn
      rfl)
  exact this

/-! ### Cut -/
def MD : List (PC × Bool × List (STy × SE)) :=
  [([(.cmp .lss (.ivar .i64 9) (.int .i64 0), false), (.cmp .lss (.ivar .i64 9) (.len (.svar 0)), true), (.cmp .lss (.ivar .i64 9) (.int .i64 4611686018427387904), true)], true,
      [(.str, .sub (.svar 0) (.int .i64 0) (.ivar .i64 9)), (.str, .sub (.svar 0) (.bin .add .i64 (.ivar .i64 9) (.int .i64 1)) (.len (.svar 0))), (.bool, .bool true)]),
   ([(.cmp .lss (.ivar .i64 9) (.int .i64 0), true), (.cmp .lss (.ivar .i64 9) (.len (.svar 0)), true), (.cmp .lss (.ivar .i64 9) (.int .i64 4611686018427387904), true)], true,
      [(.str, .svar 0), (.str, .str ⟨#[]⟩), (.bool, .bool false)])]
theorem run_D (r : Nat → Value) : rcD r = some MD := by kernel_rfl
section
variable {l : List UInt8} (hl : l.length ≤ 1000)
include hl
theorem nC9 : (SE.ivar .i64 9).num (rhoC l) = Lib.indexByte l 46 := by
  have h := index_point l
  have h2 := whole_le l
  apply wid_i64
  · rw [h]; split <;> omega
  · rw [h]; split <;> omega
theorem entry_I : ∀ e, e ∈ [eIdx] → EntryOk Tryd.prog tb.glob (rhoC l) e := fun e he => by
  rw [List.mem_singleton.1 he]
  have h9 := nC9 hl
  have hi := index_point l
  have hw := whole_le l
  refine ⟨⟨Tryd.f50, Tryd.func50, by kernel_rfl, by kernel_rfl⟩, rfl, rfl, ?_, ?_⟩
  · show ∀ q, q ∈ [(SE.cmp .lss (.ivar .i64 9) (.len (.svar 0)), true), (SE.cmp .lss (.ivar .i64 9) (.int .i64 4611686018427387904), true)] → q.1.truth (rhoC l) = q.2
    rw [all_cons, all_cons]
    refine ⟨?_, ?_, fun _ h => by simp at h⟩
    · rw [t_lss, h9, nCL, hi]
      simp only [if_true]
      cases hp : pointL l with
      | true => have := point_lt hp; simp only [if_true]; omega
      | false => simp only [Bool.false_eq_true, if_false]; omega
    · rw [t_lss, h9, n_int, hi]
      simp only [if_true]
      split <;> omega
  · show Fnc _ _ 50 #[.string (tx l), .string ⟨#[46]⟩] (.int .i64 ((SE.ivar .i64 9).num (rhoC l)))
    rw [h9]
    intro N φ γ H w hr hg
    refine (index_calls (tx l) 46 w).mono ?_
    rintro e w' ⟨rfl, rfl⟩
    exact ⟨rfl, Below.refl _ _⟩
theorem cut_fnc : Fnc Tryd.prog tb.glob 31 #[.string (tx l), .string ⟨#[46]⟩] (.tuple #[.string (tx (wholeL l)), .string (tx (partL l)), .bool (pointL l)]) := by
  have h9 := nC9 hl
  have hi := index_point l
  have hw := whole_le l
  have := fnc_run (tb := tbD) (tbO_ok _) (tbO_wf _) (spOf_ok (tb := tbD) (entry_I hl)) (kn := kn0) (n0 := 300) (n1 := 300) kn_none (PC.holds_nil _) (f := 31) (args := [xv 0, pointV]) (by rfl) (run_D _) (res := .tuple #[.string (tx (wholeL l)), .string (tx (partL l)), .bool (pointL l)]) (by
    unfold MD
    rw [all_cons, all_cons]
    refine ⟨fun hp => ?_, fun hp => ?_, fun _ h => by simp at h⟩
    · simp only [h_cons, h_nil, t_lss, h9, n_int, Bool.false_eq_true, if_false] at hp
      have hpt : pointL l = true := by
        cases h : pointL l with
        | true => rfl
        | false => rw [hi, h] at hp; simp at hp
      rw [hpt, if_pos rfl] at hi
      have hlt := point_lt hpt
      have e1 : (SE.bin .add .i64 (.ivar .i64 9) (.int .i64 1)).num (rhoC l) = ((wholeL l).length + 1 : Nat) := by
        rw [n_add, h9, n_int, hi, wid_i64 _ (by omega) (by omega)]
        omega
      show Value.tuple #[.string ((tx l).extract 0 ((SE.ivar .i64 9).num (rhoC l)).toNat), .string ((tx l).extract ((SE.bin .add .i64 (.ivar .i64 9) (.int .i64 1)).num (rhoC l)).toNat (SE.num (rhoC l) (.len (.svar 0))).toNat), .bool true] = _
      rw [e1, h9, hi, nCL, Int.toNat_natCast, Int.toNat_natCast, Int.toNat_natCast, tx_extract, tx_extract, hpt]
      rw [show (l.drop 0).take ((wholeL l).length - 0) = wholeL l from whole_take l]
      rw [part_drop, List.take_of_length_le (by rw [← part_drop, List.length_drop]; omega)]
    · simp only [h_cons, h_nil, t_lss, h9, n_int, if_true] at hp
      have hpt : pointL l = false := by
        cases h : pointL l with
        | false => rfl
        | true => rw [hi, h] at hp; simp at hp; omega
      obtain ⟨e1, e2⟩ := point_none hpt
      rw [e2, e1, hpt]
      rfl)
  exact this
end
end
end Go.Proofs.YtkjfpjammlihpaaDoor

namespace Go.Proofs.YtkjfpjammlihpaaDoor
open Go.Sx Go.ChangeShapes Go.WideShapes Go.ChangeAt Go.RowKit Go.Dec
noncomputable section
def bv (n : Nat) : V := .sym .bool (.bvar n)
def rcG (r : Nat → Value) := outsF (callF kn0 Tryd.prog (tb.atS r noSp noLp) 300 300 [] 34 [bv 0, uv 1] H0)
def rcH (r : Nat → Value) := outsF (callF kn0 Tryd.prog (tb.atS r noSp noLp) 300 300 [] 38 [bv 0, uv 1] H0)
def negE : SE := .conv .i32 (.bin .sub .i64 (.int .i64 0) (.conv .i64 (.ivar .u64 1)))
def okL (e : SE) : List (STy × SE) := [(.int .i32, e), (.int .i64, .int .i64 0)]
def badL (c : Int) : List (STy × SE) := [(.int .i32, .int .i32 0), (.int .i64, .int .i64 c)]
def lG1 : PC × Bool × List (STy × SE) := ([(.cmp .lss (.int .u64 2147483648) (.ivar .u64 1), false), (.bvar 0, true)], true, okL negE)
def lG2 : PC × Bool × List (STy × SE) := ([(.cmp .lss (.int .u64 2147483648) (.ivar .u64 1), true), (.bvar 0, true)], true, badL 6)
def lG3 : PC × Bool × List (STy × SE) := ([(.cmp .lss (.int .u64 2147483647) (.ivar .u64 1), false), (.bvar 0, false)], true, okL (.conv .i32 (.ivar .u64 1)))
def lG4 : PC × Bool × List (STy × SE) := ([(.cmp .lss (.int .u64 2147483647) (.ivar .u64 1), true), (.bvar 0, false)], true, badL 6)
theorem run_G (r : Nat → Value) : rcG r = some [lG1, lG2, lG3, lG4] := by kernel_rfl
theorem run_H (r : Nat → Value) : rcH r = some [lG2, lG1, lG4, lG3] := by kernel_rfl
def rhoH (neg : Bool) (q : Nat) (n : Nat) : Value := if Nat.beq n 0 then .bool neg else .int .u64 q
section
variable {neg : Bool} {q : Nat} (hq : q ≤ 4611686018427387904)
include hq
theorem nH1 : (SE.ivar .u64 1).num (rhoH neg q) = (q : Int) := wid_u64 _ (by omega) (by omega)
theorem ok1 (hp : lG1.1.holds (rhoH neg q)) : retOf lG1.2.1 (valsOf (rhoH neg q) lG1.2.2) = pairV (fitN neg q) := by
  have h0 : neg = true := hp (.bvar 0, true) (by unfold lG1; simp)
  have h1 := hp (.cmp .lss (.int .u64 2147483648) (.ivar .u64 1), false) (by unfold lG1; simp)
  rw [t_lss, n_int, nH1 hq] at h1
  simp only [Bool.false_eq_true, if_false] at h1
  show pairV (negE.num (rhoH neg q), 0) = _
  have e : negE.num (rhoH neg q) = -(q : Int) := by
    unfold negE
    rw [n_conv, n_sub, n_conv, n_int, nH1 hq, wid_i64 (q : Int) (by omega) (by omega), wid_i64 _ (by omega) (by omega), wid_i32 _ (by omega) (by omega)]
    omega
  rw [e]
  unfold fitN
  rw [h0, if_pos rfl, if_neg (by omega)]
theorem ok2 (hp : lG2.1.holds (rhoH neg q)) : retOf lG2.2.1 (valsOf (rhoH neg q) lG2.2.2) = pairV (fitN neg q) := by
  have h0 : neg = true := hp (.bvar 0, true) (by unfold lG2; simp)
  have h1 := hp (.cmp .lss (.int .u64 2147483648) (.ivar .u64 1), true) (by unfold lG2; simp)
  rw [t_lss, n_int, nH1 hq] at h1
  simp only [if_true] at h1
  show pairV (0, 6) = _
  unfold fitN
  rw [h0, if_pos rfl, if_pos (by omega)]
theorem ok3 (hp : lG3.1.holds (rhoH neg q)) : retOf lG3.2.1 (valsOf (rhoH neg q) lG3.2.2) = pairV (fitN neg q) := by
  have h0 : neg = false := hp (.bvar 0, false) (by unfold lG3; simp)
  have h1 := hp (.cmp .lss (.int .u64 2147483647) (.ivar .u64 1), false) (by unfold lG3; simp)
  rw [t_lss, n_int, nH1 hq] at h1
  simp only [Bool.false_eq_true, if_false] at h1
  show pairV ((SE.conv .i32 (.ivar .u64 1)).num (rhoH neg q), 0) = _
  rw [n_conv, nH1 hq, wid_i32 _ (by omega) (by omega)]
  unfold fitN
  rw [h0, if_neg (by simp), if_neg (by omega)]
theorem ok4 (hp : lG4.1.holds (rhoH neg q)) : retOf lG4.2.1 (valsOf (rhoH neg q) lG4.2.2) = pairV (fitN neg q) := by
  have h0 : neg = false := hp (.bvar 0, false) (by unfold lG4; simp)
  have h1 := hp (.cmp .lss (.int .u64 2147483647) (.ivar .u64 1), true) (by unfold lG4; simp)
  rw [t_lss, n_int, nH1 hq] at h1
  simp only [if_true] at h1
  show pairV (0, 6) = _
  unfold fitN
  rw [h0, if_neg (by simp), if_pos (by omega)]
/-- **A sign and a magnitude.** -/
theorem fit_fnc {f : Nat} (hf : f = 34 ∨ f = 38) : Fnc Tryd.prog tb.glob f #[.bool neg, .int .u64 q] (pairV (fitN neg q)) := by
  have e : ([bv 0, uv 1].map (V.at1 (rhoH neg q))).toArray = #[.bool neg, .int .u64 q] := by
    show #[Value.bool neg, Value.int .u64 ((SE.ivar .u64 1).num (rhoH neg q))] = _
    rw [nH1 hq]
  rcases hf with rfl | rfl
  · have := fnc_run tb_ok tb_wf (base_ok (rhoH neg q)) (kn := kn0) (n0 := 300) (n1 := 300) kn_none (PC.holds_nil _) (f := 34) (args := [bv 0, uv 1]) (by rfl) (run_G _) (res := pairV (fitN neg q)) (by
      rw [all_cons, all_cons, all_cons, all_cons]
      exact ⟨ok1 hq, ok2 hq, ok3 hq, ok4 hq, fun _ h => by simp at h⟩)
    rwa [e] at this
  · have := fnc_run tb_ok tb_wf (base_ok (rhoH neg q)) (kn := kn0) (n0 := 300) (n1 := 300) kn_none (PC.holds_nil _) (f := 38) (args := [bv 0, uv 1]) (by rfl) (run_H _) (res := pairV (fitN neg q)) (by
      rw [all_cons, all_cons, all_cons, all_cons]
      exact ⟨ok2 hq, ok1 hq, ok4 hq, ok3 hq, fun _ h => by simp at h⟩)
    rwa [e] at this
end
end
end Go.Proofs.YtkjfpjammlihpaaDoor
