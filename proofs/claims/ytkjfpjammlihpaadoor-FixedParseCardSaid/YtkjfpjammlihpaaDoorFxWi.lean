/- The program's Parse, as a contract. -/
import Derived.Test.YtkjfpjammlihpaaDoorFxWe
set_option linter.unusedVariables false
set_option linter.unusedSimpArgs false
namespace Go.Proofs.YtkjfpjammlihpaaDoor
open Go.Sx Go.ChangeShapes Go.WideShapes Go.ChangeAt Go.RowKit Go.Dec
noncomputable section

def eCp : Entry := { f := 30, args := [xv 0, minusV], res := .tuple [xv 1, bv 2] }
def eCt : Entry := { f := 31, args := [xv 1, pointV], res := .tuple [xv 3, xv 4, bv 5] }
def eFr : Entry := { f := 33, args := [xv 4], res := .tuple [uv 7, bv 8] }
def sumP : SE := .bin .add .u64 (.ivar .u64 7) (.bin .mul .u64 (.ivar .u64 11) (.int .u64 256))
def sumQ : SE := .bin .add .u64 (.int .u64 0) (.bin .mul .u64 (.ivar .u64 11) (.int .u64 256))
def eFp : Entry := { f := 34, args := [bv 2, .sym (.int .u64) sumP], res := .tuple [jv 13, iv 14] }
def eFq : Entry := { f := 34, args := [bv 2, .sym (.int .u64) sumQ], res := .tuple [jv 15, iv 16] }
def spT : Sp := spOf [eCp, eCt, eNum 32 3 6, eFr, eFp, eFq]
def tbT : Tb := tbO fun f => Nat.beq f 12
def restT (v : V) : List (Nat × V) := [(0, xv 0), (2, .val (.int .i32 0)), (3, .val (.int .i64 0)), (4, xv 1), (5, bv 2), (6, xv 3), (7, xv 4), (8, bv 5), (9, v), (57, xv 3), (58, .sym (.int .i64) (.len (.svar 3)))] ++ tops ([10, 11, 13] ++ ((List.range 43).map fun j => 14 + j) ++ ((List.range 11).map fun j => 60 + j))
def hdT (v : V) : St := { env := mkE (restT v ++ [(12, uv 9), (59, iv 10)]), h := H0 }
def exT (v : V) : Env := mkE (restT v ++ [(12, uv 11), (59, .top)])
def DT (v : V) : LoopD := { hd := hdT v, ts := [12, 59], outs := [(.exit 0, exT v, [12])] }
def ST (n : Nat) : Bool := Nat.ble n 8 || Nat.ble 11 n
def bodyT : Code := match (tb.func 12).bind fun fn => fn.body with
  | some c => (loopsOf c).headD .skip
  | none => .skip
def pcU : PC := addPC (.cmp .leq (.int .i64 0) (.ivar .i64 10)) true []
def rnT (v : V) (r : Nat → Value) := sums ST (DT v) (execF kn0 (callF kn0 Tryd.prog (tbT.atS r spT noLp) 300 300) Tryd.prog (tbT.atS r spT noLp) 300 (.code bodyT) pcU (DT v).hd)
def v0 : V := .val (.int .u64 0)
def rnT0 (r : Nat → Value) := rnT v0 r
def rnT7 (r : Nat → Value) := rnT (uv 7) r
def keyT (_ : Nat → Value) : Nat := loopK bodyT
def eT (v : V) : LoopE := { key := 1024, hd := hdT v, ts := [12, 59], start := [(9, .int .u64, .int .u64 0), (10, .int .i64, .int .i64 0)], S := ST, tree := .leaf (.exit 0) (exT v) }
def pcW (b : Bool) : PC := addPC (.cmp .gtr (.len (.svar 3)) (.int .i64 8)) b []
def rcT (r : Nat → Value) := outsF (callF kn0 Tryd.prog (tbT.atS r spT (lpOf [eT v0, eT (uv 7)])) 300 300 (pcW false) 12 [xv 0] H0)
def spT2 : Sp := spOf [eCp, eCt, eNum 32 3 6, eFr]
def rcT2 (r : Nat → Value) := outsF (callF kn0 Tryd.prog (tbT.atS r spT2 noLp) 300 300 (pcW true) 12 [xv 0] H0)
end
end Go.Proofs.YtkjfpjammlihpaaDoor

namespace Go.Proofs.YtkjfpjammlihpaaDoor
open Go.Sx Go.ChangeShapes Go.WideShapes Go.ChangeAt Go.RowKit Go.Dec
noncomputable section
def aL0 : SE := .cmp .lss (.int .i64 0) (.len (.svar 3))
def aL1 : SE := .cmp .lss (.int .i64 1) (.len (.svar 3))
def aL8 : SE := .cmp .lss (.int .i64 8) (.len (.svar 3))
def aNum : SE := .and (.bvar 6) (.cmp .lss (.int .i64 0) (.len (.svar 3)))
def aH : SE := .cmp .eql (.byte (.svar 3) (.int .i64 0)) (.int .u8 48)
def aZ : SE := .eqs (.svar 1) (.str ⟨#[48]⟩)
def rS : List (STy × SE) := [(.int .i32, .int .i32 0), (.int .i64, .int .i64 3)]
def rR : List (STy × SE) := [(.int .i32, .int .i32 0), (.int .i64, .int .i64 6)]
def rP : List (STy × SE) := [(.int .i32, .ivar .i32 13), (.int .i64, .ivar .i64 14)]
def rQ : List (STy × SE) := [(.int .i32, .ivar .i32 15), (.int .i64, .ivar .i64 16)]
def MTa : List (PC × Bool × List (STy × SE)) := [([((SE.bvar 6).and (aL0), false), (aL8, false)], true, rS), ([(aH, true), (aL1, true), (SE.bvar 6, true), (aL0, true), (aL8, false)], true, rS), ([(aZ, true), (SE.bvar 2, true), (aH, false), (aL1, true), (SE.bvar 6, true), (aL0, true), (aL8, false)], true, rS), ([(SE.bvar 8, false), (SE.bvar 5, true), (aZ, false), (SE.bvar 2, true), (aH, false), (aL1, true), (SE.bvar 6, true), (aL0, true), (aL8, false)], true, rS), ([(SE.bvar 8, true), (SE.bvar 5, true), (aZ, false), (SE.bvar 2, true), (aH, false), (aL1, true), (SE.bvar 6, true), (aL0, true), (aL8, false)], true, rP), ([(SE.bvar 5, false), (aZ, false), (SE.bvar 2, true), (aH, false), (aL1, true), (SE.bvar 6, true), (aL0, true), (aL8, false)], true, rQ), ([(SE.bvar 8, false), (SE.bvar 5, true), (SE.bvar 2, false), (aH, false), (aL1, true), (SE.bvar 6, true), (aL0, true), (aL8, false)], true, rS), ([(SE.bvar 8, true), (SE.bvar 5, true), (SE.bvar 2, false), (aH, false), (aL1, true), (SE.bvar 6, true), (aL0, true), (aL8, false)], true, rP), ([(SE.bvar 5, false), (SE.bvar 2, false), (aH, false), (aL1, true), (SE.bvar 6, true), (aL0, true), (aL8, false)], true, rQ), ([(aZ, true), (SE.bvar 2, true), (aL1, false), (SE.bvar 6, true), (aL0, true), (aL8, false)], true, rS), ([(SE.bvar 8, false), (SE.bvar 5, true), (aZ, false), (SE.bvar 2, true), (aL1, false), (SE.bvar 6, true), (aL0, true), (aL8, false)], true, rS), ([(SE.bvar 8, true), (SE.bvar 5, true), (aZ, false), (SE.bvar 2, true), (aL1, false), (SE.bvar 6, true), (aL0, true), (aL8, false)], true, rP), ([(SE.bvar 5, false), (aZ, false), (SE.bvar 2, true), (aL1, false), (SE.bvar 6, true), (aL0, true), (aL8, false)], true, rQ), ([(SE.bvar 8, false), (SE.bvar 5, true), (SE.bvar 2, false), (aL1, false), (SE.bvar 6, true), (aL0, true), (aL8, false)], true, rS), ([(SE.bvar 8, true), (SE.bvar 5, true), (SE.bvar 2, false), (aL1, false), (SE.bvar 6, true), (aL0, true), (aL8, false)], true, rP), ([(SE.bvar 5, false), (SE.bvar 2, false), (aL1, false), (SE.bvar 6, true), (aL0, true), (aL8, false)], true, rQ)]
def MTb : List (PC × Bool × List (STy × SE)) := [([((SE.bvar 6).and (aL0), false), (aL8, true)], true, rS), ([(aH, true), (SE.bvar 6, true), (aL0, true), (aL8, true)], true, rS), ([(aZ, true), (SE.bvar 2, true), (aH, false), (SE.bvar 6, true), (aL0, true), (aL8, true)], true, rS), ([(SE.bvar 8, false), (SE.bvar 5, true), (aZ, false), (SE.bvar 2, true), (aH, false), (SE.bvar 6, true), (aL0, true), (aL8, true)], true, rS), ([(SE.bvar 8, true), (SE.bvar 5, true), (aZ, false), (SE.bvar 2, true), (aH, false), (SE.bvar 6, true), (aL0, true), (aL8, true)], true, rR), ([(SE.bvar 5, false), (aZ, false), (SE.bvar 2, true), (aH, false), (SE.bvar 6, true), (aL0, true), (aL8, true)], true, rR), ([(SE.bvar 8, false), (SE.bvar 5, true), (SE.bvar 2, false), (aH, false), (SE.bvar 6, true), (aL0, true), (aL8, true)], true, rS), ([(SE.bvar 8, true), (SE.bvar 5, true), (SE.bvar 2, false), (aH, false), (SE.bvar 6, true), (aL0, true), (aL8, true)], true, rR), ([(SE.bvar 5, false), (SE.bvar 2, false), (aH, false), (SE.bvar 6, true), (aL0, true), (aL8, true)], true, rR)]
theorem run_Ta (r : Nat → Value) : rcT r = some MTa := by kernel_rfl
theorem run_Tb (r : Nat → Value) : rcT2 r = some MTb := by kernel_rfl
end
end Go.Proofs.YtkjfpjammlihpaaDoor

namespace Go.Proofs.YtkjfpjammlihpaaDoor
open Go.Sx Go.ChangeShapes Go.WideShapes Go.ChangeAt Go.RowKit Go.Dec
noncomputable section

/-- What Parse gives, by the answers to its questions. -/
def cT (B6 L0 L1 H N Z P F L8 : Bool) (x y : Int × Int) : Int × Int :=
  if (!(B6 && L0) || ((L1 && H) || (N && Z))) then (0, 3) else if P then (if F then (if L8 then (0, 6) else x) else (0, 3)) else (if L8 then (0, 6) else y)
theorem fracA_eq {p : List UInt8} {r : Nat} (h : fracL p = some r) : r = fracA p := by
  unfold fracL at h
  unfold fracA
  split at h
  · rename_i hc
    simp only [Bool.and_eq_true] at hc
    rw [if_pos (by simp [hc.1, hc.2.1, hc.2.2.1])]
    exact (Option.some.inj h).symm
  · exact absurd h (by simp)
theorem prog_ctl (N P : Bool) (w p t : List UInt8) : progL N P w p t = cT (w.all dig) (!w.isEmpty) (Nat.blt 1 w.length) (w.head? == some 48) N (t == [48]) P (fracL p).isSome (Nat.blt 8 w.length) (fitN N (valL w * 256 + fracA p)) (fitN N (valL w * 256 + 0)) := by
  unfold progL cT headBad
  rw [isNum_all, Bool.and_comm (!w.isEmpty)]
  cases hb : (!(w.all dig && !w.isEmpty) || ((Nat.blt 1 w.length && w.head? == some 48) || (N && t == [48]))) with
  | true => rfl
  | false =>
    simp only [Bool.false_eq_true, if_false]
    have hl : ∀ r, tailL N w r = if Nat.blt 8 w.length = true then (0, 6) else fitN N (valL w * 256 + r) := by
      intro r
      unfold tailL
      by_cases h : 8 < w.length
      · rw [if_pos h, if_pos (by rw [Nat.blt_eq]; exact h)]
      · rw [if_neg h, if_neg (by rw [Nat.blt_eq]; exact h)]
    cases P with
    | false => simp only [Bool.false_eq_true, if_false]; exact hl 0
    | true =>
      simp only [if_true]
      cases hf : fracL p with
      | none => rfl
      | some r => rw [← fracA_eq hf]; exact hl r

def rhoT (l : List UInt8) (k : Nat) (n : Nat) : Value :=
  match n with
  | 0 => .string (tx l)
  | 1 => .string (tx (bodyL l))
  | 2 => .bool (negL l)
  | 3 => .string (tx (wholeL (bodyL l)))
  | 4 => .string (tx (partL (bodyL l)))
  | 5 => .bool (pointL (bodyL l))
  | 6 => .bool ((wholeL (bodyL l)).all dig)
  | 7 => .int .u64 (fracA (partL (bodyL l)) : Nat)
  | 8 => .bool (fracL (partL (bodyL l))).isSome
  | 9 => .int .u64 (valW ((wholeL (bodyL l)).take k) : Nat)
  | 10 => .int .i64 k
  | 11 => .int .u64 (valW (wholeL (bodyL l)) : Nat)
  | 13 => .int .i32 (fitN (negL l) (valW (wholeL (bodyL l)) * 256 + fracA (partL (bodyL l)))).1
  | 14 => .int .i64 (fitN (negL l) (valW (wholeL (bodyL l)) * 256 + fracA (partL (bodyL l)))).2
  | 15 => .int .i32 (fitN (negL l) (valW (wholeL (bodyL l)) * 256 + 0)).1
  | _ => .int .i64 (fitN (negL l) (valW (wholeL (bodyL l)) * 256 + 0)).2
theorem body_le (l : List UInt8) : (bodyL l).length ≤ l.length := by
  unfold bodyL
  split
  · rw [List.length_tail]; omega
  · omega
theorem part_le (l : List UInt8) : (partL l).length ≤ l.length := by
  rw [← part_drop, List.length_drop]
  omega
theorem fracA_le (p : List UInt8) : fracA p ≤ 256 := by
  unfold fracA
  split
  · rename_i hc
    simp only [Bool.and_eq_true] at hc
    have h := (pad_of p.length p rfl ((isNum_iff p).1 hc.1).2).2
    have hp : 0 < 10 ^ p.length := Nat.pow_pos (by decide)
    apply Nat.le_of_lt
    rw [Nat.div_lt_iff_lt_mul hp, Nat.mul_comm 256]
    exact Nat.mul_lt_mul_of_pos_right h (by decide)
  · omega
theorem fitN_range (N : Bool) (q : Nat) : (-2147483648 ≤ (fitN N q).1 ∧ (fitN N q).1 ≤ 2147483647) ∧ (0 ≤ (fitN N q).2 ∧ (fitN N q).2 ≤ 6) := by
  unfold fitN
  cases N <;> simp only [Bool.false_eq_true, if_false, if_true] <;> split <;> simp <;> omega
section
variable {l : List UInt8}
/-! What the atoms are. -/
theorem tB6 (k : Nat) : (SE.bvar 6).truth (rhoT l k) = (wholeL (bodyL l)).all dig := rfl
theorem tN (k : Nat) : (SE.bvar 2).truth (rhoT l k) = negL l := rfl
theorem tP (k : Nat) : (SE.bvar 5).truth (rhoT l k) = pointL (bodyL l) := rfl
theorem tF (k : Nat) : (SE.bvar 8).truth (rhoT l k) = (fracL (partL (bodyL l))).isSome := rfl
theorem n3L (k : Nat) : (SE.len (.svar 3)).num (rhoT l k) = ((wholeL (bodyL l)).length : Int) := by
  show ((tx (wholeL (bodyL l))).size : Int) = _
  rw [size_tx]
theorem lt_blt (a b : Nat) : decide ((a : Int) < (b : Int)) = Nat.blt a b := by
  cases h : Nat.blt a b with
  | true =>
    rw [Nat.blt_eq] at h
    simp only [decide_eq_true_eq]
    omega
  | false =>
    have : ¬ a < b := fun h2 => by
      have h3 : Nat.blt a b = true := by rw [Nat.blt_eq]; exact h2
      rw [h3] at h
      exact absurd h (by simp)
    simp only [decide_eq_false_iff_not]
    omega
theorem tL0 (k : Nat) : aL0.truth (rhoT l k) = !(wholeL (bodyL l)).isEmpty := by
  unfold aL0
  rw [(truth_cmp _ _ _).2.2.1, n3L, n_int]
  exact pos_empty _
theorem tL1 (k : Nat) : aL1.truth (rhoT l k) = Nat.blt 1 (wholeL (bodyL l)).length := by
  unfold aL1
  rw [(truth_cmp _ _ _).2.2.1, n3L, n_int]
  exact lt_blt 1 _
theorem tL8 (k : Nat) : aL8.truth (rhoT l k) = Nat.blt 8 (wholeL (bodyL l)).length := by
  unfold aL8
  rw [(truth_cmp _ _ _).2.2.1, n3L, n_int]
  exact lt_blt 8 _
theorem tNum (k : Nat) : aNum.truth (rhoT l k) = ((wholeL (bodyL l)).all dig && !(wholeL (bodyL l)).isEmpty) := by
  show ((SE.bvar 6).truth (rhoT l k) && aL0.truth (rhoT l k)) = _
  rw [tB6, tL0]
theorem tH (k : Nat) : aH.truth (rhoT l k) = ((wholeL (bodyL l)).head? == some 48) := by
  unfold aH
  rw [(truth_cmp _ _ _).1, n_int]
  have e : (SE.byte (.svar 3) (.int .i64 0)).num (rhoT l k) = byteAt (tx (wholeL (bodyL l))) 0 := rfl
  rw [e]
  generalize wholeL (bodyL l) = w
  cases w with
  | nil => rfl
  | cons b w =>
    have := byte_tx (b :: w) (x := 0) (by simp)
    rw [show byteAt (tx (b :: w)) 0 = (b.toNat : Int) from this]
    cases h : ((b :: w).head? == some 48) with
    | true =>
      have : b = 48 := by simpa using h
      rw [this]
      rfl
    | false =>
      rw [beq_eq_false_iff_ne]
      intro e
      rw [b48] at e
      rw [e] at h
      exact absurd h (by simp)
theorem tZ (k : Nat) : aZ.truth (rhoT l k) = (bodyL l == [48]) := by
  show (tx (bodyL l) == (⟨#[48]⟩ : ByteArray)) = _
  rw [show (⟨#[48]⟩ : ByteArray) = tx [48] from rfl]
  cases h : bodyL l == [48] with
  | true => rw [eq_of_beq h]; exact (bytes_beq' _ _).2 rfl
  | false =>
    cases h2 : (tx (bodyL l) == tx [48]) with
    | false => rfl
    | true => rw [tx_inj ((bytes_beq' _ _).1 h2)] at h; exact absurd h (by simp)
theorem n7 (k : Nat) : (SE.ivar .u64 7).num (rhoT l k) = (fracA (partL (bodyL l)) : Int) := by
  have := fracA_le (partL (bodyL l))
  exact wid_u64 _ (by omega) (by omega)
theorem retS (k : Nat) : retOf true (valsOf (rhoT l k) rS) = pairV (0, 3) := rfl
theorem retR (k : Nat) : retOf true (valsOf (rhoT l k) rR) = pairV (0, 6) := rfl
theorem retP (k : Nat) : retOf true (valsOf (rhoT l k) rP) = pairV (fitN (negL l) (valW (wholeL (bodyL l)) * 256 + fracA (partL (bodyL l)))) := by
  obtain ⟨⟨h1, h2⟩, h3, h4⟩ := fitN_range (negL l) (valW (wholeL (bodyL l)) * 256 + fracA (partL (bodyL l)))
  show pairV ((SE.ivar .i32 13).num (rhoT l k), (SE.ivar .i64 14).num (rhoT l k)) = _
  rw [show (SE.ivar .i32 13).num (rhoT l k) = _ from wid_i32 _ h1 h2, show (SE.ivar .i64 14).num (rhoT l k) = _ from wid_i64 _ (by omega) (by omega)]
theorem retQ (k : Nat) : retOf true (valsOf (rhoT l k) rQ) = pairV (fitN (negL l) (valW (wholeL (bodyL l)) * 256 + 0)) := by
  obtain ⟨⟨h1, h2⟩, h3, h4⟩ := fitN_range (negL l) (valW (wholeL (bodyL l)) * 256 + 0)
  show pairV ((SE.ivar .i32 15).num (rhoT l k), (SE.ivar .i64 16).num (rhoT l k)) = _
  rw [show (SE.ivar .i32 15).num (rhoT l k) = _ from wid_i32 _ h1 h2, show (SE.ivar .i64 16).num (rhoT l k) = _ from wid_i64 _ (by omega) (by omega)]

/-! ### The known functions -/
variable (hl : l.length ≤ 1000)
include hl
theorem entT_Cp (k : Nat) : EntryOk Tryd.prog tb.glob (rhoT l k) eCp :=
  ⟨⟨Tryd.f30, Tryd.func30, by kernel_rfl, by kernel_rfl⟩, rfl, rfl, fun q hq => by simp [eCp] at hq, cutp_fnc hl⟩
theorem entT_Ct (k : Nat) : EntryOk Tryd.prog tb.glob (rhoT l k) eCt :=
  ⟨⟨Tryd.f31, Tryd.func31, by kernel_rfl, by kernel_rfl⟩, rfl, rfl, fun q hq => by simp [eCt] at hq, cut_fnc (Nat.le_trans (body_le l) hl)⟩
theorem entT_Nm (k : Nat) : EntryOk Tryd.prog tb.glob (rhoT l k) (eNum 32 3 6) := num_entry (.inl rfl) (Nat.le_trans (whole_le _) (Nat.le_trans (body_le l) hl)) rfl rfl
theorem entT_Fr (k : Nat) : EntryOk Tryd.prog tb.glob (rhoT l k) eFr :=
  ⟨⟨Tryd.f33, Tryd.func33, by kernel_rfl, by kernel_rfl⟩, rfl, rfl, fun q hq => by simp [eFr] at hq, by
    show Fnc _ _ 33 #[.string (tx (partL (bodyL l)))] (.tuple #[.int .u64 ((SE.ivar .u64 7).num (rhoT l k)), .bool (fracL (partL (bodyL l))).isSome])
    rw [n7]
    exact frac_fnc (Nat.le_trans (part_le _) (Nat.le_trans (body_le l) hl))⟩
theorem specT2 (k : Nat) : SpecOk Tryd.prog (tbT.atS (rhoT l k) spT2 noLp) := spOf_ok (tb := tbT) (by
  rw [all_cons, all_cons, all_cons, all_cons]
  exact ⟨entT_Cp hl k, entT_Ct hl k, entT_Nm hl k, entT_Fr hl k, fun _ h => by simp at h⟩)
variable (h8 : (wholeL (bodyL l)).length ≤ 8)
omit hl
include h8
theorem valW8 : valW (wholeL (bodyL l)) ≤ 2900000000 := by
  have g1 := valW_le (l := wholeL (bodyL l)) _ (Nat.le_refl _)
  rw [List.take_length] at g1
  have g2 := pow10_le h8
  omega
theorem n11 (k : Nat) : (SE.ivar .u64 11).num (rhoT l k) = (valW (wholeL (bodyL l)) : Int) := by
  have := valW8 h8
  exact wid_u64 _ (by omega) (by omega)
theorem nMul (k : Nat) : (SE.bin .mul .u64 (.ivar .u64 11) (.int .u64 256)).num (rhoT l k) = ((valW (wholeL (bodyL l)) * 256 : Nat) : Int) := by
  have := valW8 h8
  rw [n_mul, n11 h8, n_int, wid_u64 _ (by omega) (by omega)]
  omega
theorem nSumP (k : Nat) : sumP.num (rhoT l k) = ((valW (wholeL (bodyL l)) * 256 + fracA (partL (bodyL l)) : Nat) : Int) := by
  have := valW8 h8
  have := fracA_le (partL (bodyL l))
  unfold sumP
  rw [n_add, n7, nMul h8, wid_u64 _ (by omega) (by omega)]
  omega
theorem nSumQ (k : Nat) : sumQ.num (rhoT l k) = ((valW (wholeL (bodyL l)) * 256 + 0 : Nat) : Int) := by
  have := valW8 h8
  unfold sumQ
  rw [n_add, n_int, nMul h8, wid_u64 _ (by omega) (by omega)]
  omega
theorem entT_Fp (k : Nat) : EntryOk Tryd.prog tb.glob (rhoT l k) eFp :=
  ⟨⟨Tryd.f34, Tryd.func34, by kernel_rfl, by kernel_rfl⟩, rfl, rfl, fun q hq => by simp [eFp] at hq, by
    have := valW8 h8
    have := fracA_le (partL (bodyL l))
    show Fnc _ _ 34 #[.bool (negL l), .int .u64 (sumP.num (rhoT l k))] (retOf true (valsOf (rhoT l k) rP))
    rw [nSumP h8, retP]
    exact fit_fnc (by omega) (.inl rfl)⟩
theorem entT_Fq (k : Nat) : EntryOk Tryd.prog tb.glob (rhoT l k) eFq :=
  ⟨⟨Tryd.f34, Tryd.func34, by kernel_rfl, by kernel_rfl⟩, rfl, rfl, fun q hq => by simp [eFq] at hq, by
    have := valW8 h8
    show Fnc _ _ 34 #[.bool (negL l), .int .u64 (sumQ.num (rhoT l k))] (retOf true (valsOf (rhoT l k) rQ))
    rw [nSumQ h8, retQ]
    exact fit_fnc (by omega) (.inl rfl)⟩
include hl
theorem specT (k : Nat) : SpecOk Tryd.prog (tbT.atS (rhoT l k) spT noLp) := spOf_ok (tb := tbT) (by
  rw [all_cons, all_cons, all_cons, all_cons, all_cons, all_cons]
  exact ⟨entT_Cp hl k, entT_Ct hl k, entT_Nm hl k, entT_Fr hl k, entT_Fp h8 k, entT_Fq h8 k, fun _ h => by simp at h⟩)
end
end
end Go.Proofs.YtkjfpjammlihpaaDoor

namespace Go.Proofs.YtkjfpjammlihpaaDoor
open Go.Sx Go.ChangeShapes Go.WideShapes Go.ChangeAt Go.RowKit Go.Dec
noncomputable section

def MT : List (PC × Sm) :=
  [([(.cmp .lss (.ivar .i64 10) (.len (.svar 3)), true), (.cmp .lss (.ivar .i64 10) (.int .i64 0), false)],
      .next [(9, .int .u64, .bin .add .u64 (.bin .mul .u64 (.ivar .u64 9) (.int .u64 10)) (.conv .u64 (.bin .sub .u8 (.byte (.svar 3) (.ivar .i64 10)) (.int .u8 48)))), (10, .int .i64, .bin .add .i64 (.ivar .i64 10) (.int .i64 1))]),
   ([(.cmp .lss (.ivar .i64 10) (.len (.svar 3)), false), (.cmp .lss (.ivar .i64 10) (.int .i64 0), false)], .out 0 [(11, .int .u64, .ivar .u64 9)])]
theorem run_T0 (r : Nat → Value) : rnT v0 r = some MT := by kernel_rfl
theorem run_T7 (r : Nat → Value) : rnT (uv 7) r = some MT := by kernel_rfl
def InvT (l : List UInt8) (k : Nat) : Prop := k ≤ (wholeL (bodyL l)).length
section
variable {l : List UInt8} (h8 : (wholeL (bodyL l)).length ≤ 8)
include h8
theorem n9 {k : Nat} (hk : k ≤ (wholeL (bodyL l)).length) : (SE.ivar .u64 9).num (rhoT l k) = (valW ((wholeL (bodyL l)).take k) : Int) := by
  have h1 := valW_le (l := wholeL (bodyL l)) k hk
  have h2 := pow10_le (k := k) (by omega)
  exact wid_u64 _ (by omega) (by omega)
theorem n10 {k : Nat} (hk : k ≤ (wholeL (bodyL l)).length) : (SE.ivar .i64 10).num (rhoT l k) = k := wid_i64 _ (by omega) (by omega)
theorem nTD {k : Nat} (hk : k < (wholeL (bodyL l)).length) : (SE.conv .u64 (.bin .sub .u8 (.byte (.svar 3) (.ivar .i64 10)) (.int .u8 48))).num (rhoT l k) = (dW ((wholeL (bodyL l))[k]'hk) : Int) := by
  have e : (SE.byte (.svar 3) (.ivar .i64 10)).num (rhoT l k) = (((wholeL (bodyL l))[k]'hk).toNat : Int) := by
    show byteAt (tx (wholeL (bodyL l))) ((SE.ivar .i64 10).num (rhoT l k)) = _
    rw [n10 h8 (by omega), byte_tx _ hk]
  rw [n_conv, n_sub, e, n_int, dW_num]
theorem rounds_T {D : LoopD} {k : Nat} (hk : InvT l k) : ∀ q, q ∈ MT → q.1.holds (rhoT l k) → SmOk ST (rhoT l) (InvT l) (fun k => (wholeL (bodyL l)).length - k) D (fun _ => 0) k q.2 := by
  have hk' : k ≤ (wholeL (bodyL l)).length := hk
  unfold MT
  rw [all_cons, all_cons]
  refine ⟨fun hp => ?_, fun hp => ?_, fun _ h => by simp at h⟩
  · simp only [h_cons, h_nil, t_lss, n_int, n10 h8 hk', n3L, if_true, Bool.false_eq_true, if_false] at hp
    have hlt : k < (wholeL (bodyL l)).length := by omega
    have h1 := valW_le (l := wholeL (bodyL l)) k hk'
    have h2 := pow10_le (k := k) (by omega)
    have hd : dW (wholeL (bodyL l))[k] < 256 := Nat.mod_lt _ (by decide)
    refine ⟨k + 1, hlt, (by show (wholeL (bodyL l)).length - (k + 1) < (wholeL (bodyL l)).length - k; omega), fun n hn => ?_, ?_, rfl⟩
    · have hn : (Nat.ble n 8 || Nat.ble 11 n) = true := hn
      match n, hn with
      | 0, _ => rfl
      | 1, _ => rfl
      | 2, _ => rfl
      | 3, _ => rfl
      | 4, _ => rfl
      | 5, _ => rfl
      | 6, _ => rfl
      | 7, _ => rfl
      | 8, _ => rfl
      | 11, _ => rfl
      | 12, _ => rfl
      | 13, _ => rfl
      | 14, _ => rfl
      | 15, _ => rfl
      | _ + 16, _ => rfl
    · unfold UpdOk
      rw [all_cons, all_cons]
      refine ⟨upd_F ?_ (n9 h8 hlt), upd_F ?_ (n10 h8 hlt), fun _ h => by simp at h⟩
      · rw [n_add, n_mul, n9 h8 hk', n_int, nTD h8 hlt, wid_u64 (_ * 10) (by omega) (by omega), wid_u64 _ (by omega) (by omega), valW_take hlt]
        omega
      · rw [n_add, n_int, n10 h8 hk', wid_i64 _ (by omega) (by omega)]
        omega
  · simp only [h_cons, h_nil, t_lss, n_int, n10 h8 hk', n3L, if_true, Bool.false_eq_true, if_false] at hp
    obtain rfl : k = (wholeL (bodyL l)).length := by omega
    refine ⟨rfl, ?_⟩
    unfold UpdOk
    rw [all_cons]
    refine ⟨?_, fun _ h => by simp at h⟩
    show Value.int .u64 ((SE.ivar .u64 9).num (rhoT l _)) = Value.int .u64 ((SE.ivar .u64 11).num (rhoT l _))
    rw [n9 h8 hk', List.take_length, n11 h8]
end
theorem fn12 : ∃ fn c, tb.func 12 = some fn ∧ fn.body = some c ∧ fn.ntmps = 79 ∧ loopsOf c = [bodyT] := ⟨Tryd.f12, _, by kernel_rfl, rfl, by kernel_rfl, by kernel_rfl⟩
theorem code_T : codeOk 79 bodyT = true := by kernel_rfl
theorem loops_T : loopsOf bodyT = [] := by kernel_rfl
theorem pc_T {l : List UInt8} (h8 : (wholeL (bodyL l)).length ≤ 8) {k : Nat} (hk : InvT l k) : pcU.holds (rhoT l k) := addPC_ok (PC.holds_nil _) (by
  rw [t_leq, n_int, n10 h8 hk]
  simp only [if_true]
  omega)
theorem known_T0 {l : List UInt8} (hl : l.length ≤ 1000) (h8 : (wholeL (bodyL l)).length ≤ 8) {k : Nat} (hk : InvT l k) : SoundAt Tryd.prog (tbT.atS (rhoT l k) spT noLp) 79 (.code (.loop bodyT)) (hdT v0) [(.exit 0, { env := exT v0, h := (hdT v0).h })] :=
  loop_known (D := DT v0) (out := fun _ => 0) (tbO_ok _) (tbO_wf _) (fun x => specT hl h8 x) (by omega) code_T (fun x d hd => by rw [loops_T] at hd; simp at hd) (by kernel_rfl) (by kernel_rfl) (by kernel_rfl)
    (kn := kn0) (n0 := 300) (n1 := 300) (n2 := 300) (fun x => kn_none) (pc := pcU) (fun k hk => pc_T h8 hk) (fun r => run_T0 r) (fun x hx => rounds_T h8 hx) (fun x hx => by show 0 < 1; omega) k hk
theorem known_T7 {l : List UInt8} (hl : l.length ≤ 1000) (h8 : (wholeL (bodyL l)).length ≤ 8) {k : Nat} (hk : InvT l k) : SoundAt Tryd.prog (tbT.atS (rhoT l k) spT noLp) 79 (.code (.loop bodyT)) (hdT (uv 7)) [(.exit 0, { env := exT (uv 7), h := (hdT (uv 7)).h })] :=
  loop_known (D := DT (uv 7)) (out := fun _ => 0) (tbO_ok _) (tbO_wf _) (fun x => specT hl h8 x) (by omega) code_T (fun x d hd => by rw [loops_T] at hd; simp at hd) (by kernel_rfl) (by kernel_rfl) (by kernel_rfl)
    (kn := kn0) (n0 := 300) (n1 := 300) (n2 := 300) (fun x => kn_none) (pc := pcU) (fun k hk => pc_T h8 hk) (fun r => run_T7 r) (fun x hx => rounds_T h8 hx) (fun x hx => by show 0 < 1; omega) k hk
theorem start_T {l : List UInt8} : UpdOk (rhoT l 0) (rhoT l 0) [(9, .int .u64, .int .u64 0), (10, .int .i64, .int .i64 0)] := by
  unfold UpdOk
  rw [all_cons, all_cons]
  exact ⟨rfl, rfl, fun _ h => by simp at h⟩
theorem specLT {l : List UInt8} (hl : l.length ≤ 1000) (h8 : (wholeL (bodyL l)).length ≤ 8) : SpecOk Tryd.prog (tbT.atS (rhoT l 0) spT (lpOf [eT v0, eT (uv 7)])) :=
  specL_of (specT hl h8 0) (fun f fn c hfn hc d hd e he hk => by
    obtain ⟨hf, hfn⟩ := tbO_func hfn
    obtain rfl : f = 12 := Nat.eq_of_beq_eq_true hf
    obtain ⟨fn', c', h1, h2, h3, h4⟩ := fn12
    obtain rfl : fn = fn' := Option.some.inj (hfn.symm.trans h1)
    obtain rfl : c = c' := Option.some.inj (hc.symm.trans h2)
    rw [h4, List.mem_singleton] at hd
    subst hd
    have h0 : InvT l 0 := Nat.zero_le _
    rw [h3]
    rcases List.mem_cons.1 he with rfl | he
    · exact ⟨start_T, known_T0 hl h8 h0⟩
    · rw [List.mem_singleton.1 he]
      exact ⟨start_T, known_T7 hl h8 h0⟩)

theorem leafT {l : List UInt8} {x : Int × Int} (h : cT ((wholeL (bodyL l)).all dig) (!(wholeL (bodyL l)).isEmpty) (Nat.blt 1 (wholeL (bodyL l)).length) ((wholeL (bodyL l)).head? == some 48) (negL l) (bodyL l == [48]) (pointL (bodyL l)) (fracL (partL (bodyL l))).isSome (Nat.blt 8 (wholeL (bodyL l)).length)
      (fitN (negL l) (valL (wholeL (bodyL l)) * 256 + fracA (partL (bodyL l)))) (fitN (negL l) (valL (wholeL (bodyL l)) * 256 + 0)) = x) : parseL l = x := by
  rw [← prog_eq, prog_ctl]
  exact h
section
variable {B6 L0 L1 H N Z P F L8 : Bool} {x y : Int × Int}
theorem cT_num (h : (B6 && L0) = false) : cT B6 L0 L1 H N Z P F L8 x y = (0, 3) := by unfold cT; rw [h]; rfl
theorem cT_head (h1 : L1 = true) (h2 : H = true) : cT B6 L0 L1 H N Z P F L8 x y = (0, 3) := by subst h1 h2; unfold cT; simp
theorem cT_zero (h1 : N = true) (h2 : Z = true) : cT B6 L0 L1 H N Z P F L8 x y = (0, 3) := by subst h1 h2; unfold cT; simp
theorem cT_frac (h1 : P = true) (h2 : F = false) : cT B6 L0 L1 H N Z P F L8 x y = (0, 3) := by subst h1 h2; unfold cT; simp
theorem cT_good (b : B6 = true) (l0 : L0 = true) (h : L1 = false ∨ H = false) (z : N = false ∨ Z = false) : cT B6 L0 L1 H N Z P F L8 x y = if P then (if F then (if L8 then (0, 6) else x) else (0, 3)) else (if L8 then (0, 6) else y) := by
  subst b l0
  unfold cT
  rcases h with rfl | rfl <;> rcases z with rfl | rfl <;> simp
end
theorem numA {ρ : Nat → Value} : SE.truth ρ (.and (.bvar 6) aL0) = SE.truth ρ aNum := rfl
/-- **The program's Parse.** -/
theorem parse_fnc {l : List UInt8} (hl : l.length ≤ 1000) : Fnc Tryd.prog tb.glob 12 #[.string (tx l)] (pairV (parseL l)) := by
  by_cases h8 : (wholeL (bodyL l)).length ≤ 8
  · have hb8 : Nat.blt 8 (wholeL (bodyL l)).length = false := by
      rw [← lt_blt]
      simp only [decide_eq_false_iff_not]
      omega
    have hp : (pcW false).holds (rhoT l 0) := addPC_ok (PC.holds_nil _) (by
      rw [t_gtr, n3L, n_int]
      simp only [Bool.false_eq_true, if_false]
      omega)
    have := fnc_run (tb := tbT) (tbO_ok _) (tbO_wf _) (specLT hl h8) (kn := kn0) (n0 := 300) (n1 := 300) kn_none hp (f := 12) (args := [xv 0]) (by rfl) (run_Ta _) (res := pairV (parseL l)) (by
      unfold MTa
      rw [all_cons, all_cons, all_cons, all_cons, all_cons, all_cons, all_cons, all_cons, all_cons, all_cons, all_cons, all_cons, all_cons, all_cons, all_cons, all_cons]
      refine ⟨fun hp => ?_, fun hp => ?_, fun hp => ?_, fun hp => ?_, fun hp => ?_, fun hp => ?_, fun hp => ?_, fun hp => ?_, fun hp => ?_, fun hp => ?_, fun hp => ?_, fun hp => ?_, fun hp => ?_, fun hp => ?_, fun hp => ?_, fun hp => ?_, fun _ h => by simp at h⟩
      · simp only [h_cons, h_nil, numA, tNum, tL0, tL1, tL8, tH, tZ, tB6, tN, tP, tF, and_true] at hp
        obtain ⟨fNum, fL8⟩ := hp
        rw [retS]
        refine congrArg pairV (Eq.symm (leafT ?_))
        exact cT_num fNum
      · simp only [h_cons, h_nil, numA, tNum, tL0, tL1, tL8, tH, tZ, tB6, tN, tP, tF, and_true] at hp
        obtain ⟨fH, fL1, fB6, fL0, fL8⟩ := hp
        rw [retS]
        refine congrArg pairV (Eq.symm (leafT ?_))
        exact cT_head fL1 fH
      · simp only [h_cons, h_nil, numA, tNum, tL0, tL1, tL8, tH, tZ, tB6, tN, tP, tF, and_true] at hp
        obtain ⟨fZ, fN, fH, fL1, fB6, fL0, fL8⟩ := hp
        rw [retS]
        refine congrArg pairV (Eq.symm (leafT ?_))
        exact cT_zero fN fZ
      · simp only [h_cons, h_nil, numA, tNum, tL0, tL1, tL8, tH, tZ, tB6, tN, tP, tF, and_true] at hp
        obtain ⟨fF, fP, fZ, fN, fH, fL1, fB6, fL0, fL8⟩ := hp
        rw [retS]
        refine congrArg pairV (Eq.symm (leafT ?_))
        exact cT_frac fP fF
      · simp only [h_cons, h_nil, numA, tNum, tL0, tL1, tL8, tH, tZ, tB6, tN, tP, tF, and_true] at hp
        obtain ⟨fF, fP, fZ, fN, fH, fL1, fB6, fL0, fL8⟩ := hp
        rw [retP, valW_eq fB6]
        refine congrArg pairV (Eq.symm (leafT ?_))
        refine (cT_good fB6 fL0 (.inr fH) (.inr fZ)).trans ?_
        rw [fP, fF, hb8]
        rfl
      · simp only [h_cons, h_nil, numA, tNum, tL0, tL1, tL8, tH, tZ, tB6, tN, tP, tF, and_true] at hp
        obtain ⟨fP, fZ, fN, fH, fL1, fB6, fL0, fL8⟩ := hp
        rw [retQ, valW_eq fB6]
        refine congrArg pairV (Eq.symm (leafT ?_))
        refine (cT_good fB6 fL0 (.inr fH) (.inr fZ)).trans ?_
        rw [fP, hb8]
        rfl
      · simp only [h_cons, h_nil, numA, tNum, tL0, tL1, tL8, tH, tZ, tB6, tN, tP, tF, and_true] at hp
        obtain ⟨fF, fP, fN, fH, fL1, fB6, fL0, fL8⟩ := hp
        rw [retS]
        refine congrArg pairV (Eq.symm (leafT ?_))
        exact cT_frac fP fF
      · simp only [h_cons, h_nil, numA, tNum, tL0, tL1, tL8, tH, tZ, tB6, tN, tP, tF, and_true] at hp
        obtain ⟨fF, fP, fN, fH, fL1, fB6, fL0, fL8⟩ := hp
        rw [retP, valW_eq fB6]
        refine congrArg pairV (Eq.symm (leafT ?_))
        refine (cT_good fB6 fL0 (.inr fH) (.inl fN)).trans ?_
        rw [fP, fF, hb8]
        rfl
      · simp only [h_cons, h_nil, numA, tNum, tL0, tL1, tL8, tH, tZ, tB6, tN, tP, tF, and_true] at hp
        obtain ⟨fP, fN, fH, fL1, fB6, fL0, fL8⟩ := hp
        rw [retQ, valW_eq fB6]
        refine congrArg pairV (Eq.symm (leafT ?_))
        refine (cT_good fB6 fL0 (.inr fH) (.inl fN)).trans ?_
        rw [fP, hb8]
        rfl
      · simp only [h_cons, h_nil, numA, tNum, tL0, tL1, tL8, tH, tZ, tB6, tN, tP, tF, and_true] at hp
        obtain ⟨fZ, fN, fL1, fB6, fL0, fL8⟩ := hp
        rw [retS]
        refine congrArg pairV (Eq.symm (leafT ?_))
        exact cT_zero fN fZ
      · simp only [h_cons, h_nil, numA, tNum, tL0, tL1, tL8, tH, tZ, tB6, tN, tP, tF, and_true] at hp
        obtain ⟨fF, fP, fZ, fN, fL1, fB6, fL0, fL8⟩ := hp
        rw [retS]
        refine congrArg pairV (Eq.symm (leafT ?_))
        exact cT_frac fP fF
      · simp only [h_cons, h_nil, numA, tNum, tL0, tL1, tL8, tH, tZ, tB6, tN, tP, tF, and_true] at hp
        obtain ⟨fF, fP, fZ, fN, fL1, fB6, fL0, fL8⟩ := hp
        rw [retP, valW_eq fB6]
        refine congrArg pairV (Eq.symm (leafT ?_))
        refine (cT_good fB6 fL0 (.inl fL1) (.inr fZ)).trans ?_
        rw [fP, fF, hb8]
        rfl
      · simp only [h_cons, h_nil, numA, tNum, tL0, tL1, tL8, tH, tZ, tB6, tN, tP, tF, and_true] at hp
        obtain ⟨fP, fZ, fN, fL1, fB6, fL0, fL8⟩ := hp
        rw [retQ, valW_eq fB6]
        refine congrArg pairV (Eq.symm (leafT ?_))
        refine (cT_good fB6 fL0 (.inl fL1) (.inr fZ)).trans ?_
        rw [fP, hb8]
        rfl
      · simp only [h_cons, h_nil, numA, tNum, tL0, tL1, tL8, tH, tZ, tB6, tN, tP, tF, and_true] at hp
        obtain ⟨fF, fP, fN, fL1, fB6, fL0, fL8⟩ := hp
        rw [retS]
        refine congrArg pairV (Eq.symm (leafT ?_))
        exact cT_frac fP fF
      · simp only [h_cons, h_nil, numA, tNum, tL0, tL1, tL8, tH, tZ, tB6, tN, tP, tF, and_true] at hp
        obtain ⟨fF, fP, fN, fL1, fB6, fL0, fL8⟩ := hp
        rw [retP, valW_eq fB6]
        refine congrArg pairV (Eq.symm (leafT ?_))
        refine (cT_good fB6 fL0 (.inl fL1) (.inl fN)).trans ?_
        rw [fP, fF, hb8]
        rfl
      · simp only [h_cons, h_nil, numA, tNum, tL0, tL1, tL8, tH, tZ, tB6, tN, tP, tF, and_true] at hp
        obtain ⟨fP, fN, fL1, fB6, fL0, fL8⟩ := hp
        rw [retQ, valW_eq fB6]
        refine congrArg pairV (Eq.symm (leafT ?_))
        refine (cT_good fB6 fL0 (.inl fL1) (.inl fN)).trans ?_
        rw [fP, hb8]
        rfl)
    exact this
  · have hb8 : Nat.blt 8 (wholeL (bodyL l)).length = true := by
      rw [← lt_blt]
      simp only [decide_eq_true_eq]
      omega
    have hb1 : Nat.blt 1 (wholeL (bodyL l)).length = true := by
      rw [← lt_blt]
      simp only [decide_eq_true_eq]
      omega
    have hp : (pcW true).holds (rhoT l 0) := addPC_ok (PC.holds_nil _) (by
      rw [t_gtr, n3L, n_int]
      simp only [if_true]
      omega)
    have := fnc_run (tb := tbT) (tbO_ok _) (tbO_wf _) (specT2 hl 0) (kn := kn0) (n0 := 300) (n1 := 300) kn_none hp (f := 12) (args := [xv 0]) (by rfl) (run_Tb _) (res := pairV (parseL l)) (by
      unfold MTb
      rw [all_cons, all_cons, all_cons, all_cons, all_cons, all_cons, all_cons, all_cons, all_cons]
      refine ⟨fun hp => ?_, fun hp => ?_, fun hp => ?_, fun hp => ?_, fun hp => ?_, fun hp => ?_, fun hp => ?_, fun hp => ?_, fun hp => ?_, fun _ h => by simp at h⟩
      · simp only [h_cons, h_nil, numA, tNum, tL0, tL1, tL8, tH, tZ, tB6, tN, tP, tF, and_true] at hp
        obtain ⟨fNum, fL8⟩ := hp
        rw [retS]
        refine congrArg pairV (Eq.symm (leafT ?_))
        exact cT_num fNum
      · simp only [h_cons, h_nil, numA, tNum, tL0, tL1, tL8, tH, tZ, tB6, tN, tP, tF, and_true] at hp
        obtain ⟨fH, fB6, fL0, fL8⟩ := hp
        rw [retS]
        refine congrArg pairV (Eq.symm (leafT ?_))
        exact cT_head hb1 fH
      · simp only [h_cons, h_nil, numA, tNum, tL0, tL1, tL8, tH, tZ, tB6, tN, tP, tF, and_true] at hp
        obtain ⟨fZ, fN, fH, fB6, fL0, fL8⟩ := hp
        rw [retS]
        refine congrArg pairV (Eq.symm (leafT ?_))
        exact cT_zero fN fZ
      · simp only [h_cons, h_nil, numA, tNum, tL0, tL1, tL8, tH, tZ, tB6, tN, tP, tF, and_true] at hp
        obtain ⟨fF, fP, fZ, fN, fH, fB6, fL0, fL8⟩ := hp
        rw [retS]
        refine congrArg pairV (Eq.symm (leafT ?_))
        exact cT_frac fP fF
      · simp only [h_cons, h_nil, numA, tNum, tL0, tL1, tL8, tH, tZ, tB6, tN, tP, tF, and_true] at hp
        obtain ⟨fF, fP, fZ, fN, fH, fB6, fL0, fL8⟩ := hp
        rw [retR]
        refine congrArg pairV (Eq.symm (leafT ?_))
        refine (cT_good fB6 fL0 (.inr fH) (.inr fZ)).trans ?_
        rw [fP, fF, hb8]
        rfl
      · simp only [h_cons, h_nil, numA, tNum, tL0, tL1, tL8, tH, tZ, tB6, tN, tP, tF, and_true] at hp
        obtain ⟨fP, fZ, fN, fH, fB6, fL0, fL8⟩ := hp
        rw [retR]
        refine congrArg pairV (Eq.symm (leafT ?_))
        refine (cT_good fB6 fL0 (.inr fH) (.inr fZ)).trans ?_
        rw [fP, hb8]
        rfl
      · simp only [h_cons, h_nil, numA, tNum, tL0, tL1, tL8, tH, tZ, tB6, tN, tP, tF, and_true] at hp
        obtain ⟨fF, fP, fN, fH, fB6, fL0, fL8⟩ := hp
        rw [retS]
        refine congrArg pairV (Eq.symm (leafT ?_))
        exact cT_frac fP fF
      · simp only [h_cons, h_nil, numA, tNum, tL0, tL1, tL8, tH, tZ, tB6, tN, tP, tF, and_true] at hp
        obtain ⟨fF, fP, fN, fH, fB6, fL0, fL8⟩ := hp
        rw [retR]
        refine congrArg pairV (Eq.symm (leafT ?_))
        refine (cT_good fB6 fL0 (.inr fH) (.inl fN)).trans ?_
        rw [fP, fF, hb8]
        rfl
      · simp only [h_cons, h_nil, numA, tNum, tL0, tL1, tL8, tH, tZ, tB6, tN, tP, tF, and_true] at hp
        obtain ⟨fP, fN, fH, fB6, fL0, fL8⟩ := hp
        rw [retR]
        refine congrArg pairV (Eq.symm (leafT ?_))
        refine (cT_good fB6 fL0 (.inr fH) (.inl fN)).trans ?_
        rw [fP, hb8]
        rfl)
    exact this
end
end Go.Proofs.YtkjfpjammlihpaaDoor
