/- A step's calls on the reference's keymap. -/
import Derived.Test.YtaidiaiedhbaoaaKmB1
import Derived.Test.YtaidiaiedhbaoaaKmV
import Derived.Test.YtaidiaiedhbaoaaSxT
/- A step's calls on the reference's keymap. -/
set_option linter.unusedVariables false
set_option linter.unusedSimpArgs false
namespace Go.Proofs.Ytaidiaiedhbaoaa
open Go.Sx Go.ChangeShapes Go.WideShapes Go.ChangeAt Go.RowKit
noncomputable section
abbrev lvR : SE := .dcell (.dvar 74) (.ivar .i64 95) 1
def eFindR : EntryV := { f := 29, args := [.sli shK (.bvar 73) (.dvar 74) .unk, cC], res := iv 95 }
def eLaysR : EntryV := { f := 14, args := [wA], res := iv 65 }
def eLayR : EntryV := { f := 30, args := [wA, mA], res := iv 100 }
def eEffR : EntryV := { f := 18, args := [mA], res := iv 101 }
def eSymR : EntryV := { f := 16, args := [wA, mA, cC], res := iv 102 }
def ePressR : EntryV := { f := 22, args := [wA, mA, cC], res := .tuple [mP, iv 102] }
def eRelR : EntryV := { f := 20, args := [wA, mA, cC], res := mR }
def pcN : PC := addPC (.cmp .lss (.ivar .i64 95) (i64 0)) true []
def pcG : PC := addPC (.cmp .leq (i64 0) (.ivar .i64 95)) true (addPC (.cmp .lss (.ivar .i64 95) (.dlen (.dvar 74))) true (addPC (.cmp .lss (i64 0) (nE 102)) true (addPC (.cmp .leq (firstS lvR) (i64 16777223)) true (addPC (.cmp .leq (i64 0) (nE 100)) true
  (addPC (.cmp .lss (i64 0) (.dlen (rowS lvR (i64 0)))) true (addPC (.cmp .lss (i64 0) (.dlen lvR)) true pcL))))))
def spR1 : Sp := Go.Sx.spV [eLaysR]
def spR2 : Sp := Go.Sx.spV [eFindR, eLayR, eEffR]
def spR3 : Sp := Go.Sx.spV [eFindR, eLayR, eLaysR, eSymR]
def rnLayR (r : Nat → Value) := outsV (is1 100) (iv 100) (callF kn0 Try.prog (tbS.atS r spR1 noLp) 100 100 pcL 30 [wA, mA] (hpOf []))
def rnSymR (r : Nat → Value) := outsV (is1 102) (iv 102) (callF kn0 Try.prog (tbS.atS r spR2 noLp) 100 100 pcG 16 [wA, mA, cC] (hpOf []))
def rnSymRN (r : Nat → Value) := outsV (is1 102) (iv 102) (callF kn0 Try.prog (tbS.atS r spR2 noLp) 100 100 pcN 16 [wA, mA, cC] (hpOf []))
def rnPrR (r : Nat → Value) := outsV is4 (.tuple [mP, iv 102]) (callF kn0 Try.prog (tbS.atS r spR3 noLp) 100 100 pcG 22 [wA, mA, cC] (hpOf []))
def pcM : PC := addPC (.cmp .eql (nE 102) (i64 0)) true pcN
def rnPrRN (r : Nat → Value) := outsV is4 (.tuple [mP, iv 102]) (callF kn0 Try.prog (tbS.atS r spR3 noLp) 100 100 pcM 22 [wA, mA, cC] (hpOf []))
def rnReR (r : Nat → Value) := outsV (is1 107) mR (callF kn0 Try.prog (tbS.atS r spR3 noLp) 100 100 pcG 20 [wA, mA, cC] (hpOf []))
def rnReRN (r : Nat → Value) := outsV (is1 107) mR (callF kn0 Try.prog (tbS.atS r spR3 noLp) 100 100 pcN 20 [wA, mA, cC] (hpOf []))
def okLayR (r : Nat → Value) := agreeL (layT (nE 94) (nE 65)) (rnLayR r)
def okSymR (r : Nat → Value) := agreeL (symT lvR (nE 100) (nE 101)) (rnSymR r)
def okSymRN (r : Nat → Value) := agreeL (.leaf [uI 102 (i64 0)]) (rnSymRN r)
end
end Go.Proofs.Ytaidiaiedhbaoaa

/- Bits of numbers: the five modifiers. -/
namespace Go.Sx
open Go
theorem b_and (A B : Int) : bits .and .i64 A B = IntKind.wrap .i64 ((BitVec.ofInt 64 A &&& BitVec.ofInt 64 B).toNat : Int) := rfl
theorem b_andNot (A B : Int) : bits .andNot .i64 A B = IntKind.wrap .i64 ((BitVec.ofInt 64 A &&& ~~~BitVec.ofInt 64 B).toNat : Int) := rfl
theorem and_two (A : Int) (i : Nat) (hi : i < 5) : bits .and .i64 A (2 ^ i) = if (BitVec.ofInt 64 A).getLsbD i then 2 ^ i else 0 := by
  have e : BitVec.ofInt 64 (2 ^ i) = BitVec.twoPow 64 i := by
    match i, hi with
    | 0, _ => decide
    | 1, _ => decide
    | 2, _ => decide
    | 3, _ => decide
    | 4, _ => decide
  rw [b_and, e, BitVec.and_twoPow]
  split
  · match i, hi with
    | 0, _ => decide
    | 1, _ => decide
    | 2, _ => decide
    | 3, _ => decide
    | 4, _ => decide
  · decide
theorem ofInt_wrap (v : BitVec 64) : BitVec.ofInt 64 (IntKind.wrap .i64 v.toNat) = v := by
  apply BitVec.eq_of_toNat_eq
  rw [BitVec.toNat_ofInt]
  have := v.isLt
  have h : ∀ n : Nat, n < 2 ^ 64 → (IntKind.wrap .i64 (n : Int)) % ((2 : Nat) ^ 64 : Nat) = n := by
    intro n hn
    simp only [IntKind.wrap]
    simp [IntKind.bits, IntKind.signed]
    omega
  rw [h _ this]
  rfl
theorem ofInt_or (A B : Int) : BitVec.ofInt 64 (bits .or .i64 A B) = BitVec.ofInt 64 A ||| BitVec.ofInt 64 B := ofInt_wrap _
def hasAny (A B C b : Int) : Prop := bits .and .i64 A b ≠ 0 ∨ bits .and .i64 B b ≠ 0 ∨ bits .and .i64 C b ≠ 0
instance (A B C b : Int) : Decidable (hasAny A B C b) := by unfold hasAny; infer_instance
def effTo (A B C : Int) : Nat → Int
  | 0 => 0
  | x + 1 => if hasAny A B C (2 ^ x) then effTo A B C x + 2 ^ x else effTo A B C x
theorem hasAny_iff (A B C : Int) (i : Nat) (hi : i < 5) : hasAny A B C (2 ^ i) ↔ (BitVec.ofInt 64 A ||| BitVec.ofInt 64 B ||| BitVec.ofInt 64 C).toNat / 2 ^ i % 2 = 1 := by
  unfold hasAny
  have key : ∀ A : Int, bits .and .i64 A (2 ^ i) ≠ 0 ↔ (BitVec.ofInt 64 A).getLsbD i = true := fun A => by
    rw [and_two A i hi]
    have : (2 : Int) ^ i ≠ 0 := Int.pow_ne_zero (by decide)
    split <;> simp_all
  rw [key, key, key]
  have e : (BitVec.ofInt 64 A ||| BitVec.ofInt 64 B ||| BitVec.ofInt 64 C).getLsbD i = decide ((BitVec.ofInt 64 A ||| BitVec.ofInt 64 B ||| BitVec.ofInt 64 C).toNat / 2 ^ i % 2 = 1) := Nat.testBit_eq_decide_div_mod_eq
  rw [BitVec.getLsbD_or, BitVec.getLsbD_or] at e
  constructor
  · intro h
    have : ((BitVec.ofInt 64 A).getLsbD i || (BitVec.ofInt 64 B).getLsbD i || (BitVec.ofInt 64 C).getLsbD i) = true := by
      rcases h with h | h | h <;> simp [h]
    rw [this] at e
    exact of_decide_eq_true e.symm
  · intro h
    rw [decide_eq_true h] at e
    simp only [Bool.or_eq_true] at e
    rcases e with (h | h) | h
    · exact .inl h
    · exact .inr (.inl h)
    · exact .inr (.inr h)
theorem effTo_mod (A B C : Int) : ∀ i, i ≤ 5 → effTo A B C i = (((BitVec.ofInt 64 A ||| BitVec.ofInt 64 B ||| BitVec.ofInt 64 C).toNat % 2 ^ i : Nat) : Int)
  | 0, _ => by simp [effTo, Nat.mod_one]
  | i + 1, h => by
    have ih := effTo_mod A B C i (by omega)
    have hi := hasAny_iff A B C i (by omega)
    generalize (BitVec.ofInt 64 A ||| BitVec.ofInt 64 B ||| BitVec.ofInt 64 C).toNat = v at ih hi ⊢
    have e : v % 2 ^ (i + 1) = v % 2 ^ i + 2 ^ i * (v / 2 ^ i % 2) := Nat.mod_pow_succ
    unfold effTo
    rw [e, ih]
    by_cases h1 : v / 2 ^ i % 2 = 1
    · rw [if_pos (hi.2 h1), h1, Nat.mul_one]
      push_cast
      rfl
    · rw [if_neg (fun hc => h1 (hi.1 hc)), show v / 2 ^ i % 2 = 0 by omega, Nat.mul_zero, Nat.add_zero]
theorem eff_all (A B C : Int) : bits .and .i64 (bits .or .i64 (bits .or .i64 A B) C) 31 = effTo A B C 5 := by
  have h0 := and_mask .i64 5 (bits .or .i64 (bits .or .i64 A B) C) (by decide)
  have e31 : (2 : Int) ^ 5 - 1 = 31 := by decide
  rw [e31] at h0
  rw [h0, effTo_mod A B C 5 (by omega)]
  have hv : BitVec.ofInt 64 (bits .or .i64 (bits .or .i64 A B) C) = BitVec.ofInt 64 A ||| BitVec.ofInt 64 B ||| BitVec.ofInt 64 C := by rw [ofInt_or, ofInt_or]
  generalize bits .or .i64 (bits .or .i64 A B) C = X at hv
  rw [← hv, BitVec.toNat_ofInt]
  have h1 : (0 : Int) ≤ X % ((2 ^ 64 : Nat) : Int) := Int.emod_nonneg _ (by decide)
  rw [Int.natCast_emod, Int.toNat_of_nonneg h1]
  have e64 : ((2 ^ 64 : Nat) : Int) = 18446744073709551616 := by decide
  have e5 : ((2 ^ 5 : Nat) : Int) = 32 := by decide
  have e5' : (2 : Int) ^ 5 = 32 := by decide
  rw [e64, e5, e5']
  omega
theorem effTo_rng (A B C : Int) : ∀ x, 0 ≤ effTo A B C x ∧ effTo A B C x < 2 ^ x
  | 0 => by simp [effTo]
  | x + 1 => by
    have := effTo_rng A B C x
    have hp : (0 : Int) < 2 ^ x := Int.pow_pos (by decide)
    have e : (2 : Int) ^ (x + 1) = 2 ^ x + 2 ^ x := by rw [Int.pow_succ]; omega
    unfold effTo
    split <;> omega
/-- Nothing is cleared. -/
theorem andNot_zero (A : Int) (h1 : -9223372036854775808 ≤ A) (h2 : A ≤ 9223372036854775807) : bits .andNot .i64 A 0 = A := by
  have e : BitVec.ofInt 64 A &&& ~~~BitVec.ofInt 64 0 = BitVec.ofInt 64 A := by
    have : ~~~BitVec.ofInt 64 0 = BitVec.allOnes 64 := by decide
    rw [this]
    exact BitVec.and_allOnes
  rw [b_andNot, e, BitVec.toNat_ofInt]
  have h : (0 : Int) ≤ A % ((2 ^ 64 : Nat) : Int) := Int.emod_nonneg _ (by decide)
  rw [Int.toNat_of_nonneg h]
  have e64 : ((2 ^ 64 : Nat) : Int) = 18446744073709551616 := by decide
  rw [e64]
  simp only [IntKind.wrap]
  simp [IntKind.bits, IntKind.signed]
  omega
theorem effTo_succ (A B C : Int) (x : Nat) : effTo A B C (x + 1) = if hasAny A B C (2 ^ x) then effTo A B C x + 2 ^ x else effTo A B C x := rfl
theorem n_and2 {ρ : Nat → Value} (a b : SE) : (SE.bin .and .i64 a b).num ρ = bits .and .i64 (a.num ρ) (b.num ρ) := by simp only [SE.num, SE.all, intBin, if_true, numOf]
theorem n_or2 {ρ : Nat → Value} (a b : SE) : (SE.bin .or .i64 a b).num ρ = bits .or .i64 (a.num ρ) (b.num ρ) := by simp only [SE.num, SE.all, intBin, if_true, numOf]
theorem n_xor2 {ρ : Nat → Value} (a b : SE) : (SE.bin .xor .i64 a b).num ρ = bits .xor .i64 (a.num ρ) (b.num ρ) := by simp only [SE.num, SE.all, intBin, if_true, numOf]
theorem n_andNot2 {ρ : Nat → Value} (a b : SE) : (SE.bin .andNot .i64 a b).num ρ = bits .andNot .i64 (a.num ρ) (b.num ρ) := by simp only [SE.num, SE.all, intBin, if_true, numOf]
end Go.Sx

/- A step's calls: the reference's Effective. -/
set_option linter.unusedVariables false
set_option linter.unusedSimpArgs false
namespace Go.Proofs.Ytaidiaiedhbaoaa
open Go.Sx Go.ChangeShapes Go.WideShapes Go.ChangeAt Go.RowKit
noncomputable section
def entE1 : St := { env := ((Tr.leaf.node (some (V.val (Value.int .i64 0))) Tr.leaf).node (some (V.ptr 0 0)) Tr.leaf).node (some (V.agg [V.sym (STy.int .i64) (SE.ivar .i64 91), V.sym (STy.int .i64) (SE.ivar .i64 92), V.sym (STy.int .i64) (SE.ivar .i64 93), V.sym (STy.int .i64) (SE.ivar .i64 94)])) ((Tr.leaf.node (some (V.val (Value.int .i64 1))) Tr.leaf).node (some (V.val (Value.int .i64 0))) Tr.leaf), h := { tab := Tr.leaf.node (some (Blk.cells [V.sym (STy.int .i64) (SE.ivar .i64 91), V.sym (STy.int .i64) (SE.ivar .i64 92), V.sym (STy.int .i64) (SE.ivar .i64 93), V.sym (STy.int .i64) (SE.ivar .i64 94)])) Tr.leaf, next := 1, base := 0, low := none } }
def pcE1 : PC := addPC (.cmp .leq (i64 1) (nE 111)) true (addPC (.cmp .leq (nE 111) (i64 32)) true (addPC (.cmp .leq (i64 0) (nE 112)) true (addPC (.cmp .leq (nE 112) (i64 32)) true [])))
def LE1 : LoopP where
  f := 18
  i := 0
  key := 721152
  D := mkLoop (loopAt tbS 18 0) entE1 [(3, iv 112), (4, iv 111)] [] [(.exit 0, [(3, iv 113)], [])] 0 300 (famPat 110 [111, 112]) (fun n => Nat.beq n 113)
  cs := []
def stE1 := startOf LE1.D
def rnE1 (r : Nat → Value) := sums LE1.D (execF kn0 (callF kn0 Try.prog (tbS.atS r noSp noLp) 100 100) Try.prog (tbS.atS r noSp noLp) 100 (.code (loopAt tbS 18 0)) pcE1 LE1.D.hd)
def lpE1 : Lp := lpOf [LE1.e]
def rnEffR (r : Nat → Value) := outsV (is1 101) (iv 101) (callF kn0 Try.prog (tbS.atS r noSp lpE1) 100 100 [] 18 [mA] (hpOf []))
def ME1 : List (PC × Sm) := [([(SE.cmp .eql (SE.bin .and .i64 (SE.ivar .i64 91) (SE.ivar .i64 111)) (SE.int .i64 0), false), (SE.cmp .lss (SE.int .i64 16) (SE.ivar .i64 111), false), (SE.cmp .lss (SE.ivar .i64 111) (SE.int .i64 1), false), (SE.cmp .lss (SE.int .i64 32) (SE.ivar .i64 111), false), (SE.cmp .lss (SE.ivar .i64 112) (SE.int .i64 0), false), (SE.cmp .lss (SE.int .i64 32) (SE.ivar .i64 112), false)], Sm.next [(112, UTy.sc (.int .i64), SE.bin .add .i64 (SE.ivar .i64 111) (SE.ivar .i64 112)), (111, UTy.sc (.int .i64), SE.bin .mul .i64 (SE.ivar .i64 111) (SE.int .i64 2))]), ([(SE.cmp .eql (SE.bin .and .i64 (SE.ivar .i64 92) (SE.ivar .i64 111)) (SE.int .i64 0), false), (SE.cmp .eql (SE.bin .and .i64 (SE.ivar .i64 91) (SE.ivar .i64 111)) (SE.int .i64 0), true), (SE.cmp .lss (SE.int .i64 16) (SE.ivar .i64 111), false), (SE.cmp .lss (SE.ivar .i64 111) (SE.int .i64 1), false), (SE.cmp .lss (SE.int .i64 32) (SE.ivar .i64 111), false), (SE.cmp .lss (SE.ivar .i64 112) (SE.int .i64 0), false), (SE.cmp .lss (SE.int .i64 32) (SE.ivar .i64 112), false)], Sm.next [(112, UTy.sc (.int .i64), SE.bin .add .i64 (SE.ivar .i64 111) (SE.ivar .i64 112)), (111, UTy.sc (.int .i64), SE.bin .mul .i64 (SE.ivar .i64 111) (SE.int .i64 2))]), ([(SE.cmp .eql (SE.bin .and .i64 (SE.ivar .i64 93) (SE.ivar .i64 111)) (SE.int .i64 0), false), (SE.cmp .eql (SE.bin .and .i64 (SE.ivar .i64 92) (SE.ivar .i64 111)) (SE.int .i64 0), true), (SE.cmp .eql (SE.bin .and .i64 (SE.ivar .i64 91) (SE.ivar .i64 111)) (SE.int .i64 0), true), (SE.cmp .lss (SE.int .i64 16) (SE.ivar .i64 111), false), (SE.cmp .lss (SE.ivar .i64 111) (SE.int .i64 1), false), (SE.cmp .lss (SE.int .i64 32) (SE.ivar .i64 111), false), (SE.cmp .lss (SE.ivar .i64 112) (SE.int .i64 0), false), (SE.cmp .lss (SE.int .i64 32) (SE.ivar .i64 112), false)], Sm.next [(112, UTy.sc (.int .i64), SE.bin .add .i64 (SE.ivar .i64 111) (SE.ivar .i64 112)), (111, UTy.sc (.int .i64), SE.bin .mul .i64 (SE.ivar .i64 111) (SE.int .i64 2))]), ([(SE.cmp .eql (SE.bin .and .i64 (SE.ivar .i64 93) (SE.ivar .i64 111)) (SE.int .i64 0), true), (SE.cmp .eql (SE.bin .and .i64 (SE.ivar .i64 92) (SE.ivar .i64 111)) (SE.int .i64 0), true), (SE.cmp .eql (SE.bin .and .i64 (SE.ivar .i64 91) (SE.ivar .i64 111)) (SE.int .i64 0), true), (SE.cmp .lss (SE.int .i64 16) (SE.ivar .i64 111), false), (SE.cmp .lss (SE.ivar .i64 111) (SE.int .i64 1), false), (SE.cmp .lss (SE.int .i64 32) (SE.ivar .i64 111), false), (SE.cmp .lss (SE.ivar .i64 112) (SE.int .i64 0), false), (SE.cmp .lss (SE.int .i64 32) (SE.ivar .i64 112), false)], Sm.next [(112, UTy.sc (.int .i64), SE.ivar .i64 112), (111, UTy.sc (.int .i64), SE.bin .mul .i64 (SE.ivar .i64 111) (SE.int .i64 2))]), ([(SE.cmp .lss (SE.int .i64 16) (SE.ivar .i64 111), true), (SE.cmp .lss (SE.ivar .i64 111) (SE.int .i64 1), false), (SE.cmp .lss (SE.int .i64 32) (SE.ivar .i64 111), false), (SE.cmp .lss (SE.ivar .i64 112) (SE.int .i64 0), false), (SE.cmp .lss (SE.int .i64 32) (SE.ivar .i64 112), false)], Sm.out 0 [(113, UTy.sc (.int .i64), SE.ivar .i64 112)])]
theorem run_E1 (r : Nat → Value) : rnE1 r = some ME1 := by kernel_rfl
theorem st_E1 : startOf LE1.D = some [(112, .sc (.int .i64), .int .i64 0), (111, .sc (.int .i64), .int .i64 1)] := by kernel_rfl
theorem LE1_ok {ρ : Nat → Value} {A B C : Int} (h91 : (nE 91).num ρ = A) (h92 : (nE 92).num ρ = B) (h93 : (nE 93).num ρ = C) (h110 : ρ 110 = .int .i64 0) (h111 : ρ 111 = .int .i64 1) (h112 : ρ 112 = .int .i64 0) (h113 : (nE 113).num ρ = effTo A B C 5) : LoopPOk Try.prog (tbS.atS ρ noSp noLp) LE1 := by
  generalize hg : (fun (x n : Nat) => if Nat.beq n 111 then Value.int .i64 (2 ^ x) else .int .i64 (effTo A B C x)) = g
  have hp : ∀ x, x ≤ 5 → (1 : Int) ≤ 2 ^ x ∧ (2 : Int) ^ x ≤ 32 := fun x hx => by
    match x, hx with
    | 0, _ => decide
    | 1, _ => decide
    | 2, _ => decide
    | 3, _ => decide
    | 4, _ => decide
    | 5, _ => decide
    | n + 6, h => omega
  have hr := effTo_rng A B C
  have e111 : ∀ x, x ≤ 5 → (nE 111).num (fam ρ 110 [111, 112] g x) = 2 ^ x := fun x hx => iv_at (x := 2 ^ x) (show fam ρ 110 [111, 112] g x 111 = _ by rw [← hg]; rfl) (by have := hp x hx; omega) (by have := hp x hx; omega)
  have e112 : ∀ x, x ≤ 5 → (nE 112).num (fam ρ 110 [111, 112] g x) = effTo A B C x := fun x hx => iv_at (x := effTo A B C x) (show fam ρ 110 [111, 112] g x 112 = _ by rw [← hg]; rfl) (by have := hr x; omega) (by have := hr x; have := hp x hx; omega)
  have e91 : ∀ x, (nE 91).num (fam ρ 110 [111, 112] g x) = A := fun x => h91
  have e92 : ∀ x, (nE 92).num (fam ρ 110 [111, 112] g x) = B := fun x => h92
  have e93 : ∀ x, (nE 93).num (fam ρ 110 [111, 112] g x) = C := fun x => h93
  have e113 : ∀ x, (nE 113).num (fam ρ 110 [111, 112] g x) = effTo A B C 5 := fun x => h113
  refine fam_loop (Tb.only_ok tb_ok _) (Tb.only_wf tb_wf _) (m := 110) (ms := [111, 112]) (g := g) (n := 5) (Q := fun x => True) h110 (fun k hk => by
      rcases List.mem_cons.1 hk with rfl | hk
      · rw [h111, ← hg]; rfl
      · rw [List.mem_singleton.1 hk, h112, ← hg]; rfl)
    (fun x _ _ => noneS_ok _) (by kernel_rfl) rfl rfl trivial st_E1 (UpdOk.int (by rw [iv_at h112 (by omega) (by omega)]; rfl) (UpdOk.int (by rw [iv_at h111 (by omega) (by omega)]; rfl) .nil)) (fun _ => rfl) (kn := kn0) (n0 := 100) (n1 := 100) (n2 := 100) (fun x => kn0_ok) (pc := pcE1)
    (fun x hx _ => addPC_ok (addPC_ok (addPC_ok (addPC_ok (PC.holds_nil _) (by rw [t_leq, if_pos rfl, n_int, e112 x hx]; have := hr x; have := hp x hx; omega)) (by rw [t_leq, if_pos rfl, n_int, e112 x hx]; have := hr x; omega))
      (by rw [t_leq, if_pos rfl, n_int, e111 x hx]; exact (hp x hx).2)) (by rw [t_leq, if_pos rfl, n_int, e111 x hx]; exact (hp x hx).1)) run_E1 ?_
  intro x hx1 _
  have hx5 : ¬ (16 : Int) < 2 ^ x → x < 5 := fun h => by
    rcases Nat.lt_or_ge x 5 with h1 | h1
    · exact h1
    · have : x = 5 := by omega
      subst this
      exact absurd (by decide) h
  have hx6 : (16 : Int) < 2 ^ x → x = 5 := fun h => by
    rcases Nat.lt_or_ge x 5 with h1 | h1
    · exfalso
      match x, h1 with
      | 0, _ => exact absurd h (by decide)
      | 1, _ => exact absurd h (by decide)
      | 2, _ => exact absurd h (by decide)
      | 3, _ => exact absurd h (by decide)
      | 4, _ => exact absurd h (by decide)
    · omega
  have hmul : x < 5 → (SE.bin .mul .i64 (nE 111) (i64 2)).num (fam ρ 110 [111, 112] g x) = (nE 111).num (fam ρ 110 [111, 112] g (x + 1)) := fun h => by
    rw [n_mul, n_int, e111 x hx1, e111 (x + 1) (by omega)]
    have := hp x hx1
    have e : (2 : Int) ^ (x + 1) = 2 ^ x * 2 := Int.pow_succ ..
    rw [e]
    exact i64_id (by omega) (by omega)
  have hadd : x < 5 → hasAny A B C (2 ^ x) → (SE.bin .add .i64 (nE 111) (nE 112)).num (fam ρ 110 [111, 112] g x) = (nE 112).num (fam ρ 110 [111, 112] g (x + 1)) := fun h hh => by
    rw [n_add, e111 x hx1, e112 x hx1, e112 (x + 1) (by omega)]
    have h1 := hp x hx1
    have h2 := hr x
    have e : effTo A B C (x + 1) = effTo A B C x + 2 ^ x := by rw [effTo_succ, if_pos hh]
    rw [e, i64_id (by omega) (by omega)]
    omega
  have hno : x < 5 → ¬ hasAny A B C (2 ^ x) → (nE 112).num (fam ρ 110 [111, 112] g x) = (nE 112).num (fam ρ 110 [111, 112] g (x + 1)) := fun h hh => by
    rw [e112 x hx1, e112 (x + 1) (by omega)]
    rw [effTo_succ, if_neg hh]
  unfold ME1
  rw [all_cons, all_cons, all_cons, all_cons, all_cons]
  refine ⟨fun hp => ?_, fun hp => ?_, fun hp => ?_, fun hp => ?_, fun hp => ?_, fun _ h => by simp at h⟩
  all_goals simp only [h_cons, h_nil, t_lss, t_eql, n_int, n_and2, e91, e92, e93, e111 x hx1, if_true, Bool.false_eq_true, if_false] at hp
  · have h5 := hx5 (Int.not_lt.2 hp.2.1)
    exact ⟨h5, trivial, UpdOk.int (hadd h5 (.inl hp.1)) (UpdOk.int (hmul h5) .nil)⟩
  · have h5 := hx5 (Int.not_lt.2 hp.2.2.1)
    exact ⟨h5, trivial, UpdOk.int (hadd h5 (.inr (.inl hp.1))) (UpdOk.int (hmul h5) .nil)⟩
  · have h5 := hx5 (Int.not_lt.2 hp.2.2.2.1)
    exact ⟨h5, trivial, UpdOk.int (hadd h5 (.inr (.inr hp.1))) (UpdOk.int (hmul h5) .nil)⟩
  · have h5 := hx5 (Int.not_lt.2 hp.2.2.2.1)
    exact ⟨h5, trivial, UpdOk.int (hno h5 (by rintro (h | h | h) <;> simp_all)) (UpdOk.int (hmul h5) .nil)⟩
  · have h5 := hx6 hp.1
    refine ⟨rfl, UpdOk.int ?_ .nil⟩
    rw [e112 x hx1, e113, h5]
def okEffR (r : Nat → Value) := agreeL (.leaf [uI 101 (nE 113)]) (rnEffR r)
theorem ok_EffR (r : Nat → Value) : okEffR r = true := by kernel_rfl
theorem ks_E1 : ([LE1].all fun e => keysAt tbS e.key fsS == [(e.f, e.i)]) = true := by kernel_rfl
theorem effR_at {ρ : Nat → Value} (h101 : effT.at ρ 0 = (nE 101).num ρ) (h110 : ρ 110 = .int .i64 0) (h111 : ρ 111 = .int .i64 1) (h112 : ρ 112 = .int .i64 0) (h113 : (nE 113).num ρ = (nE 101).num ρ) : EntryVOk Try.prog tb.glob ρ eEffR := by
  refine ⟨⟨_, Try.func18, by kernel_rfl, by kernel_rfl⟩, fun q hq => by simp [eEffR] at hq, ?_⟩
  have e : (nE 101).num ρ = effTo ((nE 91).num ρ) ((nE 92).num ρ) ((nE 93).num ρ) 5 := by
    rw [← h101, ← eff_all]
    show (SE.bin .and .i64 (.bin .or .i64 (.bin .or .i64 (.ivar .i64 91) (.ivar .i64 92)) (.ivar .i64 93)) (i64 31)).num ρ = _
    rw [n_and2, n_or2, n_or2, n_int]
  have hl := LE1_ok (ρ := ρ) rfl rfl rfl h110 h111 h112 (h113.trans e)
  have hsp : SpecOk Try.prog (tbS.atS ρ noSp lpE1) := specP_of (l := [LE1]) (fs := fsS) (fun f fn h => (Tb.only_func h).1) (noneS_ok ρ) ks_E1 (fun e he => by
    rw [List.mem_singleton.1 he]
    exact hl)
  exact fncV_tree (tb := tbS) (Tb.only_ok tb_ok _) (Tb.only_wf tb_wf _) hsp (kn := kn0) (n0 := 100) (n1 := 100) kn0_ok (pc := []) (PC.holds_nil _) (by kernel_rfl) (ok_EffR ρ) (DT.upd1 (by kernel_rfl) h113)
end
end Go.Proofs.Ytaidiaiedhbaoaa

/- A step's calls on the reference's keymap: contracts. -/
set_option linter.unusedVariables false
set_option linter.unusedSimpArgs false
namespace Go.Proofs.Ytaidiaiedhbaoaa
open Go.Sx Go.ChangeShapes Go.WideShapes Go.ChangeAt Go.RowKit
noncomputable section
def pressRT (F lay n : SE) : DT :=
  .node (.cmp .lss F (i64 16777217)) (prL (nE 91) (i64 0) (nE 93) (nE 94)) (.node (isE F 16777218) (prL (nE 91) (nE 92) (.bin .xor .i64 (nE 93) (i64 2)) (nE 94))
    (.node (isE F 16777222) (prL (nE 91) (orE (nE 92) 1) (nE 93) (nE 94)) (.node (isE F 16777223) (prL (nE 91) (nE 92) (nE 93) (.bin .rem .i64 (.bin .add .i64 lay (i64 1)) n))
      (.node (isE F 16777217) (prB 1) (.node (isE F 16777220) (prB 4) (.node (isE F 16777221) (prB 8) (.node (isE F 16777219) (prB 16) (prB 0))))))))
def relRT (F : SE) : DT :=
  .node (.cmp .lss F (i64 16777217)) (reB 0) (.node (isE F 16777217) (reB 1) (.node (isE F 16777220) (reB 4) (.node (isE F 16777221) (reB 8) (.node (isE F 16777219) (reB 16) (reB 0)))))
def okPrR (r : Nat → Value) := agreeL (pressRT (firstS lvR) (nE 100) (nE 65)) (rnPrR r)
def okPrRN (r : Nat → Value) := agreeL (.leaf [uI 103 (nE 91), uI 104 (nE 92), uI 105 (nE 93), uI 106 (nE 94), uI 102 (i64 0)]) (rnPrRN r)
def okReR (r : Nat → Value) := agreeL (relRT (firstS lvR)) (rnReR r)
def okReRN (r : Nat → Value) := agreeL (reB 0) (rnReRN r)
theorem ok_LayR (r : Nat → Value) : okLayR r = true := by kernel_rfl
theorem ok_SymR (r : Nat → Value) : okSymR r = true := by kernel_rfl
theorem ok_SymRN (r : Nat → Value) : okSymRN r = true := by kernel_rfl
theorem ok_PrR (r : Nat → Value) : okPrR r = true := by kernel_rfl
theorem ok_PrRN (r : Nat → Value) : okPrRN r = true := by kernel_rfl
theorem ok_ReR (r : Nat → Value) : okReR r = true := by kernel_rfl
theorem ok_ReRN (r : Nat → Value) : okReRN r = true := by kernel_rfl
/-- The reference's list. -/
structure RefOk (ρ : Nat → Value) (L : List Value) : Prop where
  small : smallKs L
  data : ρ 74 = listD (L.map cpR)
  lays : ρ 65 = .int .i64 (laysD L)
  ix : ρ 95 = .int .i64 (idxD (codE.num ρ) L)
section
variable {ρ : Nat → Value} {L : List Value} (h : RefOk ρ L)
include h
theorem RefOk.num : (SE.ivar .i64 95).num ρ = idxD (codE.num ρ) L := by
  have hr := idxD_range (codE.num ρ) L
  have := h.small.1
  exact iv_at h.ix (by omega) (by omega)
theorem findR_at : EntryVOk Try.prog tb.glob ρ eFindR := by
  have hk : (elsD (ρ 74)) = L.map cpR := by rw [h.data, els_list]
  have hn := h.small.1
  have hid : idxD (codE.num ρ) (elsD (ρ 74)) = idxD (codE.num ρ) L := by rw [hk, idx_map code_cpR]
  have hr := idxD_range (codE.num ρ) L
  refine ⟨⟨_, Try.func29, by kernel_rfl, by kernel_rfl⟩, fun q hq => by simp [eFindR] at hq, FncR.v (hp := []) ?_ (by kernel_rfl)⟩
  have e6 : eFindR.res.atR ρ = .int .i64 (idxD (codE.num ρ) L) := by
    show Value.int .i64 ((SE.ivar .i64 95).num ρ) = _
    rw [h.num]
  rw [e6]
  have hcr : -9223372036854775808 ≤ codE.num ρ ∧ codE.num ρ ≤ 9223372036854775807 := ⟨(wrap_range .i64 _).1 _ rfl, (wrap_range .i64 _).2 _ rfl⟩
  have key := find_fnc (ρ := envL [(0, .int .i64 (codE.num ρ)), (1, ρ 73), (2, ρ 74), (40, .int .i64 0), (41, .int .i64 (idxD (codE.num ρ) (elsD (ρ 74))))]) (c := codE.num ρ) (wrap_id .i64 _ hcr.1 hcr.2) rfl rfl (by show (elsD (ρ 74)).length ≤ 1000; rw [hk, List.length_map]; exact hn)
  have e2 : idxD (codE.num ρ) (elsD (envL [(0, Value.int .i64 (codE.num ρ)), (1, ρ 73), (2, ρ 74), (40, .int .i64 0), (41, .int .i64 (idxD (codE.num ρ) (elsD (ρ 74))))] 2)) = idxD (codE.num ρ) L := hid
  rw [e2] at key
  exact key.at (us := [(1, .sc .bool, .bvar 73), (2, .dat, .dvar 74), (0, .sc (.int .i64), codE)]) (by kernel_rfl) (UpdOk.bool rfl (UpdOk.dat rfl (UpdOk.int (wrap_id .i64 _ hcr.1 hcr.2).symm .nil)))
theorem laysR_at : EntryVOk Try.prog tb.glob ρ eLaysR := by
  refine ⟨⟨_, Try.func14, by kernel_rfl, by kernel_rfl⟩, fun q hq => by simp [eLaysR] at hq, FncR.v (hp := []) ?_ (by kernel_rfl)⟩
  have hn := h.small
  have hl1 := hn.lays L.length
  rw [List.take_length] at hl1
  have e6 : eLaysR.res.atR ρ = .int .i64 (laysD L) := by
    show Value.int .i64 ((SE.ivar .i64 65).num ρ) = _
    rw [n_iv h.lays (by omega)]
  rw [e6]
  have hk : (elsD (ρ 74)) = L.map cpR := by rw [h.data, els_list]
  have hm : laysD (L.map cpR) = laysD L := lays_map (fun r => by rw [lev_cpR]) L
  have key := lays_fnc (ρ := envL [(1, ρ 73), (2, ρ 74), (10, .int .i64 0), (12, .int .i64 1), (13, .int .i64 (laysD L))]) rfl rfl (by show Value.int _ _ = Value.int _ (laysD (elsD (ρ 74))); rw [hk, hm])
    (by
      show smallKs (elsD (ρ 74))
      rw [hk]
      refine ⟨by rw [List.length_map]; exact hn.1, fun r hr => ?_⟩
      obtain ⟨q, hq, rfl⟩ := List.mem_map.1 hr
      rw [lev_cpR]
      exact hn.2 q hq)
  have e3 : laysD (elsD (envL [(1, ρ 73), (2, ρ 74), (10, Value.int .i64 0), (12, .int .i64 1), (13, .int .i64 (laysD L))] 2)) = laysD L := by
    show laysD (elsD (ρ 74)) = _
    rw [hk, hm]
  rw [e3] at key
  exact key.at (us := [(1, .sc .bool, .bvar 73), (2, .dat, .dvar 74)]) (by kernel_rfl) (UpdOk.bool rfl (UpdOk.dat rfl .nil))
theorem layR_at (h65 : 0 < (nE 65).num ρ) (h100 : (layT (nE 94) (nE 65)).at ρ 0 = (nE 100).num ρ) : EntryVOk Try.prog tb.glob ρ eLayR := by
  refine ⟨⟨_, Try.func30, by kernel_rfl, by kernel_rfl⟩, fun q hq => by simp [eLayR] at hq, ?_⟩
  exact fncV_tree (tb := tbS) (Tb.only_ok tb_ok _) (Tb.only_wf tb_wf _) (Go.Sx.spV_ok (tb := tbS) (l := [eLaysR]) (fun e he => by
    rw [List.mem_singleton.1 he]
    exact laysR_at h)) (kn := kn0) (n0 := 100) (n1 := 100) kn0_ok (pc := pcL) (addPC_ok (PC.holds_nil _) (by rw [t_lss, if_pos rfl, n_int]; exact h65)) (by kernel_rfl) (ok_LayR ρ) (DT.upd1 (by kernel_rfl) h100)
/-- What Effective's loop needs. -/
structure EffOk (ρ : Nat → Value) : Prop where
  eff : effT.at ρ 0 = (nE 101).num ρ
  z : ρ 110 = .int .i64 0
  b : ρ 111 = .int .i64 1
  n : ρ 112 = .int .i64 0
  r : (nE 113).num ρ = (nE 101).num ρ
/-- What a step gives, by the reference. -/
structure StepR (ρ : Nat → Value) : Prop where
  lay : (layT (nE 94) (nE 65)).at ρ 0 = (nE 100).num ρ
  eff : EffOk ρ
  pos : 0 < (nE 102).num ρ
  sym : (symT lvR (nE 100) (nE 101)).at ρ 0 = (nE 102).num ρ
  press : ∀ i k, [103, 104, 105, 106, 102][i]? = some k → (pressRT (firstS lvR) (nE 100) (nE 65)).at ρ i = (nE k).num ρ
  rel : (relRT (firstS lvR)).at ρ 0 = (nE 107).num ρ
theorem pcG_ok (hi : 0 ≤ idxD (codE.num ρ) L) (k : KeyOk ρ lvR) (s : 0 < (nE 102).num ρ) : pcG.holds ρ := by
  have hk : (elsD (ρ 74)) = L.map cpR := by rw [h.data, els_list]
  have hr := idxD_range (codE.num ρ) L
  refine addPC_ok (addPC_ok (addPC_ok (addPC_ok (addPC_ok (addPC_ok (addPC_ok (addPC_ok (PC.holds_nil _) ?_) ?_) ?_) ?_) ?_) ?_) ?_) ?_
  · rw [t_lss, if_pos rfl, n_int]; exact k.lays
  · rw [t_lss, if_pos rfl, n_int]; exact k.len
  · rw [t_lss, if_pos rfl, n_int]; exact k.row
  · rw [t_leq, if_pos rfl, n_int]; exact k.lay
  · rw [t_leq, if_pos rfl, n_int]; exact k.first
  · rw [t_lss, if_pos rfl, n_int]; exact s
  · rw [t_lss, if_pos rfl, h.num, n_dlen]
    show _ < ((elsD (ρ 74)).length : Int)
    rw [hk, List.length_map]
    exact hr.2
  · rw [t_leq, if_pos rfl, n_int, h.num]; exact hi
theorem pcN_ok (hi : idxD (codE.num ρ) L < 0) : pcN.holds ρ := addPC_ok (PC.holds_nil _) (by rw [t_lss, if_pos rfl, n_int, h.num]; exact hi)
theorem symR_T (hi : 0 ≤ idxD (codE.num ρ) L) (k : KeyOk ρ lvR) (s : StepR ρ) : EntryVOk Try.prog tb.glob ρ eSymR := by
  refine ⟨⟨_, Try.func16, by kernel_rfl, by kernel_rfl⟩, fun q hq => by simp [eSymR] at hq, ?_⟩
  exact fncV_tree (tb := tbS) (Tb.only_ok tb_ok _) (Tb.only_wf tb_wf _) (Go.Sx.spV_ok (tb := tbS) (l := [eFindR, eLayR, eEffR]) (fun e he => by
    rcases List.mem_cons.1 he with rfl | he
    · exact findR_at h
    · rcases List.mem_cons.1 he with rfl | he
      · exact layR_at h k.lays s.lay
      · rw [List.mem_singleton.1 he]
        exact effR_at s.eff.eff s.eff.z s.eff.b s.eff.n s.eff.r)) (kn := kn0) (n0 := 100) (n1 := 100) kn0_ok (pc := pcG) (pcG_ok h hi k s.pos) (by kernel_rfl) (ok_SymR ρ) (DT.upd1 (by kernel_rfl) s.sym)
/-- What the reference needs, whether there is a key or not. -/
structure BaseR (ρ : Nat → Value) : Prop where
  lays : 0 < (nE 65).num ρ
  lay : (layT (nE 94) (nE 65)).at ρ 0 = (nE 100).num ρ
  eff : EffOk ρ
theorem symR_N (hi : idxD (codE.num ρ) L < 0) (b : BaseR ρ) (s : (nE 102).num ρ = 0) : EntryVOk Try.prog tb.glob ρ eSymR := by
  refine ⟨⟨_, Try.func16, by kernel_rfl, by kernel_rfl⟩, fun q hq => by simp [eSymR] at hq, ?_⟩
  exact fncV_tree (tb := tbS) (Tb.only_ok tb_ok _) (Tb.only_wf tb_wf _) (Go.Sx.spV_ok (tb := tbS) (l := [eFindR, eLayR, eEffR]) (fun e he => by
    rcases List.mem_cons.1 he with rfl | he
    · exact findR_at h
    · rcases List.mem_cons.1 he with rfl | he
      · exact layR_at h b.lays b.lay
      · rw [List.mem_singleton.1 he]
        exact effR_at b.eff.eff b.eff.z b.eff.b b.eff.n b.eff.r)) (kn := kn0) (n0 := 100) (n1 := 100) kn0_ok (pc := pcN) (pcN_ok h hi) (by kernel_rfl) (ok_SymRN ρ) (DT.upd1 (by kernel_rfl) s.symm)
theorem spR3_ok (b : BaseR ρ) (hs : EntryVOk Try.prog tb.glob ρ eSymR) : SpecOk Try.prog (tbS.atS ρ spR3 noLp) :=
  Go.Sx.spV_ok (tb := tbS) (l := [eFindR, eLayR, eLaysR, eSymR]) (fun e he => by
    rcases List.mem_cons.1 he with rfl | he
    · exact findR_at h
    · rcases List.mem_cons.1 he with rfl | he
      · exact layR_at h b.lays b.lay
      · rcases List.mem_cons.1 he with rfl | he
        · exact laysR_at h
        · rw [List.mem_singleton.1 he]
          exact hs)
theorem pressR_T (hi : 0 ≤ idxD (codE.num ρ) L) (k : KeyOk ρ lvR) (s : StepR ρ) : EntryVOk Try.prog tb.glob ρ ePressR := by
  refine ⟨⟨_, Try.func22, by kernel_rfl, by kernel_rfl⟩, fun q hq => by simp [ePressR] at hq, ?_⟩
  exact fncV_tree (tb := tbS) (Tb.only_ok tb_ok _) (Tb.only_wf tb_wf _) (spR3_ok h ⟨k.lays, s.lay, s.eff⟩ (symR_T h hi k s)) (kn := kn0) (n0 := 100) (n1 := 100) kn0_ok (pc := pcG) (pcG_ok h hi k s.pos) (by kernel_rfl) (ok_PrR ρ) (DT.upd (ks := [103, 104, 105, 106, 102]) (by kernel_rfl) s.press)
theorem pressR_N (hi : idxD (codE.num ρ) L < 0) (b : BaseR ρ) (s : StepN ρ) : EntryVOk Try.prog tb.glob ρ ePressR := by
  refine ⟨⟨_, Try.func22, by kernel_rfl, by kernel_rfl⟩, fun q hq => by simp [ePressR] at hq, ?_⟩
  exact fncV_tree (tb := tbS) (Tb.only_ok tb_ok _) (Tb.only_wf tb_wf _) (spR3_ok h b (symR_N h hi b s.sym)) (kn := kn0) (n0 := 100) (n1 := 100) kn0_ok (pc := pcM) (addPC_ok (pcN_ok h hi) (by rw [t_eql, if_pos rfl, n_int]; exact s.sym)) (by kernel_rfl) (ok_PrRN ρ)
    (UpdOk.int (s.press 0 (by omega)) (UpdOk.int (s.press 1 (by omega)) (UpdOk.int (s.press 2 (by omega)) (UpdOk.int (s.press 3 (by omega)) (UpdOk.int s.sym.symm .nil)))))
theorem relR_T (hi : 0 ≤ idxD (codE.num ρ) L) (k : KeyOk ρ lvR) (s : StepR ρ) : EntryVOk Try.prog tb.glob ρ eRelR := by
  refine ⟨⟨_, Try.func20, by kernel_rfl, by kernel_rfl⟩, fun q hq => by simp [eRelR] at hq, ?_⟩
  exact fncV_tree (tb := tbS) (Tb.only_ok tb_ok _) (Tb.only_wf tb_wf _) (spR3_ok h ⟨k.lays, s.lay, s.eff⟩ (symR_T h hi k s)) (kn := kn0) (n0 := 100) (n1 := 100) kn0_ok (pc := pcG) (pcG_ok h hi k s.pos) (by kernel_rfl) (ok_ReR ρ) (DT.upd1 (by kernel_rfl) s.rel)
theorem relR_N (hi : idxD (codE.num ρ) L < 0) (b : BaseR ρ) (s : StepN ρ) : EntryVOk Try.prog tb.glob ρ eRelR := by
  refine ⟨⟨_, Try.func20, by kernel_rfl, by kernel_rfl⟩, fun q hq => by simp [eRelR] at hq, ?_⟩
  have hr : -9223372036854775808 ≤ (nE 91).num ρ ∧ (nE 91).num ρ ≤ 9223372036854775807 := v_bounds ρ .i64 91
  exact fncV_tree (tb := tbS) (Tb.only_ok tb_ok _) (Tb.only_wf tb_wf _) (spR3_ok h b (symR_N h hi b s.sym)) (kn := kn0) (n0 := 100) (n1 := 100) kn0_ok (pc := pcN) (pcN_ok h hi) (by kernel_rfl) (ok_ReRN ρ) (UpdOk.int (by rw [n_andNot2, n_int, andNot_zero _ hr.1 hr.2]; exact s.rel) .nil)
end
end
end Go.Proofs.Ytaidiaiedhbaoaa
