/- Equality of expressions of 'and', 'or', 'xor', 'and not': bit by bit, at leaves that are all ones or none. -/
import Derived.Test.YtaidiaiedhbaoaaSx22
/- Equality of expressions of 'and', 'or', 'xor', 'and not': bit by bit, at leaves that are all ones or none. -/
set_option linter.unusedVariables false
set_option linter.unusedSimpArgs false
namespace Go.Sx
noncomputable section

def isBitOp : BinOp → Bool
  | .and | .or | .xor | .andNot => true
  | _ => false

def bitN (op : BinOp) (full a b : Nat) : Nat :=
  match op with
  | .and => Nat.land a b
  | .or => Nat.lor a b
  | .xor => Nat.xor a b
  | _ => Nat.land a (Nat.xor b full)

def bitB (op : BinOp) (a b : Bool) : Bool :=
  match op with
  | .and => a && b
  | .or => a || b
  | .xor => a != b
  | _ => a && !b

/-- The leaves of an expression of bits of a kind. -/
def leavesB (k : IntKind) : SE → List SE
  | .int _ _ => []
  | .bin op k' a b => if isBitOp op && k == k' then leavesB k a ++ leavesB k b else [.bin op k' a b]
  | e => [e]

def numOfLit (k : IntKind) (i : Int) : Nat := (i % (2 ^ k.bits : Int)).toNat

/-- With some leaves all ones, the others none. -/
def evalN (k : IntKind) (full : Nat) (on : SE → Bool) : SE → Nat
  | .int _ i => numOfLit k i
  | .bin op k' a b => if isBitOp op && k == k' then bitN op full (evalN k full on a) (evalN k full on b) else (if on (.bin op k' a b) then full else 0)
  | e => if on e then full else 0

/-- One bit, from the leaves' bits. -/
def evalBit (k : IntKind) (j : Nat) (on : SE → Bool) : SE → Bool
  | .int _ i => (numOfLit k i).testBit j
  | .bin op k' a b => if isBitOp op && k == k' then bitB op (evalBit k j on a) (evalBit k j on b) else on (.bin op k' a b)
  | e => on e

theorem bitN_bit (op : BinOp) (h : isBitOp op = true) (n a b j : Nat) (hj : j < n) : (bitN op (2 ^ n - 1) a b).testBit j = bitB op (a.testBit j) (b.testBit j) := by
  cases op <;> simp [isBitOp] at h
  · exact Nat.testBit_and a b j
  · exact Nat.testBit_or a b j
  · exact Nat.testBit_xor a b j
  · show (a &&& (b ^^^ (2 ^ n - 1))).testBit j = _
    rw [Nat.testBit_and, Nat.testBit_xor, Nat.testBit_two_pow_sub_one]
    simp [bitB, hj]

theorem evalN_bit (k : IntKind) (j : Nat) (hj : j < k.bits) (on : SE → Bool) : ∀ e, (evalN k (2 ^ k.bits - 1) on e).testBit j = evalBit k j on e := by
  have leaf : ∀ b : Bool, (if b then 2 ^ k.bits - 1 else 0).testBit j = b := fun b => by
    cases b
    · simp
    · simp [Nat.testBit_two_pow_sub_one, hj]
  intro e
  induction e with
  | bin op k' a b iha ihb =>
    simp only [evalN, evalBit]
    split
    · rename_i h
      simp only [Bool.and_eq_true] at h
      rw [bitN_bit op h.1 _ _ _ j hj, iha, ihb]
    · exact leaf _
  | int _ i => rfl
  | _ => exact leaf _

theorem wrap_mod (k : IntKind) (n : Int) : (k.wrap n) % (2 ^ k.bits : Int) = n % (2 ^ k.bits : Int) := by
  cases k <;> simp only [IntKind.wrap, IntKind.bits, IntKind.signed] <;> simp <;> (try split) <;> omega

theorem ofInt_toNat (n : Nat) (x : Int) : (BitVec.ofInt n x).toNat = (x % (2 ^ n : Int)).toNat := by
  rw [BitVec.toNat_ofInt]
  norm_cast

theorem bits_bit (op : BinOp) (h : isBitOp op = true) (k : IntKind) (x y : Int) (j : Nat) (hj : j < k.bits) : (numOfLit k (bits op k x y)).testBit j = bitB op ((numOfLit k x).testBit j) ((numOfLit k y).testBit j) := by
  have key : ∀ b : BitVec k.bits, numOfLit k (k.wrap b.toNat) = b.toNat := fun b => by
    unfold numOfLit
    rw [wrap_mod]
    have := b.isLt
    rw [Int.emod_eq_of_lt (Int.natCast_nonneg _) (by exact_mod_cast this)]
    simp
  unfold bits
  rw [key]
  have bx : (BitVec.ofInt k.bits x).toNat = numOfLit k x := ofInt_toNat _ _
  have by_ : (BitVec.ofInt k.bits y).toNat = numOfLit k y := ofInt_toNat _ _
  cases op <;> simp [isBitOp] at h
  · show ((BitVec.ofInt k.bits x &&& BitVec.ofInt k.bits y).toNat).testBit j = _
    rw [BitVec.toNat_and, Nat.testBit_and, bx, by_]; rfl
  · show ((BitVec.ofInt k.bits x ||| BitVec.ofInt k.bits y).toNat).testBit j = _
    rw [BitVec.toNat_or, Nat.testBit_or, bx, by_]; rfl
  · show ((BitVec.ofInt k.bits x ^^^ BitVec.ofInt k.bits y).toNat).testBit j = _
    rw [BitVec.toNat_xor, Nat.testBit_xor, bx, by_]; rfl
  · show ((BitVec.ofInt k.bits x &&& ~~~BitVec.ofInt k.bits y).toNat).testBit j = _
    rw [BitVec.toNat_and, Nat.testBit_and, bx, BitVec.toNat_not, by_]
    have hlt : numOfLit k y < 2 ^ k.bits := by rw [← by_]; exact (BitVec.ofInt k.bits y).isLt
    rw [show 2 ^ k.bits - 1 - numOfLit k y = 2 ^ k.bits - (numOfLit k y + 1) by omega, Nat.testBit_two_pow_sub_succ hlt]
    simp [bitB, hj]

/-- The value's bit, from the leaves' bits. -/
theorem num_bit (ρ : Nat → Value) (k : IntKind) (j : Nat) (hj : j < k.bits) : ∀ e, (numOfLit k (e.num ρ)).testBit j = evalBit k j (fun l => (numOfLit k (l.num ρ)).testBit j) e := by
  intro e
  induction e with
  | bin op k' a b iha ihb =>
    simp only [evalBit]
    split
    · rename_i h
      simp only [Bool.and_eq_true, beq_iff_eq] at h
      obtain ⟨hop, rfl⟩ := h
      have e : (SE.bin op k a b).num ρ = bits op k (a.num ρ) (b.num ρ) := by
        cases op <;> simp [isBitOp] at hop <;> simp [SE.num, SE.all, intBin, numOf]
      rw [e, bits_bit op hop k _ _ j hj, iha, ihb]
    · rfl
  | int _ i => rfl
  | _ => rfl

theorem evalBit_congr (k : IntKind) (j : Nat) {f g : SE → Bool} : ∀ e, (∀ l, l ∈ leavesB k e → f l = g l) → evalBit k j f e = evalBit k j g e := by
  intro e
  induction e with
  | bin op k' a b iha ihb =>
    intro h
    simp only [evalBit, leavesB] at h ⊢
    split at h
    · rename_i hc
      rw [if_pos hc, if_pos hc, iha (fun l hl => h l (List.mem_append_left _ hl)), ihb (fun l hl => h l (List.mem_append_right _ hl))]
    · rename_i hc
      rw [if_neg hc, if_neg hc]
      exact h _ (List.mem_singleton_self _)
  | int _ i => intro _; rfl
  | _ => intro h; exact h _ (List.mem_singleton_self _)

def subs : List SE → List (List SE)
  | [] => [[]]
  | a :: l => subs l ++ (subs l).map (a :: ·)
theorem filter_subs (p : SE → Bool) : ∀ l, l.filter p ∈ subs l
  | [] => List.mem_singleton_self _
  | a :: l => by
    rw [List.filter_cons]
    split
    · exact List.mem_append_right _ (List.mem_map.2 ⟨_, filter_subs p l, rfl⟩)
    · exact List.mem_append_left _ (filter_subs p l)
end
end Go.Sx
