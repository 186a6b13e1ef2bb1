/- Expressions as plain arithmetic: for what the forking interpreter leaves to be shown. -/
import Derived.Test.YtaidiaiedhbaoaaSx25
/- Expressions as plain arithmetic: for what the forking interpreter leaves to be shown. -/
set_option linter.unusedVariables false
set_option linter.unusedSimpArgs false
namespace Go.Sx
noncomputable section
section
variable (ρ : Nat → Value)

theorem h_cons (e : SE) (b : Bool) (pc : PC) : PC.holds ρ ((e, b) :: pc) ↔ e.truth ρ = b ∧ PC.holds ρ pc :=
  ⟨fun h => ⟨h _ List.mem_cons_self, fun q hq => h q (List.mem_cons_of_mem _ hq)⟩, fun h => PC.holds_cons h.1 h.2⟩
theorem h_nil : PC.holds ρ [] ↔ True := ⟨fun _ => trivial, fun _ => PC.holds_nil ρ⟩
theorem all_cons {α : Type} (p : α → Prop) (a : α) (l : List α) : (∀ q, q ∈ a :: l → p q) ↔ p a ∧ ∀ q, q ∈ l → p q :=
  ⟨fun h => ⟨h _ List.mem_cons_self, fun q hq => h q (List.mem_cons_of_mem _ hq)⟩, fun h q hq => (List.mem_cons.1 hq).elim (fun e => e ▸ h.1) (h.2 q)⟩
theorem all_nil {α : Type} (p : α → Prop) : (∀ q, q ∈ ([] : List α) → p q) ↔ True := ⟨fun _ => trivial, fun _ q h => by simp at h⟩

theorem t_eql (a b : SE) (t : Bool) : ((SE.cmp .eql a b).truth ρ = t) = (if t then a.num ρ = b.num ρ else a.num ρ ≠ b.num ρ) := by
  rw [(truth_cmp ρ a b).1]; cases t <;> simp
theorem t_lss (a b : SE) (t : Bool) : ((SE.cmp .lss a b).truth ρ = t) = (if t then a.num ρ < b.num ρ else b.num ρ ≤ a.num ρ) := by
  rw [(truth_cmp ρ a b).2.2.1]; cases t <;> simp
theorem t_neq (a b : SE) (t : Bool) : ((SE.cmp .neq a b).truth ρ = t) = (if t then a.num ρ ≠ b.num ρ else a.num ρ = b.num ρ) := by
  rw [(truth_cmp ρ a b).2.1]; cases t <;> simp
theorem t_leq (a b : SE) (t : Bool) : ((SE.cmp .leq a b).truth ρ = t) = (if t then a.num ρ ≤ b.num ρ else b.num ρ < a.num ρ) := by
  rw [(truth_cmp ρ a b).2.2.2.1]; cases t <;> simp
theorem t_gtr (a b : SE) (t : Bool) : ((SE.cmp .gtr a b).truth ρ = t) = (if t then b.num ρ < a.num ρ else a.num ρ ≤ b.num ρ) := by
  rw [(truth_cmp ρ a b).2.2.2.2.1]; cases t <;> simp
theorem t_geq (a b : SE) (t : Bool) : ((SE.cmp .geq a b).truth ρ = t) = (if t then b.num ρ ≤ a.num ρ else a.num ρ < b.num ρ) := by
  rw [(truth_cmp ρ a b).2.2.2.2.2]; cases t <;> simp
theorem t_bool (b t : Bool) : ((SE.bool b).truth ρ = t) = (b = t) := rfl
theorem t_not (a : SE) (t : Bool) : ((SE.not a).truth ρ = t) = (a.truth ρ = !t) := by
  have : (SE.not a).truth ρ = !a.truth ρ := rfl
  rw [this]; cases a.truth ρ <;> cases t <;> simp
theorem t_and (a b : SE) (t : Bool) : ((SE.and a b).truth ρ = t) = (if t then a.truth ρ = true ∧ b.truth ρ = true else a.truth ρ = false ∨ b.truth ρ = false) := by
  have : (SE.and a b).truth ρ = (a.truth ρ && b.truth ρ) := rfl
  rw [this]; cases a.truth ρ <;> cases b.truth ρ <;> cases t <;> simp
theorem t_eqb (a b : SE) (t : Bool) : ((SE.eqb a b).truth ρ = t) = (if t then (a.truth ρ = true ↔ b.truth ρ = true) else (a.truth ρ = true ↔ b.truth ρ = false)) := by
  have : (SE.eqb a b).truth ρ = (a.truth ρ == b.truth ρ) := rfl
  rw [this]; cases a.truth ρ <;> cases b.truth ρ <;> cases t <;> simp

theorem w_u64 (x : Int) : IntKind.wrap .u64 x = x % 18446744073709551616 := by simp [IntKind.wrap, IntKind.bits, IntKind.signed]
theorem w_u32 (x : Int) : IntKind.wrap .u32 x = x % 4294967296 := by simp [IntKind.wrap, IntKind.bits, IntKind.signed]
theorem w_u16 (x : Int) : IntKind.wrap .u16 x = x % 65536 := by simp [IntKind.wrap, IntKind.bits, IntKind.signed]
theorem w_u8 (x : Int) : IntKind.wrap .u8 x = x % 256 := by simp [IntKind.wrap, IntKind.bits, IntKind.signed]
theorem w_i64 (x : Int) : IntKind.wrap .i64 x = (x + 9223372036854775808) % 18446744073709551616 - 9223372036854775808 := by
  simp only [IntKind.wrap, IntKind.bits, IntKind.signed]; simp; split <;> omega
theorem w_i32 (x : Int) : IntKind.wrap .i32 x = (x + 2147483648) % 4294967296 - 2147483648 := by
  simp only [IntKind.wrap, IntKind.bits, IntKind.signed]; simp; split <;> omega
theorem w_i16 (x : Int) : IntKind.wrap .i16 x = (x + 32768) % 65536 - 32768 := by
  simp only [IntKind.wrap, IntKind.bits, IntKind.signed]; simp; split <;> omega
theorem w_i8 (x : Int) : IntKind.wrap .i8 x = (x + 128) % 256 - 128 := by
  simp only [IntKind.wrap, IntKind.bits, IntKind.signed]; simp; split <;> omega

theorem n_int (k : IntKind) (i : Int) : (SE.int k i).num ρ = i := rfl
theorem n_add (k : IntKind) (a b : SE) : (SE.bin .add k a b).num ρ = k.wrap (a.num ρ + b.num ρ) := lin_num rfl
theorem n_sub (k : IntKind) (a b : SE) : (SE.bin .sub k a b).num ρ = k.wrap (a.num ρ - b.num ρ) := lin_num rfl
theorem n_mul (k : IntKind) (a b : SE) : (SE.bin .mul k a b).num ρ = k.wrap (a.num ρ * b.num ρ) := lin_num rfl
theorem n_conv (k : IntKind) (a : SE) : (SE.conv k a).num ρ = k.wrap (a.num ρ) := rfl
theorem n_max (a b : SE) : (SE.max true a b).num ρ = if b.num ρ > a.num ρ then b.num ρ else a.num ρ := by simp [SE.num, SE.all]
theorem n_min (a b : SE) : (SE.max false a b).num ρ = if b.num ρ < a.num ρ then b.num ρ else a.num ρ := rfl
theorem n_quo (k : IntKind) (a b : SE) : (SE.bin .quo k a b).num ρ = if b.num ρ = 0 then 0 else k.wrap ((a.num ρ).tdiv (b.num ρ)) := by
  by_cases h : b.num ρ = 0
  · rw [if_pos h]
    show (match intBin .quo k (a.num ρ) k (b.num ρ) with | some v => numOf v | none => 0) = 0
    rw [h]; simp [intBin]
  · rw [if_neg h]; exact num_bin (by simp [intBin, h])
theorem n_rem (k : IntKind) (a b : SE) : (SE.bin .rem k a b).num ρ = if b.num ρ = 0 then 0 else (a.num ρ).tmod (b.num ρ) := by
  by_cases h : b.num ρ = 0
  · rw [if_pos h]
    show (match intBin .rem k (a.num ρ) k (b.num ρ) with | some v => numOf v | none => 0) = 0
    rw [h]; simp [intBin]
  · rw [if_neg h]; exact num_bin (by simp [intBin, h])
theorem n_shr (k k' : IntKind) (a : SE) (c : Int) : (SE.bin .shr k a (.int k' c)).num ρ = if c < 0 then 0 else a.num ρ / 2 ^ (min c.toNat k.bits) := by
  by_cases h : c < 0
  · rw [if_pos h]
    show (match intBin .shr k (a.num ρ) k c with | some v => numOf v | none => 0) = 0
    simp [intBin, h]
  · rw [if_neg h]
    refine num_bin ?_
    have e : (SE.int k' c).num ρ = c := rfl
    have hp : (0 : Int) ≤ 2 ^ (min c.toNat k.bits) := Int.le_of_lt (Int.pow_pos (by decide))
    rw [e]
    simp only [intBin, if_neg h]
    rw [Int.fdiv_eq_ediv_of_nonneg _ hp]
theorem n_shl (k k' : IntKind) (a : SE) (c : Int) : (SE.bin .shl k a (.int k' c)).num ρ = if c < 0 then 0 else k.wrap (a.num ρ * 2 ^ (min c.toNat k.bits)) := by
  by_cases h : c < 0
  · rw [if_pos h]
    show (match intBin .shl k (a.num ρ) k c with | some v => numOf v | none => 0) = 0
    simp [intBin, h]
  · rw [if_neg h]
    refine num_bin ?_
    have e : (SE.int k' c).num ρ = c := rfl
    rw [e]
    simp only [intBin, if_neg h]
theorem n_and (k k' : IntKind) (a : SE) (c : Int) : (SE.bin .and k a (.int k' c)).num ρ = bits .and k (a.num ρ) c := by
  simp only [SE.num, SE.all, intBin, if_true, numOf]

/-- A mask takes the rest. -/
theorem and_mask (k : IntKind) (n : Nat) (x : Int) (hn : n < k.bits) : bits .and k x (2 ^ n - 1) = x % 2 ^ n := by
  have hp : (0 : Int) < 2 ^ n := Int.pow_pos (by decide)
  have hd : (2 ^ n : Int) ∣ 2 ^ k.bits := by
    obtain ⟨t, ht⟩ := Nat.exists_eq_add_of_le (Nat.le_of_lt hn)
    rw [ht, Int.pow_add]
    exact Int.dvd_mul_right _ _
  have hm : ((BitVec.ofInt k.bits x &&& BitVec.ofInt k.bits (2 ^ n - 1)).toNat : Int) = x % 2 ^ n := by
    have e2 : BitVec.ofInt k.bits ((2 : Int) ^ n - 1) = BitVec.ofNat k.bits (2 ^ n - 1) := by
      have : ((2 : Int) ^ n - 1) = ((2 ^ n - 1 : Nat) : Int) := by
        have := Nat.two_pow_pos n
        rw [Int.ofNat_sub this]
        push_cast
        rfl
      rw [this, BitVec.ofInt_natCast]
    have hlt : 2 ^ n - 1 < 2 ^ k.bits := Nat.lt_of_le_of_lt (Nat.sub_le _ _) (Nat.pow_lt_pow_right (by decide) hn)
    rw [BitVec.toNat_and, e2, BitVec.toNat_ofNat, Nat.mod_eq_of_lt hlt, Nat.and_two_pow_sub_one_eq_mod, BitVec.toNat_ofInt]
    have hk : (0 : Int) < 2 ^ k.bits := Int.pow_pos (by decide)
    have h0 : 0 ≤ x % (2 ^ k.bits : Int) := Int.emod_nonneg _ (Int.ne_of_gt hk)
    rw [Int.natCast_emod]
    push_cast
    rw [Int.toNat_of_nonneg h0, Int.emod_emod_of_dvd _ hd]
  unfold bits
  simp only
  rw [hm]
  have l1 := Int.emod_nonneg x (show (2 ^ n : Int) ≠ 0 by omega)
  have l2 := Int.emod_lt_of_pos x hp
  have l3 : (2 : Int) ^ n ≤ k.max + 1 := by
    have : n ≤ k.bits - 1 := by omega
    have h2 : (2 : Int) ^ n ≤ 2 ^ (k.bits - 1) := by
      have := Nat.pow_le_pow_right (n := 2) (by decide) this
      have := Int.ofNat_le.2 this
      push_cast at this
      exact this
    refine Int.le_trans h2 ?_
    cases k <;> decide
  exact wrap_id k _ (by have : k.min ≤ 0 := by cases k <;> decide
                        omega) (by omega)

theorem m_32 (x : Int) : bits .and .u64 x 4294967295 = x % 4294967296 := and_mask .u64 32 x (by decide)
theorem m_8 (x : Int) : bits .and .u64 x 255 = x % 256 := and_mask .u64 8 x (by decide)

theorem v_bounds (k : IntKind) (n : Nat) : k.min ≤ (SE.ivar k n).num ρ ∧ (SE.ivar k n).num ρ ≤ k.max := by
  have h := rng_ok (pc := []) (PC.holds_nil ρ) (.ivar k n)
  exact ⟨h.1 _ rfl, h.2 _ rfl⟩
end
end
end Go.Sx
