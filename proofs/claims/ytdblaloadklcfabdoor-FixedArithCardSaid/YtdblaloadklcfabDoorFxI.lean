/- math/bits.Div64: what its expressions come to. -/
import Derived.Test.YtdblaloadklcfabDoorFxH
set_option linter.unusedVariables false
set_option linter.unusedSimpArgs false
namespace Go.Proofs.YtdblaloadklcfabDoor
open Go.Sx Go.ChangeShapes Go.WideShapes Go.ChangeAt Go.RowKit
noncomputable section

theorem n_shlv {ρ : Nat → Value} {k : IntKind} {a b : SE} {s : Nat} (h : b.num ρ = s) (hs : s ≤ k.bits) : (SE.bin .shl k a b).num ρ = k.wrap (a.num ρ * 2 ^ s) := by
  refine num_bin ?_
  rw [h]
  simp only [intBin, if_neg (show ¬ ((s : Int) < 0) by omega), Int.toNat_natCast, Nat.min_eq_left hs]
theorem n_shrv {ρ : Nat → Value} {k : IntKind} {a b : SE} {s : Nat} (h : b.num ρ = s) (hs : s ≤ k.bits) : (SE.bin .shr k a b).num ρ = a.num ρ / 2 ^ s := by
  refine num_bin ?_
  rw [h]
  simp only [intBin, if_neg (show ¬ ((s : Int) < 0) by omega), Int.toNat_natCast, Nat.min_eq_left hs]
  rw [Int.fdiv_eq_ediv_of_nonneg _ (Int.le_of_lt (Int.pow_pos (by decide)))]
theorem n_or (ρ : Nat → Value) (k : IntKind) (a b : SE) : (SE.bin .or k a b).num ρ = bits .or k (a.num ρ) (b.num ρ) := by
  simp only [SE.num, SE.all, intBin, if_true, Go.Sx.numOf]

theorem bl_bounds : ∀ f x : Nat, x < 2 ^ f → x ≠ 0 → ∃ k, Lib.bitLenAux f x = k + 1 ∧ 2 ^ k ≤ x ∧ x < 2 ^ (k + 1)
  | 0, x, h, h0 => by simp at h; omega
  | f + 1, x, h, h0 => by
    rw [Lib.bitLenAux, if_neg h0]
    by_cases h2 : x / 2 = 0
    · refine ⟨0, ?_, by omega, by omega⟩
      rw [h2]
      cases f <;> simp [Lib.bitLenAux]
    · obtain ⟨k, h3, h4, h5⟩ := bl_bounds f (x / 2) (by rw [Nat.pow_succ] at h; omega) h2
      refine ⟨k + 1, by rw [h3]; omega, by rw [Nat.pow_succ]; omega, by rw [Nat.pow_succ]; omega⟩
/-- The leading zeros. -/
def lz (d : Int) : Nat := 64 - Lib.bitLen d.toNat
theorem lz_spec {d : Int} (h1 : 0 < d) (h2 : d < 18446744073709551616) : (lz d : Int) = 64 - (Lib.bitLen d.toNat : Int) ∧ lz d ≤ 63 ∧ 9223372036854775808 ≤ d * 2 ^ lz d ∧ d * 2 ^ lz d < 18446744073709551616 := by
  obtain ⟨k, e1, e2, e3⟩ := bl_bounds 64 d.toNat (by omega) (by omega)
  have e1 : Lib.bitLen d.toNat = k + 1 := e1
  have hk : k < 64 := by
    have : (2 : Nat) ^ k < 2 ^ 64 := by omega
    exact (Nat.pow_lt_pow_iff_right (by decide)).1 this
  have hl : lz d = 63 - k := by unfold lz; rw [e1]; omega
  rw [e1, hl]
  have hd : d = ((d.toNat : Nat) : Int) := by omega
  have p1 : 2 ^ k * 2 ^ (63 - k) = 9223372036854775808 := by rw [← Nat.pow_add, show k + (63 - k) = 63 by omega]
  have p2 : 2 ^ (k + 1) * 2 ^ (63 - k) = 18446744073709551616 := by rw [← Nat.pow_add, show k + 1 + (63 - k) = 64 by omega]
  have q1 : 2 ^ k * 2 ^ (63 - k) ≤ d.toNat * 2 ^ (63 - k) := Nat.mul_le_mul_right _ e2
  have q2 : d.toNat * 2 ^ (63 - k) < 2 ^ (k + 1) * 2 ^ (63 - k) := Nat.mul_lt_mul_of_pos_right e3 (Nat.two_pow_pos _)
  refine ⟨by omega, by omega, ?_, ?_⟩
  · have : ((d.toNat * 2 ^ (63 - k) : Nat) : Int) = d * 2 ^ (63 - k) := by push_cast; rw [← hd]
    rw [← this]
    omega
  · have : ((d.toNat * 2 ^ (63 - k) : Nat) : Int) = d * 2 ^ (63 - k) := by push_cast; rw [← hd]
    rw [← this]
    omega

theorem or_add {m b s : Nat} (hb : b < 2 ^ s) (hlt : m * 2 ^ s + b < 18446744073709551616) : bits .or .u64 ((m * 2 ^ s : Nat) : Int) (b : Int) = ((m * 2 ^ s + b : Nat) : Int) := by
  have hm : (BitVec.ofInt 64 ((m * 2 ^ s : Nat) : Int) ||| BitVec.ofInt 64 (b : Int)).toNat = m * 2 ^ s + b := by
    rw [BitVec.toNat_or, BitVec.ofInt_natCast, BitVec.ofInt_natCast, BitVec.toNat_ofNat, BitVec.toNat_ofNat, Nat.mod_eq_of_lt (by omega), Nat.mod_eq_of_lt (by omega), ← Nat.shiftLeft_eq, ← Nat.shiftLeft_add_eq_or_of_lt hb]
  show IntKind.wrap .u64 (((BitVec.ofInt 64 ((m * 2 ^ s : Nat) : Int) ||| BitVec.ofInt 64 (b : Int)).toNat : Nat) : Int) = _
  rw [hm]
  exact wid_u64 _ (by omega) (by omega)

/-- What is asked of the dividend's words and of the divisor. -/
structure InD (hi lo d : Int) : Prop where
  hi0 : 0 < hi
  hid : hi < d
  d64 : d < 18446744073709551616
  lo0 : 0 ≤ lo
  lo64 : lo < 18446744073709551616

def vY (d : Int) : Int := d * 2 ^ lz d
def vU (hi lo d : Int) : Int := hi * 2 ^ lz d + lo * 2 ^ lz d / 18446744073709551616
def vL (lo d : Int) : Int := lo * 2 ^ lz d % 18446744073709551616
open Go.Halves in
def vQ1 (hi lo d : Int) : Int := quot (vY d / 4294967296) (vY d % 4294967296) (vU hi lo d) (vL lo d / 4294967296)
def vR (hi lo d : Int) : Int := vU hi lo d * 4294967296 + vL lo d / 4294967296 - vQ1 hi lo d * (vY d / 4294967296 * 4294967296 + vY d % 4294967296)
open Go.Halves in
def vQ0 (hi lo d : Int) : Int := quot (vY d / 4294967296) (vY d % 4294967296) (vR hi lo d) (vL lo d % 4294967296)

theorem p_pos (d : Int) : (0 : Int) < 2 ^ lz d := Int.pow_pos (by decide)
theorem lo_cut {lo d : Int} (hd : lz d ≤ 63) : lo * 2 ^ lz d / 18446744073709551616 = lo / 2 ^ (64 - lz d) := by
  have e : (18446744073709551616 : Int) = 2 ^ (64 - lz d) * 2 ^ lz d := by
    rw [← Int.pow_add, show 64 - lz d + lz d = 64 by omega]; rfl
  rw [e]
  exact Int.mul_ediv_mul_of_pos_left _ _ (p_pos d)

theorem l_bounds (lo d : Int) : 0 ≤ vL lo d ∧ vL lo d < 18446744073709551616 := ⟨Int.emod_nonneg _ (by decide), Int.emod_lt_of_pos _ (by decide)⟩
section
variable {hi lo d : Int} (h : InD hi lo d)
include h
theorem y_bounds : 9223372036854775808 ≤ vY d ∧ vY d < 18446744073709551616 := by
  have := lz_spec (d := d) (by have := h.hi0; have := h.hid; omega) h.d64
  exact ⟨this.2.2.1, this.2.2.2⟩
theorem lz63 : lz d ≤ 63 := (lz_spec (d := d) (by have := h.hi0; have := h.hid; omega) h.d64).2.1
theorem lo_small : 0 ≤ lo * 2 ^ lz d / 18446744073709551616 ∧ lo * 2 ^ lz d / 18446744073709551616 < 2 ^ lz d := by
  have hp := p_pos d
  refine ⟨Int.ediv_nonneg (Int.mul_nonneg h.lo0 (by omega)) (by decide), ?_⟩
  rw [Int.ediv_lt_iff_lt_mul (by decide), Int.mul_comm (2 ^ lz d)]
  exact Int.mul_lt_mul_of_pos_right h.lo64 hp
theorem u_bounds : 0 ≤ vU hi lo d ∧ vU hi lo d < vY d := by
  have hp := p_pos d
  have hl := lo_small h
  have h1 : 0 ≤ hi * 2 ^ lz d := Int.mul_nonneg (by have := h.hi0; omega) (by omega)
  have h2 : (hi + 1) * 2 ^ lz d ≤ d * 2 ^ lz d := Int.mul_le_mul_of_nonneg_right (by have := h.hid; omega) (by omega)
  rw [Int.add_mul, Int.one_mul] at h2
  unfold vU vY
  omega
theorem ok1 : Go.Halves.Ok (vY d / 4294967296) (vY d % 4294967296) (vU hi lo d) (vL lo d / 4294967296) := by
  have h1 := y_bounds h
  have h2 := u_bounds h
  have h3 := l_bounds lo d
  exact ⟨by omega, by omega, by omega, by omega, h2.1, by omega, by omega, by omega⟩
theorem ok0 : Go.Halves.Ok (vY d / 4294967296) (vY d % 4294967296) (vR hi lo d) (vL lo d % 4294967296) := by
  have h1 := y_bounds h
  have h3 := l_bounds lo d
  have h4 := Go.Halves.rest (ok1 h)
  exact ⟨by omega, by omega, by omega, by omega, h4.1, h4.2, by omega, by omega⟩
theorem div_eq : vQ1 hi lo d * 4294967296 + vQ0 hi lo d = (hi * 18446744073709551616 + lo) / d ∧ (vR hi lo d * 4294967296 + vL lo d % 4294967296 - vQ0 hi lo d * (vY d / 4294967296 * 4294967296 + vY d % 4294967296)) / 2 ^ lz d = (hi * 18446744073709551616 + lo) % d := by
  refine Go.Halves.halves (N := hi * 18446744073709551616 + lo) (d := d) (D := 2 ^ lz d) (by have := h.hi0; have := h.hid; omega) (p_pos d) ?_ (ok1 h) rfl (ok0 h) ?_
  · show vY d / 4294967296 * 4294967296 + vY d % 4294967296 = vY d
    omega
  · have e : (hi * 18446744073709551616 + lo) * 2 ^ lz d = (hi * 2 ^ lz d) * 18446744073709551616 + lo * 2 ^ lz d := by
      rw [Int.add_mul, Int.mul_right_comm]
    rw [e]
    unfold vU vL
    generalize hi * 2 ^ lz d = a
    generalize lo * 2 ^ lz d = b
    omega
end
end
end Go.Proofs.YtdblaloadklcfabDoor
