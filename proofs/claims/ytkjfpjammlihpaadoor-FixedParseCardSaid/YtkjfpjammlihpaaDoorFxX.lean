/- The reference's digits, as a contract. -/
import Derived.Test.YtkjfpjammlihpaaDoorFxV
set_option linter.unusedVariables false
set_option linter.unusedSimpArgs false
namespace Go.Proofs.YtkjfpjammlihpaaDoor
open Go.Sx Go.ChangeShapes Go.WideShapes Go.ChangeAt Go.RowKit
noncomputable section

def eQ : Nat → SE
  | 0 => .ivar .u64 2
  | k + 1 => .bin .quo .u64 (eQ k) (.int .u64 10)
def eD (k : Nat) : SE := .chr (.conv .u8 (.bin .add .u64 (.int .u64 48) (.bin .rem .u64 (eQ k) (.int .u64 10))))
def sE : Nat → SE
  | 0 => .str .empty
  | k + 1 => .cat (eD k) (sE k)
def noQ : Nat → PC
  | 0 => [(.cmp .lss (.int .u64 8388608) (.ivar .u64 2), false)]
  | k + 1 => (.cmp .eql (eQ (k + 1)) (.int .u64 0), false) :: noQ k
def lastD (m : Nat) : PC × Bool × List (STy × SE) := ((.cmp .eql (eQ (m + 1)) (.int .u64 0), true) :: noQ m, false, [(.str, sE (m + 1))])
def MDg : List (PC × Bool × List (STy × SE)) := (noQ 6, false, [(.str, sE 7)]) :: [lastD 5, lastD 4, lastD 3, lastD 2, lastD 1, lastD 0]
theorem run_Dg (r : Nat → Value) : runDg r = some MDg := by kernel_rfl

theorem pad_cons : ∀ (k n : Nat), Go.Dec.padL (k + 1) n = UInt8.ofNat (48 + n / 10 ^ k % 10) :: Go.Dec.padL k n
  | 0, n => by
    show [] ++ [UInt8.ofNat (48 + n % 10)] = _
    rw [Nat.pow_zero, Nat.div_one]
    rfl
  | k + 1, n => by
    have ih := pad_cons k (n / 10)
    show Go.Dec.padL (k + 1) (n / 10) ++ [UInt8.ofNat (48 + n % 10)] = _
    rw [ih]
    show UInt8.ofNat (48 + n / 10 / 10 ^ k % 10) :: (Go.Dec.padL k (n / 10) ++ [UInt8.ofNat (48 + n % 10)]) = _
    rw [Nat.div_div_eq_div_mul, ← Nat.pow_succ']
    rfl
theorem dec_pad : ∀ (m n : Nat), n / 10 ^ (m + 1) = 0 → (m = 0 ∨ n / 10 ^ m ≠ 0) → Lib.decDigits n = Go.Dec.padL (m + 1) n
  | 0, n, h, _ => by
    have hn : n < 10 := by
      rw [Nat.pow_one] at h
      omega
    rw [Go.Dec.dec_small hn]
    show _ = [] ++ [UInt8.ofNat (48 + n % 10)]
    rw [Nat.mod_eq_of_lt hn]
    rfl
  | m + 1, n, h, h2 => by
    have h2 := h2.resolve_left (by omega)
    have e : ∀ j, n / 10 / 10 ^ j = n / 10 ^ (j + 1) := fun j => by rw [Nat.div_div_eq_div_mul, ← Nat.pow_succ']
    have hb : ¬ n < 10 := fun hlt => by
      apply h2
      rw [← e, show n / 10 = 0 by omega, Nat.zero_div]
    rw [Go.Dec.dec_big hb, dec_pad m (n / 10) (by rw [e]; exact h) (by
      by_cases hm : m = 0
      · exact .inl hm
      · refine .inr ?_
        rw [e]
        exact h2)]
    rfl
def rhoG (n : Nat) (j : Nat) : Value := .int .u64 n
section
variable {n : Nat} (hn : n ≤ 8388608)
include hn
theorem nQ : ∀ k, (eQ k).num (rhoG n) = ((n / 10 ^ k : Nat) : Int)
  | 0 => by
    show IntKind.wrap .u64 n = _
    rw [wid_u64 _ (by omega) (by omega), Nat.pow_zero, Nat.div_one]
  | k + 1 => by
    have ih := nQ k
    show (SE.bin .quo .u64 (eQ k) (.int .u64 10)).num (rhoG n) = _
    have hle : n / 10 ^ k ≤ n := Nat.div_le_self _ _
    rw [n_quo, if_neg (by rw [n_int]; decide), n_int, ih, Nat.pow_succ, ← Nat.div_div_eq_div_mul]
    generalize n / 10 ^ k = x at hle ⊢
    rw [Int.tdiv_eq_ediv_of_nonneg (Int.natCast_nonneg x), wid_u64 _ (by omega) (by omega)]
    omega
theorem dE_text (k : Nat) : (eD k).text (rhoG n) = tx [UInt8.ofNat (48 + n / 10 ^ k % 10)] := by
  have hle : n / 10 ^ k ≤ n := Nat.div_le_self _ _
  have e : (SE.conv .u8 (.bin .add .u64 (.int .u64 48) (.bin .rem .u64 (eQ k) (.int .u64 10)))).num (rhoG n) = ((48 + n / 10 ^ k % 10 : Nat) : Int) := by
    rw [n_conv, n_add, n_int, n_rem, if_neg (by rw [n_int]; decide), n_int, nQ hn]
    generalize n / 10 ^ k = x at hle ⊢
    rw [Int.tmod_eq_emod_of_nonneg (Int.natCast_nonneg x), w_u64, w_u8]
    have : x % 10 < 10 := Nat.mod_lt _ (by decide)
    omega
  show (⟨#[UInt8.ofNat ((SE.conv .u8 (.bin .add .u64 (.int .u64 48) (.bin .rem .u64 (eQ k) (.int .u64 10)))).num (rhoG n)).toNat]⟩ : ByteArray) = _
  rw [e]
  rfl
theorem sE_text : ∀ k, (sE k).text (rhoG n) = tx (Go.Dec.padL k n)
  | 0 => rfl
  | k + 1 => by
    show (eD k).text (rhoG n) ++ (sE k).text (rhoG n) = _
    rw [dE_text hn, sE_text k, tx_append, pad_cons]
    rfl
theorem noQ_last : ∀ m, PC.holds (rhoG n) (noQ m) → m = 0 ∨ n / 10 ^ m ≠ 0
  | 0, _ => .inl rfl
  | m + 1, h => by
    have := h (.cmp .eql (eQ (m + 1)) (.int .u64 0), false) List.mem_cons_self
    rw [t_eql, nQ hn, n_int, if_neg (by simp)] at this
    refine .inr fun e => this ?_
    rw [e]
    rfl
theorem lastD_ok (m : Nat) (hp : (lastD m).1.holds (rhoG n)) : retOf (lastD m).2.1 (valsOf (rhoG n) (lastD m).2.2) = .string (tx (Lib.decDigits n)) := by
  have h0 := hp (.cmp .eql (eQ (m + 1)) (.int .u64 0), true) List.mem_cons_self
  rw [t_eql, nQ hn, n_int, if_pos rfl] at h0
  have h1 := noQ_last hn m (fun q hq => hp q (List.mem_cons_of_mem _ hq))
  show Value.string ((sE (m + 1)).text (rhoG n)) = _
  rw [sE_text hn, dec_pad m n (Int.ofNat.inj h0) h1]
/-- **The reference's digits.** -/
theorem digits_fnc : Fnc Tryd.prog tb.glob 36 #[.int .u64 n] (.string (tx (Lib.decDigits n))) := by
  have n2 : (SE.ivar .u64 2).num (rhoG n) = n := wid_u64 _ (by omega) (by omega)
  have hp : (addPC (.cmp .lss (.int .u64 8388608) (.ivar .u64 2)) false []).holds (rhoG n) := addPC_ok (PC.holds_nil _) (by
    rw [t_lss, n2, n_int, if_neg (by simp)]
    omega)
  have := fnc_run tb_ok tb_wf (base_ok (rhoG n)) (kn := kn0) (n0 := 300) (n1 := 300) kn_none hp (f := 36) (args := [uv 2]) (by rfl) (run_Dg _) (res := .string (tx (Lib.decDigits n))) (by
    unfold MDg
    simp only [all_cons, all_nil, and_true]
    refine ⟨fun hp => ?_, lastD_ok hn 5, lastD_ok hn 4, lastD_ok hn 3, lastD_ok hn 2, lastD_ok hn 1, lastD_ok hn 0⟩
    have h1 := noQ_last hn 6 hp
    show Value.string ((sE 7).text (rhoG n)) = _
    rw [sE_text hn, dec_pad 6 n (by
      have : n < 10 ^ (6 + 1) := by omega
      exact Nat.div_eq_of_lt this) h1])
  have e : ([uv 2].map (V.at1 (rhoG n))).toArray = #[.int .u64 n] := by
    show #[Value.int .u64 ((SE.ivar .u64 2).num (rhoG n))] = _
    rw [n2]
  rwa [e] at this
end
end
end Go.Proofs.YtkjfpjammlihpaaDoor
