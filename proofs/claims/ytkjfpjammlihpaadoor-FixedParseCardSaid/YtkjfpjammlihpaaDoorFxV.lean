/- The texts of numbers: the program's Format and the reference's, at unknown numbers. -/
import Derived.Test.YtkjfpjammlihpaaDoorFxU
import Derived.Test.YtkjfpjammlihpaaDoorFxPl
set_option linter.unusedVariables false
set_option linter.unusedSimpArgs false
namespace Go.Proofs.YtkjfpjammlihpaaDoor
open Go.Sx Go.ChangeShapes Go.WideShapes Go.ChangeAt Go.RowKit
noncomputable section

def jv (n : Nat) : V := .sym (.int .i32) (.ivar .i32 n)
def sv (n : Nat) : V := .sym .str (.svar n)
def eC0 : SE := .conv .i64 (.ivar .i32 0)
/-- The whole number's text: unknown 3; the magnitude: unknown 2. -/
def eSz : Entry := { f := 28, args := [.sym (.int .i64) eC0], res := uv 2 }
def eHi : SE := .bin .shr .u64 (.ivar .u64 2) (.int .u64 8)
def eFu : Entry := { f := 29, args := [.sym (.int .u64) eHi, .val (.int .i64 10)], res := sv 3, facts := [(.cmp .lss (.len (.svar 3)) (.int .i64 100), true)] }
/-- What is left of the fraction behind k digits. -/
def eRest : Nat → SE
  | 0 => .bin .and .u64 (.ivar .u64 2) (.int .u64 255)
  | k + 1 => .bin .and .u64 (mkBin .mul .u64 (eRest k) (.int .u64 10)) (.int .u64 255)
def pcV : PC := addPC (.cmp .eql (eRest 8) (.int .u64 0)) true []
def runV (r : Nat → Value) := outsF (callF kn0 Tryd.prog (tb.atS r (spOf [eSz, eFu]) noLp) 300 300 pcV 11 [jv 0] H0)
/-- The reference's digits and Format. -/
def runDg (r : Nat → Value) := outsF (callF kn0 Tryd.prog (tb.atS r noSp noLp) 300 300 (addPC (.cmp .lss (.int .u64 8388608) (.ivar .u64 2)) false []) 36 [uv 2] H0)

def cG (k : Nat) : SE := .cmp .lss (.int .u64 0) (eRest k)
def upTo : Nat → PC
  | 0 => []
  | k + 1 => (cG (k + 1), true) :: upTo k
def baseV (neg : Bool) : PC := [(.cmp .lss (.ivar .i32 0) (.int .i32 0), neg), (.cmp .lss (.len (.svar 3)) (.int .i64 100), true), (.cmp .eql (eRest 8) (.int .u64 0), true)]
def leafPC (neg : Bool) (k : Nat) : PC := (match k with
  | 8 => upTo 7
  | k => (cG k, false) :: upTo (k - 1)) ++ (.cmp .eql (eRest 0) (.int .u64 0), false) :: baseV neg
def byteE (j : Nat) : SE := .bin .add .u8 (.int .u8 48) (.conv .u8 (.bin .shr .u64 (mkBin .mul .u64 (eRest j) (.int .u64 10)) (.int .u64 8)))
def signE (neg : Bool) : SE := if neg then .cat (.str ⟨#[45]⟩) (.svar 3) else .svar 3
def leafV (neg : Bool) (k : Nat) : PC × Bool × List (STy × SE) := (leafPC neg k, false, [(.str, .cat (.cat (signE neg) (.str ⟨#[46]⟩)) (textSE ((List.range k).map byteE)))])
def leafs (neg : Bool) : List (PC × Bool × List (STy × SE)) := ((.cmp .eql (eRest 0) (.int .u64 0), true) :: baseV neg, false, [(.str, signE neg)]) :: ((List.range 8).map fun j => leafV neg (j + 1))
theorem run_V (r : Nat → Value) : runV r = some (leafs true ++ leafs false) := by kernel_rfl

/-! ### What the expressions come to -/
def xN (r k : Nat) : Nat := r * 10 ^ k % 256
theorem xN_succ (r k : Nat) : xN r (k + 1) = xN r k * 10 % 256 := by
  unfold xN
  rw [Nat.pow_succ, ← Nat.mul_assoc, Nat.mod_mul_mod]
theorem fdig_rows : ∀ r : Fin 256, ∀ k : Fin 9, ((List.range k.val).all (fun i => xN r.val i != 0) && (Nat.beq k.val 8 || Nat.beq (xN r.val k.val) 0)) = true → Go.Dec.fdig r.val = (List.range k.val).map fun j => UInt8.ofNat (48 + xN r.val j * 10 / 256) := by decide +kernel
theorem x8 (r : Nat) : xN r 8 = 0 := by
  unfold xN
  rw [show r * 10 ^ 8 = r * 390625 * 256 by rw [Nat.mul_assoc], Nat.mul_mod_left]
def rhoV (f : Int) (n : Nat) : Value :=
  match n with
  | 0 => .int .i32 f
  | 2 => .int .u64 (ab f)
  | _ => .string (tx (Lib.decDigits (ab f / 256).toNat))
section
variable {f : Int} (h1 : -2147483648 ≤ f) (h2 : f ≤ 2147483647)
include h1 h2
theorem abV : 0 ≤ ab f ∧ ab f ≤ 2147483648 := by unfold ab; split <;> omega
theorem nV0 : (SE.ivar .i32 0).num (rhoV f) = f := wid_i32 _ h1 h2
theorem nVc : eC0.num (rhoV f) = f := by unfold eC0; rw [n_conv, nV0 h1 h2]; exact wid_i64 _ (by omega) (by omega)
theorem nV2 : (SE.ivar .u64 2).num (rhoV f) = ab f := wid_u64 _ (abV h1 h2).1 (by have := (abV h1 h2).2; omega)
theorem nVh : eHi.num (rhoV f) = ab f / 256 := by
  unfold eHi
  rw [n_shr, nV2 h1 h2]
  rfl
theorem nVr : ∀ k, (eRest k).num (rhoV f) = (xN (ab f % 256).toNat k : Nat)
  | 0 => by
    have ha := abV h1 h2
    show (SE.bin .and .u64 (.ivar .u64 2) (.int .u64 255)).num (rhoV f) = _
    rw [n_and, nV2 h1 h2, m_8]
    show _ = (((ab f % 256).toNat * 1 % 256 : Nat) : Int)
    omega
  | k + 1 => by
    have ih := nVr k
    have hb : xN (ab f % 256).toNat k < 256 := Nat.mod_lt _ (by decide)
    have e : (mkBin .mul .u64 (eRest k) (.int .u64 10)).num (rhoV f) = (xN (ab f % 256).toNat k : Int) * 10 := by
      have hm : mkBin .mul .u64 (eRest k) (.int .u64 10) = .bin .mul .u64 (.int .u64 10) (eRest k) ∨ mkBin .mul .u64 (eRest k) (.int .u64 10) = .bin .mul .u64 (eRest k) (.int .u64 10) := by
        unfold mkBin
        simp only
        split
        · exact .inl rfl
        · exact .inr rfl
      rcases hm with hm | hm <;> rw [hm, n_mul, n_int, ih, wid_u64 _ (by omega) (by omega)]
      omega
    show (SE.bin .and .u64 (mkBin .mul .u64 (eRest k) (.int .u64 10)) (.int .u64 255)).num (rhoV f) = _
    rw [n_and, e, m_8, xN_succ]
    omega
theorem nVb (j : Nat) : (byteE j).num (rhoV f) = ((48 + xN (ab f % 256).toNat j * 10 / 256 : Nat) : Int) := by
  have ih := nVr h1 h2 j
  have hb : xN (ab f % 256).toNat j < 256 := Nat.mod_lt _ (by decide)
  have e : (mkBin .mul .u64 (eRest j) (.int .u64 10)).num (rhoV f) = (xN (ab f % 256).toNat j : Int) * 10 := by
    have hm : mkBin .mul .u64 (eRest j) (.int .u64 10) = .bin .mul .u64 (.int .u64 10) (eRest j) ∨ mkBin .mul .u64 (eRest j) (.int .u64 10) = .bin .mul .u64 (eRest j) (.int .u64 10) := by
      unfold mkBin
      simp only
      split
      · exact .inl rfl
      · exact .inr rfl
    rcases hm with hm | hm <;> rw [hm, n_mul, n_int, ih, wid_u64 _ (by omega) (by omega)]
    omega
  unfold byteE
  rw [n_add, n_int, n_conv, n_shr, e, w_u8, w_u8]
  show (48 + (xN (ab f % 256).toNat j : Int) * 10 / 256 % 256) % 256 = _
  generalize xN (ab f % 256).toNat j = x at hb ⊢
  have e2 : (x : Int) * 10 / 256 = ((x * 10 / 256 : Nat) : Int) := by omega
  have e3 : x * 10 / 256 < 10 := by omega
  rw [e2]
  generalize x * 10 / 256 = q at e3 ⊢
  omega
end

/-! ### The program's Format, as a contract -/
def eFi : Entry := { f := 40, args := [uv 0, .val (.int .i64 10)], res := sv 1 }
def rhoW (u : Int) (n : Nat) : Value :=
  match n with
  | 0 => .int .u64 u
  | _ => .string (tx (Lib.decDigits u.toNat))
def MW : List (PC × Bool × List (STy × SE)) := [([], false, [(.str, .svar 1)])]
theorem run_W (r : Nat → Value) : outsF (callF kn0 Tryd.prog (tb.atS r (spOf [eFi]) noLp) 300 300 [] 29 [uv 0, .val (.int .i64 10)] H0) = some MW := by kernel_rfl
theorem fu_fnc {u : Int} (h0 : 0 ≤ u) (h1 : u < 18446744073709551616) : Fnc Tryd.prog tb.glob 29 #[.int .u64 u, .int .i64 10] (.string (tx (Lib.decDigits u.toNat))) := by
  have n0 : (SE.ivar .u64 0).num (rhoW u) = u := wid_u64 _ h0 (by omega)
  have hok : ∀ e, e ∈ [eFi] → EntryOk Tryd.prog tb.glob (rhoW u) e := by
    rw [all_cons]
    refine ⟨⟨known40, rfl, rfl, fun q hq => by simp [eFi] at hq, ?_⟩, fun _ h => by simp at h⟩
    show Fnc _ _ 40 #[Value.int .u64 ((SE.ivar .u64 0).num (rhoW u)), Value.int .i64 10] (.string (tx (Lib.decDigits u.toNat)))
    rw [n0]
    exact fu_inner h0 h1
  have := fnc_run tb_ok tb_wf (spOf_ok hok) (kn := kn0) (n0 := 300) (n1 := 300) kn_none (PC.holds_nil _) (f := 29) (args := [uv 0, .val (.int .i64 10)]) (by rfl) (run_W _) (res := .string (tx (Lib.decDigits u.toNat))) (by
    unfold MW
    rw [all_cons]
    exact ⟨fun _ => rfl, fun _ h => by simp at h⟩)
  have e : ([uv 0, .val (.int .i64 10)].map (V.at1 (rhoW u))).toArray = #[.int .u64 u, .int .i64 10] := by
    show #[Value.int .u64 ((SE.ivar .u64 0).num (rhoW u)), Value.int .i64 10] = _
    rw [n0]
  rwa [e] at this
theorem tx_append (l m : List UInt8) : tx l ++ tx m = tx (l ++ m) := by
  apply ByteArray.ext
  rw [ByteArray.data_append]
  simp [tx]
/-- The text of a number. -/
def textF (f : Int) : List UInt8 := Go.Dec.textL (decide (f < 0)) (ab f / 256).toNat (ab f % 256).toNat
section
variable {f : Int} (h1 : -2147483648 ≤ f) (h2 : f ≤ 2147483647)
include h1 h2
theorem entries_V : ∀ e, e ∈ [eSz, eFu] → EntryOk Tryd.prog tb.glob (rhoV f) e := by
  have ha := abV h1 h2
  rw [all_cons, all_cons]
  refine ⟨⟨⟨Tryd.f28, Tryd.func28, by kernel_rfl, by kernel_rfl⟩, rfl, rfl, fun q hq => by simp [eSz] at hq, ?_⟩, ⟨known29, rfl, rfl, ?_, ?_⟩, fun _ h => by simp at h⟩
  · show Fnc _ _ 28 #[Value.int .i64 (eC0.num (rhoV f))] (Value.int .u64 ((SE.ivar .u64 2).num (rhoV f)))
    rw [nVc h1 h2, nV2 h1 h2]
    exact abs_fnc (.inr rfl) (by omega) (by omega)
  · intro q hq
    rw [List.mem_singleton.1 hq, t_lss, n_int]
    show (if true = true then (((tx (Lib.decDigits (ab f / 256).toNat)).size : Nat) : Int) < 100 else _)
    rw [if_pos rfl]
    have hl : (tx (Lib.decDigits (ab f / 256).toNat)).size = (Lib.decDigits (ab f / 256).toNat).length := by simp [tx, ByteArray.size]
    have := Go.Dec.dec_len_le 19 (ab f / 256).toNat (by omega)
    rw [hl]
    omega
  · show Fnc _ _ 29 #[Value.int .u64 (eHi.num (rhoV f)), Value.int .i64 10] (.string (tx (Lib.decDigits (ab f / 256).toNat)))
    rw [nVh h1 h2]
    exact fu_fnc (by omega) (by omega)
omit h1 h2 in
theorem sign_text (neg : Bool) : (signE neg).text (rhoV f) = tx ((if neg then [45] else []) ++ Lib.decDigits (ab f / 256).toNat) := by
  cases neg with
  | true =>
    show (⟨#[45]⟩ : ByteArray) ++ tx (Lib.decDigits (ab f / 256).toNat) = _
    exact tx_append [45] _
  | false => rfl
theorem base_neg {neg : Bool} {pc : PC} (h : ∀ q, q ∈ baseV neg → q ∈ pc) (hp : pc.holds (rhoV f)) : decide (f < 0) = neg := by
  have := hp (.cmp .lss (.ivar .i32 0) (.int .i32 0), neg) (h _ List.mem_cons_self)
  rw [(truth_cmp _ _ _).2.2.1, nV0 h1 h2] at this
  exact this
theorem rest_eq (k : Nat) (b : Bool) (h : (cG k).truth (rhoV f) = b) : decide (xN (ab f % 256).toNat k ≠ 0) = b := by
  unfold cG at h
  rw [(truth_cmp _ _ _).2.2.1, nVr h1 h2, n_int] at h
  rw [← h]
  apply decide_eq_decide.2
  omega
omit h1 h2 in
theorem upTo_mem : ∀ (m i : Nat), 1 ≤ i → i ≤ m → (cG i, true) ∈ upTo m
  | 0, i, h, h' => by omega
  | m + 1, i, h, h' => by
    by_cases e : i = m + 1
    · subst e; exact List.mem_cons_self
    · exact List.mem_cons_of_mem _ (upTo_mem m i h (by omega))
theorem leaf_ok (neg : Bool) (q : PC × Bool × List (STy × SE)) (hq : q ∈ leafs neg) (hp : q.1.holds (rhoV f)) : retOf q.2.1 (valsOf (rhoV f) q.2.2) = .string (tx (textF f)) := by
  have ha := abV h1 h2
  have hr256 : (ab f % 256).toNat < 256 := by omega
  have hx0 : xN (ab f % 256).toNat 0 = (ab f % 256).toNat := by
    unfold xN
    rw [Nat.pow_zero, Nat.mul_one, Nat.mod_eq_of_lt hr256]
  rcases List.mem_cons.1 hq with rfl | hq
  · have hn := base_neg h1 h2 (neg := neg) (fun q hq => List.mem_cons_of_mem _ hq) hp
    have h0 := hp (.cmp .eql (eRest 0) (.int .u64 0), true) List.mem_cons_self
    rw [t_eql, nVr h1 h2, n_int, if_pos rfl, hx0] at h0
    show Value.string ((signE neg).text (rhoV f)) = _
    rw [sign_text]
    unfold textF Go.Dec.textL
    rw [hn, if_pos (show (ab f % 256).toNat = 0 by omega), List.append_nil]
  · obtain ⟨j, hj, rfl⟩ := List.mem_map.1 hq
    have hj := List.mem_range.1 hj
    have hbase : ∀ q, q ∈ (SE.cmp .eql (eRest 0) (.int .u64 0), false) :: baseV neg → q ∈ leafPC neg (j + 1) := fun q hq => by
      unfold leafPC
      exact List.mem_append_right _ hq
    have hn := base_neg h1 h2 (neg := neg) (fun q hq => hbase q (List.mem_cons_of_mem _ hq)) hp
    have h0 := hp (.cmp .eql (eRest 0) (.int .u64 0), false) (hbase _ List.mem_cons_self)
    rw [t_eql, nVr h1 h2, n_int, if_neg (by simp), hx0] at h0
    have hpos : ∀ i, i < j + 1 → xN (ab f % 256).toNat i ≠ 0 := fun i hi => by
      rcases Nat.eq_zero_or_pos i with rfl | hi0
      · rw [hx0]; omega
      · have hm : (cG i, true) ∈ leafPC neg (j + 1) := by
          unfold leafPC
          refine List.mem_append_left _ ?_
          by_cases e : j = 7
          · subst e; exact upTo_mem 7 i hi0 (by omega)
          · split
            · rename_i e2; omega
            · exact List.mem_cons_of_mem _ (upTo_mem _ i hi0 (by omega))
        have := rest_eq h1 h2 i true (hp _ hm)
        simpa using this
    have hend : j + 1 = 8 ∨ xN (ab f % 256).toNat (j + 1) = 0 := by
      by_cases e : j = 7
      · exact .inl (by omega)
      · have hm : (cG (j + 1), false) ∈ leafPC neg (j + 1) := by
          unfold leafPC
          refine List.mem_append_left _ ?_
          split
          · rename_i e2; omega
          · exact List.mem_cons_self
        have := rest_eq h1 h2 (j + 1) false (hp _ hm)
        exact .inr (by simpa using this)
    have hf := fdig_rows ⟨_, hr256⟩ ⟨j + 1, by omega⟩ (by
      rw [Bool.and_eq_true]
      refine ⟨List.all_eq_true.2 fun i hi => by simpa using hpos i (List.mem_range.1 hi), ?_⟩
      rw [Bool.or_eq_true]
      rcases hend with e | e
      · exact .inl (by show Nat.beq (j + 1) 8 = true; rw [e]; rfl)
      · exact .inr (by show Nat.beq (xN (ab f % 256).toNat (j + 1)) 0 = true; rw [e]; rfl))
    have htx : (textSE ((List.range (j + 1)).map byteE)).text (rhoV f) = tx (Go.Dec.fdig (ab f % 256).toNat) := by
      rw [textSE_text]
      show tx (((List.range (j + 1)).map byteE).map fun x => UInt8.ofNat (x.num (rhoV f)).toNat) = _
      rw [List.map_map]
      refine congrArg tx (Eq.trans ?_ hf.symm)
      refine List.map_congr_left fun i _ => ?_
      show UInt8.ofNat ((byteE i).num (rhoV f)).toNat = _
      rw [nVb h1 h2]
      rfl
    show Value.string (((signE neg).text (rhoV f) ++ ⟨#[46]⟩) ++ (textSE ((List.range (j + 1)).map byteE)).text (rhoV f)) = _
    rw [htx, sign_text, show (⟨#[46]⟩ : ByteArray) = tx [46] from rfl, tx_append, tx_append]
    unfold textF Go.Dec.textL
    rw [hn, if_neg (show ¬ (ab f % 256).toNat = 0 by omega)]
    simp
/-- **The program's Format.** -/
theorem format_fnc : Fnc Tryd.prog tb.glob 11 #[.int .i32 f] (.string (tx (textF f))) := by
  have hp : pcV.holds (rhoV f) := addPC_ok (PC.holds_nil _) (by
    rw [t_eql, nVr h1 h2, n_int, if_pos rfl, x8]
    rfl)
  have := fnc_run tb_ok tb_wf (spOf_ok (entries_V h1 h2)) (kn := kn0) (n0 := 300) (n1 := 300) kn_none hp (f := 11) (args := [jv 0]) (by rfl) (run_V _) (res := .string (tx (textF f))) (fun q hq hp => by
    rcases List.mem_append.1 hq with hq | hq
    · exact leaf_ok h1 h2 true q hq hp
    · exact leaf_ok h1 h2 false q hq hp)
  have e : ([jv 0].map (V.at1 (rhoV f))).toArray = #[.int .i32 f] := by
    show #[Value.int .i32 ((SE.ivar .i32 0).num (rhoV f))] = _
    rw [nV0 h1 h2]
  rwa [e] at this
end
end
end Go.Proofs.YtkjfpjammlihpaaDoor
