/- The reference's Format, as a contract. -/
import Derived.Test.YtkjfpjammlihpaaDoorFxWi
set_option linter.unusedVariables false
set_option linter.unusedSimpArgs false
namespace Go.Proofs.YtkjfpjammlihpaaDoor
open Go.Sx Go.ChangeShapes Go.WideShapes Go.ChangeAt Go.RowKit Go.Dec
noncomputable section

def eAb : Entry := { f := 35, args := [.sym (.int .i64) eC0], res := uv 2 }
def eDg : Entry := { f := 36, args := [.sym (.int .u64) (.bin .quo .u64 (.ivar .u64 2) (.int .u64 256))], res := xv 3, facts := [(.cmp .lss (.len (.svar 3)) (.int .i64 100), true)] }
def tbY : Tb := tbO fun f => Nat.beq f 13
def spY : Sp := spOf [eAb, eDg]
def restY : List (Nat × V) := [(0, jv 0), (2, .val (.string ⟨#[]⟩)), (3, uv 2), (4, xv 3)] ++ tops ((List.range 35).map fun j => 8 + j)
def hdY : St := { env := mkE (restY ++ [(5, uv 4), (6, xv 5), (7, iv 6)]), h := H0 }
def exY : Env := mkE (restY ++ [(5, .top), (6, xv 7), (7, .top)])
def DY : LoopD := { hd := hdY, ts := [5, 6, 7], outs := [(.exit 0, exY, [6])] }
def SY (n : Nat) : Bool := Nat.ble n 3 || Nat.ble 7 n
def bodyY : Code := match (tb.func 13).bind fun fn => fn.body with
  | some c => (loopsOf c).headD .skip
  | none => .skip
def pcY : PC := addPC (.cmp .lss (.len (.svar 5)) (.int .i64 100)) true []
def rnY (r : Nat → Value) := sums SY DY (execF kn0 (callF kn0 Tryd.prog (tbY.atS r spY noLp) 300 300) Tryd.prog (tbY.atS r spY noLp) 300 (.code bodyY) pcY DY.hd)
def keyY (_ : Nat → Value) : Nat := loopK bodyY

def remE : SE := .bin .rem .u64 (.ivar .u64 4) (.int .u64 10)
def quoE : SE := .bin .quo .u64 (.ivar .u64 4) (.int .u64 10)
def chrE : SE := .chr (.conv .u8 (.bin .add .u64 (.int .u64 48) remE))
def MY : List (PC × Sm) :=
  [([(.cmp .eql remE (.int .u64 0), false), (.cmp .lss (.ivar .i64 6) (.int .i64 8), true), (.cmp .lss (.len (.svar 5)) (.int .i64 100), true)], .next [(4, .int .u64, quoE), (5, .str, .cat chrE (.svar 5)), (6, .int .i64, .bin .add .i64 (.ivar .i64 6) (.int .i64 1))]),
   ([(.eqs (.svar 5) (.str ⟨#[]⟩), false), (.cmp .eql remE (.int .u64 0), true), (.cmp .lss (.ivar .i64 6) (.int .i64 8), true), (.cmp .lss (.len (.svar 5)) (.int .i64 100), true)], .next [(4, .int .u64, quoE), (5, .str, .cat chrE (.svar 5)), (6, .int .i64, .bin .add .i64 (.ivar .i64 6) (.int .i64 1))]),
   ([(.eqs (.svar 5) (.str ⟨#[]⟩), true), (.cmp .eql remE (.int .u64 0), true), (.cmp .lss (.ivar .i64 6) (.int .i64 8), true), (.cmp .lss (.len (.svar 5)) (.int .i64 100), true)], .next [(4, .int .u64, quoE), (5, .str, .svar 5), (6, .int .i64, .bin .add .i64 (.ivar .i64 6) (.int .i64 1))]),
   ([(.cmp .lss (.ivar .i64 6) (.int .i64 8), false), (.cmp .lss (.len (.svar 5)) (.int .i64 100), true)], .out 0 [(7, .str, .svar 5)])]
theorem run_Y (r : Nat → Value) : rnY r = some MY := by kernel_rfl
/-- The last k digits of a number, without the zeros at the end. -/
def tY (X : Nat) : Nat → List UInt8
  | 0 => []
  | k + 1 => if X / 10 ^ k % 10 = 0 ∧ tY X k = [] then [] else UInt8.ofNat (48 + X / 10 ^ k % 10) :: tY X k
theorem tY_len (X : Nat) : ∀ k, (tY X k).length ≤ k
  | 0 => by simp [tY]
  | k + 1 => by
    have := tY_len X k
    unfold tY
    split
    · simp
    · simp only [List.length_cons]; omega
theorem tY_fdig : ∀ r : Fin 256, r.val ≠ 0 → tY (r.val * 390625) 8 = fdig r.val := by decide +kernel
def rhoY (f : Int) (X k : Nat) (n : Nat) : Value :=
  match n with
  | 0 => .int .i32 f
  | 2 => .int .u64 (ab f)
  | 3 => .string (tx (Lib.decDigits (ab f / 256).toNat))
  | 4 => .int .u64 (X / 10 ^ k : Nat)
  | 5 => .string (tx (tY X k))
  | 6 => .int .i64 k
  | _ => .string (tx (tY X 8))
def InvY (k : Nat) : Prop := k ≤ 8
section
variable {f : Int} {X : Nat} (hX : X ≤ 99609375)
theorem nY5 (k : Nat) : (SE.len (.svar 5)).num (rhoY f X k) = ((tY X k).length : Int) := by
  show ((tx (tY X k)).size : Int) = _
  rw [size_tx]
theorem nY6 {k : Nat} (hk : k ≤ 8) : (SE.ivar .i64 6).num (rhoY f X k) = k := wid_i64 _ (by omega) (by omega)
theorem tYe (k : Nat) : (SE.eqs (.svar 5) (.str ⟨#[]⟩)).truth (rhoY f X k) = (tY X k).isEmpty := tx_empty _
include hX
theorem nY4 (k : Nat) : (SE.ivar .u64 4).num (rhoY f X k) = ((X / 10 ^ k : Nat) : Int) := by
  have h : X / 10 ^ k ≤ X := Nat.div_le_self _ _
  exact wid_u64 _ (Int.natCast_nonneg _) (by have := Int.ofNat_le.2 h; omega)
theorem nYr (k : Nat) : remE.num (rhoY f X k) = ((X / 10 ^ k % 10 : Nat) : Int) := by
  unfold remE
  rw [n_rem, if_neg (by rw [n_int]; decide), n_int, nY4 hX, Int.tmod_eq_emod_of_nonneg (Int.natCast_nonneg _)]
  rfl
theorem nYq (k : Nat) : quoE.num (rhoY f X k) = ((X / 10 ^ (k + 1) : Nat) : Int) := by
  have h : X / 10 ^ k ≤ X := Nat.div_le_self _ _
  unfold quoE
  rw [n_quo, if_neg (by rw [n_int]; decide), n_int, nY4 hX, Nat.pow_succ, ← Nat.div_div_eq_div_mul]
  generalize X / 10 ^ k = x at h ⊢
  rw [Int.tdiv_eq_ediv_of_nonneg (Int.natCast_nonneg x), wid_u64 _ (by omega) (by omega)]
  omega
theorem tYc (k : Nat) : chrE.text (rhoY f X k) = tx [UInt8.ofNat (48 + X / 10 ^ k % 10)] := by
  have e : (SE.conv .u8 (.bin .add .u64 (.int .u64 48) remE)).num (rhoY f X k) = ((48 + X / 10 ^ k % 10 : Nat) : Int) := by
    rw [n_conv, n_add, n_int, nYr hX, w_u64, w_u8]
    have : X / 10 ^ k % 10 < 10 := Nat.mod_lt _ (by decide)
    omega
  show (⟨#[UInt8.ofNat ((SE.conv .u8 (.bin .add .u64 (.int .u64 48) remE)).num (rhoY f X k)).toNat]⟩ : ByteArray) = _
  rw [e]
  rfl
theorem upY {k : Nat} (hk : k < 8) (e : SE) (he : e.text (rhoY f X k) = tx (tY X (k + 1))) : UpdOk (rhoY f X k) (rhoY f X (k + 1)) [(4, .int .u64, quoE), (5, .str, e), (6, .int .i64, .bin .add .i64 (.ivar .i64 6) (.int .i64 1))] := by
  unfold UpdOk
  rw [all_cons, all_cons, all_cons]
  refine ⟨upd_F (nYq hX k) (nY4 hX _), ?_, upd_F ?_ (nY6 (by omega)), fun _ h => by simp at h⟩
  · show Value.string (e.text (rhoY f X k)) = Value.string (tx (tY X (k + 1)))
    rw [he]
  · rw [n_add, n_int, nY6 (by omega), wid_i64 _ (by omega) (by omega)]
    omega
omit hX in
theorem sameY (k j : Nat) : ∀ n, SY n = true → rhoY f X k n = rhoY f X j n := fun n hn => by
  have hn : (Nat.ble n 3 || Nat.ble 7 n) = true := hn
  match n, hn with
  | 0, _ => rfl
  | 1, _ => rfl
  | 2, _ => rfl
  | 3, _ => rfl
  | _ + 7, _ => rfl
theorem rounds_Y {D : LoopD} {k : Nat} (hk : InvY k) : ∀ q, q ∈ MY → q.1.holds (rhoY f X k) → SmOk SY (rhoY f X) InvY (fun k => 8 - k) D (fun _ => 0) k q.2 := by
  have hk' : k ≤ 8 := hk
  unfold MY
  rw [all_cons, all_cons, all_cons, all_cons]
  have cat : tY X (k + 1) = UInt8.ofNat (48 + X / 10 ^ k % 10) :: tY X k → (SE.cat chrE (.svar 5)).text (rhoY f X k) = tx (tY X (k + 1)) := fun h => by
    show chrE.text (rhoY f X k) ++ tx (tY X k) = _
    rw [tYc hX, tx_append, h]
    rfl
  have go : k < 8 → ∀ e : SE, e.text (rhoY f X k) = tx (tY X (k + 1)) → SmOk SY (rhoY f X) InvY (fun k => 8 - k) D (fun _ => 0) k (.next [(4, .int .u64, quoE), (5, .str, e), (6, .int .i64, .bin .add .i64 (.ivar .i64 6) (.int .i64 1))]) := fun h e he =>
    ⟨k + 1, h, (by show 8 - (k + 1) < 8 - k; omega), sameY k (k + 1), upY hX h e he, rfl⟩
  refine ⟨fun hp => ?_, fun hp => ?_, fun hp => ?_, fun hp => ?_, fun _ h => by simp at h⟩
  · simp only [h_cons, h_nil, t_eql, t_lss, n_int, nYr hX, nY6 hk', if_true, Bool.false_eq_true, if_false] at hp
    obtain ⟨h1, h2, _⟩ := hp
    refine go (by omega) _ (cat ?_)
    rw [tY, if_neg]
    intro h
    exact h1 (by rw [h.1]; rfl)
  · simp only [h_cons, h_nil, t_eql, t_lss, n_int, nYr hX, nY6 hk', tYe, if_true, Bool.false_eq_true, if_false] at hp
    obtain ⟨h1, h3, h2, _⟩ := hp
    refine go (by omega) _ (cat ?_)
    rw [tY, if_neg]
    intro h
    rw [h.2] at h1
    exact absurd h1 (by simp)
  · simp only [h_cons, h_nil, t_eql, t_lss, n_int, nYr hX, nY6 hk', tYe, if_true, Bool.false_eq_true, if_false] at hp
    obtain ⟨h1, h3, h2, _⟩ := hp
    have h0 : tY X k = [] := by simpa using h1
    refine go (by omega) _ ?_
    show tx (tY X k) = _
    rw [tY, if_pos ⟨by omega, h0⟩, h0]
  · simp only [h_cons, h_nil, t_lss, n_int, nY6 hk', Bool.false_eq_true, if_false] at hp
    obtain rfl : k = 8 := by omega
    refine ⟨rfl, ?_⟩
    unfold UpdOk
    rw [all_cons]
    exact ⟨rfl, fun _ h => by simp at h⟩
end
theorem fn13 : ∃ fn c, tb.func 13 = some fn ∧ fn.body = some c ∧ fn.ntmps = 51 ∧ loopsOf c = [bodyY] := ⟨Tryd.f13, _, by kernel_rfl, rfl, by kernel_rfl, by kernel_rfl⟩
theorem code_Y : codeOk 51 bodyY = true := by kernel_rfl
theorem loops_Y : loopsOf bodyY = [] := by kernel_rfl
def startE : SE := .bin .mul .u64 (.int .u64 390625) (.bin .rem .u64 (.ivar .u64 2) (.int .u64 256))
def eY : LoopE := { key := 512, hd := hdY, ts := [5, 6, 7], start := [(4, .int .u64, startE), (5, .str, .str ⟨#[]⟩), (6, .int .i64, .int .i64 0)], S := SY, tree := .node (.cmp .lss (.len (.svar 7)) (.int .i64 100)) (.leaf (.exit 0) exY) (.leaf .ret exY) }
def rcY (r : Nat → Value) := outsF (callF kn0 Tryd.prog (tbY.atS r spY (lpOf [eY])) 300 300 [] 13 [jv 0] H0)

def len3E : SE := .cmp .lss (.len (.svar 3)) (.int .i64 100)
def len7E : SE := .cmp .lss (.len (.svar 7)) (.int .i64 100)
def fracE : SE := .cmp .eql (.bin .rem .u64 (.ivar .u64 2) (.int .u64 256)) (.int .u64 0)
def ngE : SE := .cmp .lss (.ivar .i32 0) (.int .i32 0)
def MYf : List (PC × Bool × List (STy × SE)) :=
  [([(ngE, true), (len7E, true), (fracE, false), (len3E, true)], false, [(.str, .cat (.str ⟨#[45]⟩) (.cat (.cat (.svar 3) (.str ⟨#[46]⟩)) (.svar 7)))]),
   ([(ngE, false), (len7E, true), (fracE, false), (len3E, true)], false, [(.str, .cat (.cat (.svar 3) (.str ⟨#[46]⟩)) (.svar 7))]),
   ([(len7E, false), (fracE, false), (len3E, true)], false, [(.str, .str ⟨#[]⟩)]),
   ([(ngE, true), (fracE, true), (len3E, true)], false, [(.str, .cat (.str ⟨#[45]⟩) (.svar 3))]),
   ([(ngE, false), (fracE, true), (len3E, true)], false, [(.str, .svar 3)])]
theorem run_Yf (r : Nat → Value) : rcY r = some MYf := by kernel_rfl
/-- The fraction in units of 10^-8. -/
def fX (f : Int) : Nat := (ab f % 256).toNat * 390625
section
variable {f : Int} (h1 : -2147483648 ≤ f) (h2 : f ≤ 2147483647)
include h1 h2
omit h1 h2 in
theorem fX_le : fX f ≤ 99609375 := by unfold fX; omega
theorem nY0 (X k : Nat) : (SE.ivar .i32 0).num (rhoY f X k) = f := wid_i32 _ h1 h2
theorem nYc (X k : Nat) : eC0.num (rhoY f X k) = f := by unfold eC0; rw [n_conv, nY0 h1 h2]; exact wid_i64 _ (by omega) (by omega)
theorem nY2 (X k : Nat) : (SE.ivar .u64 2).num (rhoY f X k) = ab f := wid_u64 _ (abV h1 h2).1 (by have := (abV h1 h2).2; omega)
omit h1 h2 in
theorem nY3 (X k : Nat) : (SE.len (.svar 3)).num (rhoY f X k) = ((Lib.decDigits (ab f / 256).toNat).length : Int) := by
  show ((tx (Lib.decDigits (ab f / 256).toNat)).size : Int) = _
  rw [size_tx]
theorem dd_len : (Lib.decDigits (ab f / 256).toNat).length < 100 := by
  have ha := abV h1 h2
  have := Go.Dec.dec_len_le 19 (ab f / 256).toNat (by omega)
  omega
theorem nYd (X k : Nat) : (SE.bin .quo .u64 (.ivar .u64 2) (.int .u64 256)).num (rhoY f X k) = (((ab f / 256).toNat : Nat) : Int) := by
  have ha := abV h1 h2
  rw [n_quo, if_neg (by rw [n_int]; decide), n_int, nY2 h1 h2, Int.tdiv_eq_ediv_of_nonneg ha.1, wid_u64 _ (by omega) (by omega)]
  omega
theorem nYm (X k : Nat) : (SE.bin .rem .u64 (.ivar .u64 2) (.int .u64 256)).num (rhoY f X k) = (((ab f % 256).toNat : Nat) : Int) := by
  have ha := abV h1 h2
  rw [n_rem, if_neg (by rw [n_int]; decide), n_int, nY2 h1 h2, Int.tmod_eq_emod_of_nonneg ha.1]
  omega
theorem entries_Y (X k : Nat) : ∀ e, e ∈ [eAb, eDg] → EntryOk Tryd.prog tb.glob (rhoY f X k) e := by
  have ha := abV h1 h2
  rw [all_cons, all_cons]
  refine ⟨⟨known35, rfl, rfl, fun q hq => by simp [eAb] at hq, ?_⟩, ⟨⟨Tryd.f36, Tryd.func36, by kernel_rfl, by kernel_rfl⟩, rfl, rfl, ?_, ?_⟩, fun _ h => by simp at h⟩
  · show Fnc _ _ 35 #[Value.int .i64 (eC0.num (rhoY f X k))] (Value.int .u64 ((SE.ivar .u64 2).num (rhoY f X k)))
    rw [nYc h1 h2, nY2 h1 h2]
    exact abs_fnc (.inl rfl) (by omega) (by omega)
  · intro q hq
    rw [List.mem_singleton.1 hq, t_lss, n_int, nY3]
    simp only [if_true]
    have := dd_len h1 h2
    omega
  · show Fnc _ _ 36 #[Value.int .u64 ((SE.bin .quo .u64 (.ivar .u64 2) (.int .u64 256)).num (rhoY f X k))] (.string (tx (Lib.decDigits (ab f / 256).toNat)))
    rw [nYd h1 h2]
    exact digits_fnc (by omega)
theorem spec_Y (X k : Nat) : SpecOk Tryd.prog (tbY.atS (rhoY f X k) spY noLp) := spOf_ok (tb := tbY) (entries_Y h1 h2 X k)
theorem known_Y {k : Nat} (hk : InvY k) : SoundAt Tryd.prog (tbY.atS (rhoY f (fX f) k) spY noLp) 51 (.code (.loop bodyY)) hdY [(.exit 0, { env := exY, h := hdY.h })] :=
  loop_known (D := DY) (out := fun _ => 0) (tbO_ok _) (tbO_wf _) (fun x => spec_Y h1 h2 (fX f) x) (by omega) code_Y (fun x d hd => by rw [loops_Y] at hd; simp at hd) (by kernel_rfl) (by kernel_rfl) (by kernel_rfl)
    (kn := kn0) (n0 := 300) (n1 := 300) (n2 := 300) (fun x => kn_none) (pc := pcY) (fun k hk => addPC_ok (PC.holds_nil _) (by
      have hk : k ≤ 8 := hk
      have := tY_len (fX f) k
      rw [t_lss, n_int, nY5]
      simp only [if_true]
      omega)) (fun r => run_Y r) (fun x hx => rounds_Y fX_le hx) (fun x hx => by show 0 < 1; omega) k hk
omit h1 h2 in
theorem len7 (X : Nat) : len7E.truth (rhoY f X 0) = true := by
  have := tY_len X 8
  unfold len7E
  rw [t_lss, n_int]
  have e : (SE.len (.svar 7)).num (rhoY f X 0) = ((tY X 8).length : Int) := by
    show ((tx (tY X 8)).size : Int) = _
    rw [size_tx]
  rw [e]
  simp only [if_true]
  omega
theorem specL_Y : SpecOk Tryd.prog (tbY.atS (rhoY f (fX f) 0) spY (lpOf [eY])) :=
  specL_of (spec_Y h1 h2 (fX f) 0) (fun g fn c hfn hc d hd e he hk => by
    obtain ⟨hf, hfn⟩ := tbO_func hfn
    obtain rfl : g = 13 := Nat.eq_of_beq_eq_true hf
    obtain ⟨fn', c', h1', h2', h3, h4⟩ := fn13
    obtain rfl : fn = fn' := Option.some.inj (hfn.symm.trans h1')
    obtain rfl : c = c' := Option.some.inj (hc.symm.trans h2')
    rw [h4, List.mem_singleton] at hd
    subst hd
    rw [List.mem_singleton.1 he, h3]
    refine ⟨?_, ?_⟩
    · show UpdOk _ _ [(4, .int .u64, startE), (5, .str, .str ⟨#[]⟩), (6, .int .i64, .int .i64 0)]
      unfold UpdOk
      rw [all_cons, all_cons, all_cons]
      refine ⟨upd_F ?_ (nY4 (fX_le) 0), rfl, rfl, fun _ h => by simp at h⟩
      have := fX_le (f := f)
      unfold startE
      rw [n_mul, n_int, nYm h1 h2, wid_u64 _ (by omega) (by omega)]
      unfold fX
      rw [Nat.pow_zero, Nat.div_one]
      omega
    · have hk := known_Y h1 h2 (k := 0) (Nat.zero_le _)
      have e : (eY.tree.eval (rhoY f (fX f) 0)) = (.exit 0, exY) := by
        show (if len7E.truth (rhoY f (fX f) 0) then _ else _) = _
        rw [len7]
        rfl
      rw [e]
      exact hk)
theorem neg_dec (b : Bool) (h : ngE.truth (rhoY f (fX f) 0) = b) : decide (f < 0) = b := by
  unfold ngE at h
  rw [(truth_cmp _ _ _).2.2.1, nY0 h1 h2] at h
  exact h
theorem frac_dec (b : Bool) (h : fracE.truth (rhoY f (fX f) 0) = b) : decide ((ab f % 256).toNat = 0) = b := by
  unfold fracE at h
  rw [(truth_cmp _ _ _).1, nYm h1 h2, n_int] at h
  rw [← h]
  cases hd : decide ((ab f % 256).toNat = 0) with
  | true => rw [of_decide_eq_true hd]; rfl
  | false =>
    have := of_decide_eq_false hd
    symm
    rw [beq_eq_false_iff_ne]
    omega
omit h1 h2 in
theorem tY_r (h : (ab f % 256).toNat ≠ 0) : tY (fX f) 8 = fdig (ab f % 256).toNat := tY_fdig ⟨(ab f % 256).toNat, by omega⟩ h
/-- **The reference's Format.** -/
theorem rformat_fnc : Fnc Tryd.prog tb.glob 13 #[.int .i32 f] (.string (tx (textF f))) := by
  have := fnc_run (tb := tbY) (tbO_ok _) (tbO_wf _) (specL_Y h1 h2) (kn := kn0) (n0 := 300) (n1 := 300) kn_none (PC.holds_nil _) (f := 13) (args := [jv 0]) (by rfl) (run_Yf _) (res := .string (tx (textF f))) (by
    unfold MYf
    rw [all_cons, all_cons, all_cons, all_cons, all_cons]
    refine ⟨fun hp => ?_, fun hp => ?_, fun hp => ?_, fun hp => ?_, fun hp => ?_, fun _ h => by simp at h⟩
    · simp only [h_cons, h_nil, and_true] at hp
      obtain ⟨g1, _, g2, _⟩ := hp
      have g1 := of_decide_eq_true (neg_dec h1 h2 _ g1)
      have g2 := of_decide_eq_false (frac_dec h1 h2 _ g2)
      show Value.string ((⟨#[45]⟩ : ByteArray) ++ ((tx (Lib.decDigits (ab f / 256).toNat) ++ (⟨#[46]⟩ : ByteArray)) ++ tx (tY (fX f) 8))) = _
      rw [tY_r g2, show (⟨#[45]⟩ : ByteArray) = tx [45] from rfl, show (⟨#[46]⟩ : ByteArray) = tx [46] from rfl, tx_append, tx_append, tx_append]
      unfold textF textL
      rw [decide_eq_true g1, if_pos rfl, if_neg g2, List.append_assoc]
      rfl
    · simp only [h_cons, h_nil, and_true] at hp
      obtain ⟨g1, _, g2, _⟩ := hp
      have g1 := of_decide_eq_false (neg_dec h1 h2 _ g1)
      have g2 := of_decide_eq_false (frac_dec h1 h2 _ g2)
      show Value.string ((tx (Lib.decDigits (ab f / 256).toNat) ++ (⟨#[46]⟩ : ByteArray)) ++ tx (tY (fX f) 8)) = _
      rw [tY_r g2, show (⟨#[46]⟩ : ByteArray) = tx [46] from rfl, tx_append, tx_append]
      unfold textF textL
      rw [decide_eq_false g1, if_neg (by simp), if_neg g2, List.append_assoc]
      rfl
    · have := hp (len7E, false) List.mem_cons_self
      rw [len7] at this
      exact absurd this (by simp)
    · simp only [h_cons, h_nil, and_true] at hp
      obtain ⟨g1, g2, _⟩ := hp
      have g1 := of_decide_eq_true (neg_dec h1 h2 _ g1)
      have g2 := of_decide_eq_true (frac_dec h1 h2 _ g2)
      show Value.string ((⟨#[45]⟩ : ByteArray) ++ tx (Lib.decDigits (ab f / 256).toNat)) = _
      rw [show (⟨#[45]⟩ : ByteArray) = tx [45] from rfl, tx_append]
      unfold textF textL
      rw [decide_eq_true g1, if_pos rfl, if_pos g2, List.append_nil]
    · simp only [h_cons, h_nil, and_true] at hp
      obtain ⟨g1, g2, _⟩ := hp
      have g1 := of_decide_eq_false (neg_dec h1 h2 _ g1)
      have g2 := of_decide_eq_true (frac_dec h1 h2 _ g2)
      show Value.string (tx (Lib.decDigits (ab f / 256).toNat)) = _
      unfold textF textL
      rw [decide_eq_false g1, if_neg (by simp), if_pos g2, List.append_nil]
      rfl)
  have e : ([jv 0].map (V.at1 (rhoY f (fX f) 0))).toArray = #[.int .i32 f] := by
    show #[Value.int .i32 ((SE.ivar .i32 0).num (rhoY f (fX f) 0))] = _
    rw [nY0 h1 h2]
  rwa [e] at this
end
end
end Go.Proofs.YtkjfpjammlihpaaDoor
