/- Texts of digits: the tests of both sides, the program's fraction, as contracts. -/
import Derived.Test.YtkjfpjammlihpaaDoorFxX
import Derived.Test.YtkjfpjammlihpaaDoorFxPq
import Derived.Test.YtkjfpjammlihpaaDoorSxQ
set_option linter.unusedVariables false
set_option linter.unusedSimpArgs false
namespace Go.Proofs.YtkjfpjammlihpaaDoor
open Go.Sx Go.ChangeShapes Go.WideShapes Go.ChangeAt Go.RowKit Go.Dec
noncomputable section

/-- The tables of some functions alone. -/
def tbO (p : Nat → Bool) : Tb := { tb with func := fun f => if p f then tb.func f else none }
theorem tbO_func {p : Nat → Bool} {f : Nat} {fn : Func} (h : (tbO p).func f = some fn) : p f = true ∧ tb.func f = some fn := by
  have h : (if p f then tb.func f else none) = some fn := h
  split at h
  · exact ⟨‹_›, h⟩
  · exact absurd h (by simp)
theorem tbO_ok (p : Nat → Bool) : (tbO p).Ok Tryd.prog := ⟨fun f fn h => tb_ok.func _ _ (tbO_func h).2, tb_ok.desc, tb_ok.info, tb_ok.mixed⟩
theorem tbO_wf (p : Nat → Bool) : (tbO p).Wf := fun f fn c h1 h2 => tb_wf _ _ _ (tbO_func h1).2 h2
theorem size_tx (l : List UInt8) : (tx l).size = l.length := by simp [tx, ByteArray.size]
theorem byte_tx (l : List UInt8) {x : Nat} (h : x < l.length) : byteAt (tx l) (x : Int) = ((l[x]'h).toNat : Int) := by
  unfold byteAt
  rw [if_pos (by omega)]
  have e : (tx l)[(x : Int).toNat]? = some (l[x]'h) := by
    have h2 : x < (tx l).size := by rw [size_tx]; exact h
    simp only [Int.toNat_natCast]
    rw [getElem?_pos (tx l) x h2]
    rfl
  rw [e]
def xv (n : Nat) : V := .sym .str (.svar n)

/-! ### f37 -/
def restN : List (Nat × V) := [(0, xv 0), (2, .val (.bool false))] ++ tops ((List.range 16).map fun j => 4 + j)
def hdN : St := { env := mkE (restN ++ [(3, iv 1)]), h := H0 }
def exN : Env := mkE (restN ++ [(3, .top)])
def DN : LoopD := { hd := hdN, ts := [3], outs := [(.exit 0, exN, []), (.ret, exN, [])] }
def SN (n : Nat) : Bool := Nat.beq n 0 || Nat.beq n 9
def bodyN : Code := match (tb.func 37).bind fun fn => fn.body with
  | some c => (loopsOf c).headD .skip
  | none => .skip
def pcN : PC := addPC (.cmp .leq (.int .i64 0) (.ivar .i64 1)) true []
def tbN : Tb := tbO fun f => Nat.beq f 37
def rnN (r : Nat → Value) := sums SN DN (execF kn0 (callF kn0 Tryd.prog (tbN.atS r noSp noLp) 300 300) Tryd.prog (tbN.atS r noSp noLp) 300 (.code bodyN) pcN DN.hd)
theorem body_N : (match (tb.func 37).bind fun fn => fn.body with | some c => loopsOf c | none => []) = [bodyN] := by kernel_rfl

def MN : List (PC × Sm) :=
  [([(.cmp .lss (.byte (.svar 0) (.ivar .i64 1)) (.int .u8 48), true), (.cmp .lss (.ivar .i64 1) (.len (.svar 0)), true), (.cmp .lss (.ivar .i64 1) (.int .i64 0), false)], .out 1 []),
   ([(.cmp .lss (.int .u8 57) (.byte (.svar 0) (.ivar .i64 1)), true), (.cmp .lss (.byte (.svar 0) (.ivar .i64 1)) (.int .u8 48), false), (.cmp .lss (.ivar .i64 1) (.len (.svar 0)), true), (.cmp .lss (.ivar .i64 1) (.int .i64 0), false)], .out 1 []),
   ([(.cmp .lss (.int .u8 57) (.byte (.svar 0) (.ivar .i64 1)), false), (.cmp .lss (.byte (.svar 0) (.ivar .i64 1)) (.int .u8 48), false), (.cmp .lss (.ivar .i64 1) (.len (.svar 0)), true), (.cmp .lss (.ivar .i64 1) (.int .i64 0), false)],
      .next [(1, .int .i64, .bin .add .i64 (.ivar .i64 1) (.int .i64 1))]),
   ([(.cmp .lss (.ivar .i64 1) (.len (.svar 0)), false), (.cmp .lss (.ivar .i64 1) (.int .i64 0), false)], .out 0 [])]
theorem run_N (r : Nat → Value) : rnN r = some MN := by kernel_rfl
def rhoN (l : List UInt8) (x : Nat) (n : Nat) : Value := if Nat.beq n 0 then .string (tx l) else if Nat.beq n 1 then .int .i64 x else .bool (l.all dig)
def InvN (l : List UInt8) (x : Nat) : Prop := x ≤ l.length ∧ ∀ (j : Nat) (h : j < l.length), j < x → dig l[j] = true
def outN (l : List UInt8) (_ : Nat) : Nat := if l.all dig then 0 else 1
section
variable {l : List UInt8} (hl : l.length ≤ 1000)
theorem nNL (x : Nat) : (SE.len (.svar 0)).num (rhoN l x) = (l.length : Int) := by
  show ((tx l).size : Int) = _
  rw [size_tx]
include hl
theorem nN1 {x : Nat} (hx : x ≤ l.length) : (SE.ivar .i64 1).num (rhoN l x) = x := wid_i64 _ (by omega) (by omega)
theorem nNB {x : Nat} (hx : x < l.length) : (SE.byte (.svar 0) (.ivar .i64 1)).num (rhoN l x) = ((l[x]'hx).toNat : Int) := by
  show byteAt (tx l) ((SE.ivar .i64 1).num (rhoN l x)) = _
  rw [nN1 hl (by omega), byte_tx l hx]
omit hl in
theorem bad_N {x : Nat} (hx : x < l.length) (h : dig l[x] = false) : outN l x = 1 := by
  unfold outN
  rw [if_neg]
  intro ha
  have := List.all_eq_true.1 ha _ (List.getElem_mem hx)
  rw [h] at this
  exact absurd this (by simp)
theorem rounds_N {D : LoopD} {x : Nat} (hx : InvN l x) : ∀ q, q ∈ MN → q.1.holds (rhoN l x) → SmOk SN (rhoN l) (InvN l) (fun x => l.length - x) D (outN l) x q.2 := by
  have hx1 := hx.1
  unfold MN
  rw [all_cons, all_cons, all_cons, all_cons]
  refine ⟨fun hp => ?_, fun hp => ?_, fun hp => ?_, fun hp => ?_, fun _ h => by simp at h⟩
  · simp only [h_cons, h_nil, t_lss, n_int, nN1 hl hx1, nNL, if_true] at hp
    obtain ⟨h1, h2, _⟩ := hp
    have hlt : x < l.length := by omega
    rw [nNB hl hlt] at h1
    refine ⟨(bad_N hlt ?_).symm, fun u hu => by simp at hu⟩
    cases hd : dig l[x] with
    | false => rfl
    | true => have := (dig_iff _).1 hd; omega
  · simp only [h_cons, h_nil, t_lss, n_int, nN1 hl hx1, nNL, if_true, Bool.false_eq_true, if_false] at hp
    obtain ⟨h1, h3, h2, _⟩ := hp
    have hlt : x < l.length := by omega
    rw [nNB hl hlt] at h1
    refine ⟨(bad_N hlt ?_).symm, fun u hu => by simp at hu⟩
    cases hd : dig l[x] with
    | false => rfl
    | true => have := (dig_iff _).1 hd; omega
  · simp only [h_cons, h_nil, t_lss, n_int, nN1 hl hx1, nNL, if_true, Bool.false_eq_true, if_false] at hp
    obtain ⟨h1, h3, h2, _⟩ := hp
    have hlt : x < l.length := by omega
    rw [nNB hl hlt] at h1 h3
    refine ⟨x + 1, ⟨hlt, fun j hj hjx => ?_⟩, (by show l.length - (x + 1) < l.length - x; omega), fun n hn => ?_, fun u hu => ?_, rfl⟩
    · by_cases h : j = x
      · subst h
        exact (dig_iff _).2 ⟨by omega, by omega⟩
      · exact hx.2 j hj (by omega)
    · have hn : (Nat.beq n 0 || Nat.beq n 9) = true := hn
      rw [Bool.or_eq_true] at hn
      rcases hn with hn | hn <;> · have := Nat.eq_of_beq_eq_true hn; subst this; rfl
    · rw [List.mem_singleton.1 hu]
      show Value.int .i64 ((SE.bin .add .i64 (.ivar .i64 1) (.int .i64 1)).num (rhoN l x)) = Value.int .i64 ((SE.ivar .i64 1).num (rhoN l (x + 1)))
      rw [n_add, n_int, nN1 hl hx1, nN1 hl (x := x + 1) (by omega), wid_i64 _ (by omega) (by omega)]
      rfl
  · simp only [h_cons, h_nil, t_lss, n_int, nN1 hl hx1, nNL, if_true, Bool.false_eq_true, if_false] at hp
    refine ⟨?_, fun u hu => by simp at hu⟩
    show 0 = outN l x
    unfold outN
    rw [if_pos]
    rw [List.all_eq_true]
    intro b hb
    obtain ⟨j, hj, rfl⟩ := List.getElem_of_mem hb
    exact hx.2 j hj (by omega)
end
theorem base_O (p : Nat → Bool) (ρ : Nat → Value) : SpecOk Tryd.prog ((tbO p).atS ρ noSp noLp) := SpecOk.none (fun _ _ => rfl) (fun _ _ => rfl)
def treeN : OTree := .node (.bvar 9) (.leaf (.exit 0) exN) (.leaf .ret exN)
def eN : LoopE := { key := 192, hd := hdN, ts := [3], start := [(1, .int .i64, .int .i64 0)], S := SN, tree := treeN }
theorem fn37 : ∃ fn c, tb.func 37 = some fn ∧ fn.body = some c ∧ fn.ntmps = 22 ∧ loopsOf c = [bodyN] := ⟨Tryd.f37, _, by kernel_rfl, rfl, by kernel_rfl, by kernel_rfl⟩
theorem code_N : codeOk 22 bodyN = true := by kernel_rfl
theorem loops_N : loopsOf bodyN = [] := by kernel_rfl
theorem inv0_N (l : List UInt8) : InvN l 0 := ⟨by omega, fun j hj h => by omega⟩
theorem pc_N {l : List UInt8} (hl : l.length ≤ 1000) {x : Nat} (hx : InvN l x) : pcN.holds (rhoN l x) := addPC_ok (PC.holds_nil _) (by
  rw [t_leq, n_int, nN1 hl hx.1]
  simp only [if_true]
  omega)
theorem known_N {l : List UInt8} (hl : l.length ≤ 1000) {x : Nat} (hx : InvN l x) : SoundAt Tryd.prog (tbN.atS (rhoN l x) noSp noLp) 22 (.code (.loop bodyN)) hdN [(((DN.outs.getD (outN l x) (.normal, .leaf, [])).1), { env := (DN.outs.getD (outN l x) (.normal, .leaf, [])).2.1, h := hdN.h })] :=
  loop_known (D := DN) (tbO_ok _) (tbO_wf _) (fun x => base_O _ _) (by omega) code_N (fun x d hd => by rw [loops_N] at hd; simp at hd) (by kernel_rfl) (by kernel_rfl) (by kernel_rfl)
    (kn := kn0) (n0 := 300) (n1 := 300) (n2 := 300) (fun x => kn_none) (pc := pcN) (fun x hx => pc_N hl hx) (fun r => run_N r) (fun x hx => rounds_N hl hx) (fun x hx => by
      show outN l x < 2
      unfold outN
      split <;> omega) x hx
theorem tree_N (l : List UInt8) {hd : St} {o1 o2 : Ex × Env × List Nat} {t : OTree} (ht : t = .node (.bvar 9) (.leaf o1.1 o1.2.1) (.leaf o2.1 o2.2.1)) :
    [((([o1, o2].getD (outN l 0) (.normal, .leaf, [])).1), ({ env := ([o1, o2].getD (outN l 0) (.normal, .leaf, [])).2.1, h := hd.h } : St))] = [((t.eval (rhoN l 0)).1, { env := (t.eval (rhoN l 0)).2, h := hd.h })] := by
  subst ht
  unfold outN OTree.eval
  rw [show (SE.bvar 9).truth (rhoN l 0) = l.all dig from rfl]
  cases l.all dig <;> rfl
theorem start_N {l : List UInt8} : UpdOk (rhoN l 0) (rhoN l 0) [(1, .int .i64, .int .i64 0)] := fun u hu => by
  rw [List.mem_singleton.1 hu]
  rfl
theorem specL_N {l : List UInt8} (hl : l.length ≤ 1000) : SpecOk Tryd.prog (tbN.atS (rhoN l 0) noSp (lpOf [eN])) :=
  specL_of (base_O _ _) (fun f fn c hfn hc d hd e he hk => by
    obtain ⟨hf, hfn⟩ := tbO_func hfn
    obtain rfl : f = 37 := Nat.eq_of_beq_eq_true hf
    obtain ⟨fn', c', h1, h2, h3, h4⟩ := fn37
    obtain rfl : fn = fn' := Option.some.inj (hfn.symm.trans h1)
    obtain rfl : c = c' := Option.some.inj (hc.symm.trans h2)
    rw [h4, List.mem_singleton] at hd
    subst hd
    rw [List.mem_singleton.1 he, h3]
    exact ⟨start_N, (tree_N l (hd := hdN) (o1 := (.exit 0, exN, [])) (o2 := (.ret, exN, [])) rfl) ▸ known_N hl (inv0_N l)⟩)
def rcN (r : Nat → Value) := outsF (callF kn0 Tryd.prog (tbN.atS r noSp (lpOf [eN])) 300 300 [] 37 [xv 0] H0)
theorem run_cN (r : Nat → Value) : rcN r = some [([(.bvar 9, true)], false, [(.bool, .not (.eqs (.svar 0) (.str ⟨#[]⟩)))]), ([(.bvar 9, false)], false, [(.bool, .bool false)])] := by kernel_rfl
theorem tx_empty (l : List UInt8) : (tx l == (⟨#[]⟩ : ByteArray)) = l.isEmpty := by
  cases l with
  | nil => exact (bytes_beq' _ _).2 rfl
  | cons a l =>
    cases h : (tx (a :: l) == (⟨#[]⟩ : ByteArray)) with
    | false => rfl
    | true =>
      have := congrArg ByteArray.size ((bytes_beq' _ _).1 h)
      rw [size_tx] at this
      exact absurd this (by simp [ByteArray.size])
theorem isNum_all {l : List UInt8} : isNum l = (!l.isEmpty && l.all dig) := rfl
/-- **The reference's number.** -/
theorem number_fnc {l : List UInt8} (hl : l.length ≤ 1000) : Fnc Tryd.prog tb.glob 37 #[.string (tx l)] (.bool (isNum l)) := by
  have := fnc_run (tb := tbN) (tbO_ok _) (tbO_wf _) (specL_N hl) (kn := kn0) (n0 := 300) (n1 := 300) kn_none (PC.holds_nil _) (f := 37) (args := [xv 0]) (by rfl) (run_cN _) (res := .bool (isNum l)) (by
    rw [all_cons, all_cons]
    refine ⟨fun hp => ?_, fun hp => ?_, fun _ h => by simp at h⟩
    · have h : (SE.bvar 9).truth (rhoN l 0) = true := hp _ List.mem_cons_self
      have h : l.all dig = true := h
      show Value.bool (!(tx l == (⟨#[]⟩ : ByteArray))) = _
      rw [tx_empty, isNum_all, h, Bool.and_true]
    · have h : (SE.bvar 9).truth (rhoN l 0) = false := hp _ List.mem_cons_self
      have h : l.all dig = false := h
      show Value.bool false = _
      rw [isNum_all, h, Bool.and_false])
  exact this

/-! ### f32 -/
def restP : List (Nat × V) := [(0, xv 0), (2, .val (.bool false)), (4, xv 0), (5, .sym (.int .i64) (.len (.svar 0)))] ++ tops (3 :: (List.range 13).map fun j => 7 + j)
def hdP : St := { env := mkE (restP ++ [(6, iv 1)]), h := H0 }
def exP : Env := mkE (restP ++ [(6, .top)])
def DP : LoopD := { hd := hdP, ts := [6], outs := [(.exit 0, exP, []), (.ret, exP, [])] }
def bodyP : Code := match (tb.func 32).bind fun fn => fn.body with
  | some c => (loopsOf c).headD .skip
  | none => .skip
def tbP : Tb := tbO fun f => Nat.beq f 32
def rnP (r : Nat → Value) := sums SN DP (execF kn0 (callF kn0 Tryd.prog (tbP.atS r noSp noLp) 300 300) Tryd.prog (tbP.atS r noSp noLp) 300 (.code bodyP) pcN DP.hd)
theorem run_P (r : Nat → Value) : rnP r = some MN := by kernel_rfl
def treeP : OTree := .node (.bvar 9) (.leaf (.exit 0) exP) (.leaf .ret exP)
def keyP : Nat := 192
theorem key_P : loopK bodyP = keyP := by kernel_rfl
def eP : LoopE := { key := keyP, hd := hdP, ts := [6], start := [(1, .int .i64, .int .i64 0)], S := SN, tree := treeP }
theorem fn32 : ∃ fn c, tb.func 32 = some fn ∧ fn.body = some c ∧ fn.ntmps = 23 ∧ loopsOf c = [bodyP] := ⟨Tryd.f32, _, by kernel_rfl, rfl, by kernel_rfl, by kernel_rfl⟩
theorem code_P : codeOk 23 bodyP = true := by kernel_rfl
theorem loops_P : loopsOf bodyP = [] := by kernel_rfl
theorem known_P {l : List UInt8} (hl : l.length ≤ 1000) {x : Nat} (hx : InvN l x) : SoundAt Tryd.prog (tbP.atS (rhoN l x) noSp noLp) 23 (.code (.loop bodyP)) hdP [(((DP.outs.getD (outN l x) (.normal, .leaf, [])).1), { env := (DP.outs.getD (outN l x) (.normal, .leaf, [])).2.1, h := hdP.h })] :=
  loop_known (D := DP) (tbO_ok _) (tbO_wf _) (fun x => base_O _ _) (by omega) code_P (fun x d hd => by rw [loops_P] at hd; simp at hd) (by kernel_rfl) (by kernel_rfl) (by kernel_rfl)
    (kn := kn0) (n0 := 300) (n1 := 300) (n2 := 300) (fun x => kn_none) (pc := pcN) (fun x hx => pc_N hl hx) (fun r => run_P r) (fun x hx => rounds_N hl hx) (fun x hx => by
      show outN l x < 2
      unfold outN
      split <;> omega) x hx
theorem specL_P {l : List UInt8} (hl : l.length ≤ 1000) : SpecOk Tryd.prog (tbP.atS (rhoN l 0) noSp (lpOf [eP])) :=
  specL_of (base_O _ _) (fun f fn c hfn hc d hd e he hk => by
    obtain ⟨hf, hfn⟩ := tbO_func hfn
    obtain rfl : f = 32 := Nat.eq_of_beq_eq_true hf
    obtain ⟨fn', c', h1, h2, h3, h4⟩ := fn32
    obtain rfl : fn = fn' := Option.some.inj (hfn.symm.trans h1)
    obtain rfl : c = c' := Option.some.inj (hc.symm.trans h2)
    rw [h4, List.mem_singleton] at hd
    subst hd
    rw [List.mem_singleton.1 he, h3]
    exact ⟨start_N, (tree_N l (hd := hdP) (o1 := (.exit 0, exP, [])) (o2 := (.ret, exP, [])) rfl) ▸ known_P hl (inv0_N l)⟩)
def rcP (r : Nat → Value) := outsF (callF kn0 Tryd.prog (tbP.atS r noSp (lpOf [eP])) 300 300 [] 32 [xv 0] H0)
theorem run_cP (r : Nat → Value) : rcP r = some [([(.bvar 9, true)], false, [(.bool, .cmp .gtr (.len (.svar 0)) (.int .i64 0))]), ([(.bvar 9, false)], false, [(.bool, .bool false)])] := by kernel_rfl
theorem pos_empty (l : List UInt8) : decide ((l.length : Int) > 0) = !l.isEmpty := by
  cases l with
  | nil => rfl
  | cons a l =>
    have : ((a :: l).length : Int) > 0 := by simp
    simp only [this, decide_true, List.isEmpty_cons, Bool.not_false]
/-- **The program's plain.** -/
theorem plain_fnc {l : List UInt8} (hl : l.length ≤ 1000) : Fnc Tryd.prog tb.glob 32 #[.string (tx l)] (.bool (isNum l)) := by
  have := fnc_run (tb := tbP) (tbO_ok _) (tbO_wf _) (specL_P hl) (kn := kn0) (n0 := 300) (n1 := 300) kn_none (PC.holds_nil _) (f := 32) (args := [xv 0]) (by rfl) (run_cP _) (res := .bool (isNum l)) (by
    rw [all_cons, all_cons]
    refine ⟨fun hp => ?_, fun hp => ?_, fun _ h => by simp at h⟩
    · have h : (SE.bvar 9).truth (rhoN l 0) = true := hp _ List.mem_cons_self
      have h : l.all dig = true := h
      show Value.bool ((SE.cmp .gtr (.len (.svar 0)) (.int .i64 0)).truth (rhoN l 0)) = _
      rw [(truth_cmp _ _ _).2.2.2.2.1, nNL, n_int, pos_empty, isNum_all, h, Bool.and_true]
    · have h : (SE.bvar 9).truth (rhoN l 0) = false := hp _ List.mem_cons_self
      have h : l.all dig = false := h
      show Value.bool false = _
      rw [isNum_all, h, Bool.and_false])
  exact this
end
end Go.Proofs.YtkjfpjammlihpaaDoor

namespace Go.Proofs.YtkjfpjammlihpaaDoor
open Go.Sx Go.ChangeShapes Go.WideShapes Go.ChangeAt Go.RowKit Go.Dec
noncomputable section

/-- plain at a text: all digits, and some. -/
def eNum (f s b : Nat) : Entry := { f := f, args := [xv s], res := .sym .bool (.and (.bvar b) (.cmp .lss (.int .i64 0) (.len (.svar s)))) }
def restR : List (Nat × V) := [(0, xv 0), (2, .val (.int .u64 0)), (3, .val (.bool false)), (23, xv 0), (24, .sym (.int .i64) (.len (.svar 0)))] ++ tops (6 :: ((List.range 16).map fun j => 7 + j) ++ ((List.range 13).map fun j => 26 + j))
def hdR : St := { env := mkE (restR ++ [(4, uv 1), (5, uv 2), (25, iv 3)]), h := H0 }
def exR : Env := mkE (restR ++ [(4, uv 4), (5, uv 5), (25, .top)])
def DR : LoopD := { hd := hdR, ts := [4, 5, 25], outs := [(.exit 0, exR, [4, 5])] }
def SR (n : Nat) : Bool := Nat.beq n 0 || (Nat.ble 4 n)
def bodyR : Code := match (tb.func 33).bind fun fn => fn.body with
  | some c => (loopsOf c).headD .skip
  | none => .skip
def tbR : Tb := tbO fun f => Nat.beq f 33
def spR : Sp := spOf [eNum 32 0 10]
def pcR : PC := addPC (.cmp .leq (.int .i64 0) (.ivar .i64 3)) true []
def rnR (r : Nat → Value) := sums SR DR (execF kn0 (callF kn0 Tryd.prog (tbR.atS r spR noLp) 300 300) Tryd.prog (tbR.atS r spR noLp) 300 (.code bodyR) pcR DR.hd)
def keyR (_ : Nat → Value) : Nat := loopK bodyR
def fnR (_ : Nat → Value) : Option Nat := (tb.func 33).map (·.ntmps)

/-! ### Digits as the machine reads them -/
def dW (b : UInt8) : Nat := (b.toNat + 208) % 256
def valW (l : List UInt8) : Nat := l.foldl (fun n b => 10 * n + dW b) 0
theorem valW_snoc (l : List UInt8) (b : UInt8) : valW (l ++ [b]) = 10 * valW l + dW b := by
  unfold valW
  rw [List.foldl_append]
  rfl
theorem valW_take {l : List UInt8} {k : Nat} (h : k < l.length) : valW (l.take (k + 1)) = 10 * valW (l.take k) + dW l[k] := by
  rw [← List.take_append_getElem h, valW_snoc]
theorem dW_dig {b : UInt8} (h : dig b = true) : dW b = b.toNat - 48 := by
  obtain ⟨h1, h2⟩ := (dig_iff b).1 h
  unfold dW
  omega
theorem foldl_dig : ∀ (l : List UInt8) (n : Nat), l.all dig = true → l.foldl (fun n b => 10 * n + dW b) n = l.foldl (fun n b => 10 * n + (b.toNat - 48)) n
  | [], n, _ => rfl
  | b :: l, n, h => by
    simp only [List.all_cons, Bool.and_eq_true] at h
    simp only [List.foldl_cons]
    rw [dW_dig h.1]
    exact foldl_dig l _ h.2
theorem valW_eq {l : List UInt8} (h : l.all dig = true) : valW l = valL l := foldl_dig l 0 h
theorem valW_le {l : List UInt8} : ∀ k, k ≤ l.length → valW (l.take k) + 29 ≤ 29 * 10 ^ k
  | 0, _ => by simp [valW]
  | k + 1, h => by
    have ih := valW_le (l := l) k (by omega)
    rw [valW_take (show k < l.length by omega), Nat.pow_succ]
    have : dW l[k] < 256 := Nat.mod_lt _ (by decide)
    omega
theorem dW_num (b : UInt8) : IntKind.wrap .u64 (IntKind.wrap .u8 ((b.toNat : Int) - 48)) = (dW b : Int) := by
  have hb := b.toNat_lt
  rw [w_u64, w_u8]
  unfold dW
  omega
theorem pow10_le {k : Nat} (h : k ≤ 8) : 10 ^ k ≤ 100000000 := Nat.pow_le_pow_right (n := 10) (by decide) h

def MR : List (PC × Sm) :=
  [([(.cmp .lss (.ivar .i64 3) (.len (.svar 0)), true), (.cmp .lss (.ivar .i64 3) (.int .i64 0), false)],
      .next [(1, .int .u64, .bin .add .u64 (.bin .mul .u64 (.ivar .u64 1) (.int .u64 10)) (.conv .u64 (.bin .sub .u8 (.byte (.svar 0) (.ivar .i64 3)) (.int .u8 48)))), (2, .int .u64, .bin .mul .u64 (.ivar .u64 2) (.int .u64 10)), (3, .int .i64, .bin .add .i64 (.ivar .i64 3) (.int .i64 1))]),
   ([(.cmp .lss (.ivar .i64 3) (.len (.svar 0)), false), (.cmp .lss (.ivar .i64 3) (.int .i64 0), false)], .out 0 [(4, .int .u64, .ivar .u64 1), (5, .int .u64, .ivar .u64 2)])]
theorem run_R (r : Nat → Value) : rnR r = some MR := by kernel_rfl
def rhoR (l : List UInt8) (k : Nat) (n : Nat) : Value :=
  match n with
  | 0 => .string (tx l)
  | 1 => .int .u64 (valW (l.take k) : Nat)
  | 2 => .int .u64 ((10 ^ k : Nat) : Int)
  | 3 => .int .i64 k
  | 4 => .int .u64 (valW l : Nat)
  | 5 => .int .u64 ((10 ^ l.length : Nat) : Int)
  | _ => .bool (l.all dig)
def InvR (l : List UInt8) (k : Nat) : Prop := k ≤ l.length
section
variable {l : List UInt8} (hl : l.length ≤ 8)
theorem nRL (k : Nat) : (SE.len (.svar 0)).num (rhoR l k) = (l.length : Int) := by
  show ((tx l).size : Int) = _
  rw [size_tx]
include hl
theorem nR1 {k : Nat} (hk : k ≤ l.length) : (SE.ivar .u64 1).num (rhoR l k) = (valW (l.take k) : Int) := by
  have h1 := valW_le k hk
  have h2 := pow10_le (k := k) (by omega)
  exact wid_u64 _ (by omega) (by omega)
theorem nR2 {k : Nat} (hk : k ≤ l.length) : (SE.ivar .u64 2).num (rhoR l k) = ((10 ^ k : Nat) : Int) := by
  have h2 := Int.ofNat_le.2 (pow10_le (k := k) (by omega))
  exact wid_u64 _ (Int.natCast_nonneg _) (Int.le_trans h2 (by decide))
theorem nR3 {k : Nat} (hk : k ≤ l.length) : (SE.ivar .i64 3).num (rhoR l k) = k := wid_i64 _ (by omega) (by omega)
theorem nRB {k : Nat} (hk : k < l.length) : (SE.byte (.svar 0) (.ivar .i64 3)).num (rhoR l k) = ((l[k]'hk).toNat : Int) := by
  show byteAt (tx l) ((SE.ivar .i64 3).num (rhoR l k)) = _
  rw [nR3 hl (by omega), byte_tx l hk]
theorem nRD {k : Nat} (hk : k < l.length) : (SE.conv .u64 (.bin .sub .u8 (.byte (.svar 0) (.ivar .i64 3)) (.int .u8 48))).num (rhoR l k) = (dW (l[k]'hk) : Int) := by
  rw [n_conv, n_sub, nRB hl hk, n_int, dW_num]
theorem rounds_R {k : Nat} (hk : InvR l k) : ∀ q, q ∈ MR → q.1.holds (rhoR l k) → SmOk SR (rhoR l) (InvR l) (fun k => l.length - k) DR (fun _ => 0) k q.2 := by
  have hk' : k ≤ l.length := hk
  unfold MR
  rw [all_cons, all_cons]
  refine ⟨fun hp => ?_, fun hp => ?_, fun _ h => by simp at h⟩
  · simp only [h_cons, h_nil, t_lss, n_int, nR3 hl hk', nRL, if_true, Bool.false_eq_true, if_false] at hp
    have hlt : k < l.length := by omega
    have h1 := valW_le k hk'
    have h2 := pow10_le (k := k) (by omega)
    have hd : dW l[k] < 256 := Nat.mod_lt _ (by decide)
    refine ⟨k + 1, hlt, (by show l.length - (k + 1) < l.length - k; omega), fun n hn => ?_, ?_, rfl⟩
    · have hn : (Nat.beq n 0 || Nat.ble 4 n) = true := hn
      match n, hn with
      | 0, _ => rfl
      | 4, _ => rfl
      | 5, _ => rfl
      | _ + 6, _ => rfl
    · unfold UpdOk
      rw [all_cons, all_cons, all_cons]
      refine ⟨upd_F ?_ (nR1 hl hlt), upd_F ?_ (nR2 hl hlt), upd_F ?_ (nR3 hl hlt), fun _ h => by simp at h⟩
      · rw [n_add, n_mul, nR1 hl hk', n_int, nRD hl hlt, wid_u64 (_ * 10) (by omega) (by omega), wid_u64 _ (by omega) (by omega), valW_take hlt]
        omega
      · rw [n_mul, nR2 hl hk', n_int, wid_u64 _ (by omega) (by omega), Nat.pow_succ]
        omega
      · rw [n_add, n_int, nR3 hl hk', wid_i64 _ (by omega) (by omega)]
        omega
  · simp only [h_cons, h_nil, t_lss, n_int, nR3 hl hk', nRL, if_true, Bool.false_eq_true, if_false] at hp
    obtain rfl : k = l.length := by omega
    refine ⟨rfl, ?_⟩
    unfold UpdOk
    rw [all_cons, all_cons]
    refine ⟨?_, rfl, fun _ h => by simp at h⟩
    show Value.int .u64 ((SE.ivar .u64 1).num (rhoR l l.length)) = Value.int .u64 ((SE.ivar .u64 4).num (rhoR l l.length))
    rw [nR1 hl hk', List.take_length]
    have h1 := valW_le l.length hk'
    have h2 := pow10_le (k := l.length) (by omega)
    rw [List.take_length] at h1
    rw [show (SE.ivar .u64 4).num (rhoR l l.length) = (valW l : Int) from wid_u64 _ (by omega) (by omega)]
end
theorem num_entry {f : Nat} {ρ : Nat → Value} {s b : Nat} {l : List UInt8} (hf : f = 32 ∨ f = 37) (hl : l.length ≤ 1000) (h0 : ρ s = .string (tx l)) (hb : ρ b = .bool (l.all dig)) : EntryOk Tryd.prog tb.glob ρ (eNum f s b) where
  known := by
    rcases hf with rfl | rfl
    · exact ⟨Tryd.f32, Tryd.func32, by kernel_rfl, by kernel_rfl⟩
    · exact ⟨Tryd.f37, Tryd.func37, by kernel_rfl, by kernel_rfl⟩
  scal := rfl
  res := rfl
  facts := fun q hq => by simp [eNum] at hq
  fnc := by
    have e1 : (SE.svar s).val ρ .str = .string (tx l) := by show Value.string (textOf (ρ s)) = _; rw [h0]; rfl
    have e2 : (SE.and (.bvar b) (.cmp .lss (.int .i64 0) (.len (.svar s)))).val ρ .bool = .bool (isNum l) := by
      show Value.bool (truthOf (ρ b) && (SE.cmp .lss (.int .i64 0) (.len (.svar s))).truth ρ) = _
      rw [hb, (truth_cmp _ _ _).2.2.1, n_int]
      have e3 : (SE.len (.svar s)).num ρ = (l.length : Int) := by
        show ((textOf (ρ s)).size : Int) = _
        rw [h0]
        show ((tx l).size : Int) = _
        rw [size_tx]
      rw [e3]
      show Value.bool (l.all dig && decide ((0 : Int) < (l.length : Int))) = _
      rw [show decide ((0 : Int) < (l.length : Int)) = !l.isEmpty from pos_empty l, isNum_all, Bool.and_comm]
    show Fnc _ _ f #[(SE.svar s).val ρ .str] ((SE.and (.bvar b) (.cmp .lss (.int .i64 0) (.len (.svar s)))).val ρ .bool)
    rw [e1, e2]
    rcases hf with rfl | rfl
    · exact plain_fnc hl
    · exact number_fnc hl
theorem entries_R {l : List UInt8} (hl : l.length ≤ 1000) (k : Nat) : ∀ e, e ∈ [eNum 32 0 10] → EntryOk Tryd.prog tb.glob (rhoR l k) e := fun e he => by
  rw [List.mem_singleton.1 he]
  exact num_entry (.inl rfl) hl rfl rfl
theorem spec_R {l : List UInt8} (hl : l.length ≤ 1000) (k : Nat) : SpecOk Tryd.prog (tbR.atS (rhoR l k) spR noLp) := spOf_ok (tb := tbR) (entries_R hl k)
theorem fn33 : ∃ fn c, tb.func 33 = some fn ∧ fn.body = some c ∧ fn.ntmps = 48 ∧ loopsOf c = [bodyR] := ⟨Tryd.f33, _, by kernel_rfl, rfl, by kernel_rfl, by kernel_rfl⟩
theorem code_R : codeOk 48 bodyR = true := by kernel_rfl
theorem loops_R : loopsOf bodyR = [] := by kernel_rfl
theorem known_R {l : List UInt8} (hl : l.length ≤ 8) {k : Nat} (hk : InvR l k) : SoundAt Tryd.prog (tbR.atS (rhoR l k) spR noLp) 48 (.code (.loop bodyR)) hdR [(.exit 0, { env := exR, h := hdR.h })] :=
  loop_known (D := DR) (out := fun _ => 0) (tbO_ok _) (tbO_wf _) (fun x => spec_R (by omega) x) (by omega) code_R (fun x d hd => by rw [loops_R] at hd; simp at hd) (by kernel_rfl) (by kernel_rfl) (by kernel_rfl)
    (kn := kn0) (n0 := 300) (n1 := 300) (n2 := 300) (fun x => kn_none) (pc := pcR) (fun k hk => addPC_ok (PC.holds_nil _) (by
      rw [t_leq, n_int, nR3 hl hk]
      simp only [if_true]
      omega)) (fun r => run_R r) (fun x hx => rounds_R hl hx) (fun x hx => by show 0 < 1; omega) k hk
/-- The way out that is none: the scale is not 0. -/
def deadR : OTree := .leaf .ret (mkE restR)
def eR : LoopE := { key := 384, hd := hdR, ts := [4, 5, 25], start := [(1, .int .u64, .int .u64 0), (2, .int .u64, .int .u64 1), (3, .int .i64, .int .i64 0)], S := SR, tree := .node (.cmp .eql (.ivar .u64 5) (.int .u64 0)) deadR (.leaf (.exit 0) exR) }
theorem n5_R {l : List UInt8} (hl : l.length ≤ 8) (k : Nat) : (SE.ivar .u64 5).num (rhoR l k) = ((10 ^ l.length : Nat) : Int) := by
  have h2 := Int.ofNat_le.2 (pow10_le (k := l.length) hl)
  exact wid_u64 _ (Int.natCast_nonneg _) (Int.le_trans h2 (by decide))
theorem n4_R {l : List UInt8} (hl : l.length ≤ 8) (k : Nat) : (SE.ivar .u64 4).num (rhoR l k) = (valW l : Int) := by
  have h1 := valW_le l.length (Nat.le_refl l.length)
  have h2 := pow10_le (k := l.length) hl
  rw [List.take_length] at h1
  exact wid_u64 _ (by omega) (by omega)
theorem specL_R {l : List UInt8} (hl : l.length ≤ 8) : SpecOk Tryd.prog (tbR.atS (rhoR l 0) spR (lpOf [eR])) :=
  specL_of (spec_R (by omega) 0) (fun f fn c hfn hc d hd e he hk => by
    obtain ⟨hf, hfn⟩ := tbO_func hfn
    obtain rfl : f = 33 := Nat.eq_of_beq_eq_true hf
    obtain ⟨fn', c', h1, h2, h3, h4⟩ := fn33
    obtain rfl : fn = fn' := Option.some.inj (hfn.symm.trans h1)
    obtain rfl : c = c' := Option.some.inj (hc.symm.trans h2)
    rw [h4, List.mem_singleton] at hd
    subst hd
    rw [List.mem_singleton.1 he, h3]
    have hne : (SE.cmp .eql (.ivar .u64 5) (.int .u64 0)).truth (rhoR l 0) = false := by
      rw [t_eql, n5_R hl, n_int]
      have : 0 < 10 ^ l.length := Nat.pow_pos (by decide)
      simp only [Bool.false_eq_true, if_false]
      omega
    refine ⟨?_, ?_⟩
    · show UpdOk _ _ [(1, .int .u64, .int .u64 0), (2, .int .u64, .int .u64 1), (3, .int .i64, .int .i64 0)]
      unfold UpdOk
      rw [all_cons, all_cons, all_cons]
      exact ⟨rfl, rfl, rfl, fun _ h => by simp at h⟩
    · have hk := known_R hl (k := 0) (by show 0 ≤ l.length; omega)
      have e : (eR.tree.eval (rhoR l 0)) = (.exit 0, exR) := by
        show (if (SE.cmp .eql (.ivar .u64 5) (.int .u64 0)).truth (rhoR l 0) then _ else _) = _
        rw [hne]
        rfl
      rw [e]
      exact hk)
def pcS (b : Bool) : PC := addPC (.cmp .gtr (.len (.svar 0)) (.int .i64 8)) b []
def rcR (r : Nat → Value) := outsF (callF kn0 Tryd.prog (tbR.atS r spR (lpOf [eR])) 300 300 (pcS false) 33 [xv 0] H0)
def rcR2 (r : Nat → Value) := outsF (callF kn0 Tryd.prog (tbR.atS r spR noLp) 300 300 (pcS true) 33 [xv 0] H0)

def lastE : SE := .byte (.svar 0) (.bin .sub .i64 (.len (.svar 0)) (.int .i64 1))
def numE : SE := .and (.bvar 10) (.cmp .lss (.int .i64 0) (.len (.svar 0)))
def zeroR : List (STy × SE) := [(.int .u64, .int .u64 0), (.bool, .bool false)]
def MRa : List (PC × Bool × List (STy × SE)) :=
  [([(numE, false), (.cmp .lss (.int .i64 8) (.len (.svar 0)), false)], true, zeroR),
   ([(.cmp .eql lastE (.int .u8 48), true), (.bvar 10, true), (.cmp .lss (.int .i64 0) (.len (.svar 0)), true), (.cmp .lss (.int .i64 8) (.len (.svar 0)), false)], true, zeroR),
   ([(.cmp .eql (.ivar .u64 5) (.int .u64 0), true), (.cmp .eql lastE (.int .u8 48), false), (.bvar 10, true), (.cmp .lss (.int .i64 0) (.len (.svar 0)), true), (.cmp .lss (.int .i64 8) (.len (.svar 0)), false)], true, zeroR),
   ([(.cmp .eql (.ivar .u64 5) (.int .u64 0), false), (.cmp .eql lastE (.int .u8 48), false), (.bvar 10, true), (.cmp .lss (.int .i64 0) (.len (.svar 0)), true), (.cmp .lss (.int .i64 8) (.len (.svar 0)), false)], true,
      [(.int .u64, .bin .quo .u64 (.bin .mul .u64 (.ivar .u64 4) (.int .u64 256)) (.ivar .u64 5)), (.bool, .cmp .eql (.bin .rem .u64 (.bin .mul .u64 (.ivar .u64 4) (.int .u64 256)) (.ivar .u64 5)) (.int .u64 0))])]
def MRb : List (PC × Bool × List (STy × SE)) :=
  [([(numE, false), (.cmp .lss (.int .i64 8) (.len (.svar 0)), true)], true, zeroR),
   ([(.bvar 10, true), (.cmp .lss (.int .i64 0) (.len (.svar 0)), true), (.cmp .lss (.int .i64 8) (.len (.svar 0)), true)], true, zeroR)]
theorem run_Ra (r : Nat → Value) : rcR r = some MRa := by kernel_rfl
theorem run_Rb (r : Nat → Value) : rcR2 r = some MRb := by kernel_rfl
/-- What fraction gives. -/
def fracA (l : List UInt8) : Nat := if isNum l && (Nat.ble l.length 8 && l.getLast? != some 48) then valL l * 256 / 10 ^ l.length else 0
def fracV (l : List UInt8) : Value := .tuple #[.int .u64 (fracA l), .bool (fracL l).isSome]
theorem frac_bad {l : List UInt8} (h : (isNum l && (Nat.ble l.length 8 && l.getLast? != some 48)) = false) : fracV l = .tuple #[.int .u64 0, .bool false] := by
  have e1 : fracA l = 0 := by unfold fracA; rw [h]; rfl
  have e2 : fracL l = none := by
    unfold fracL
    rw [if_neg]
    intro hc
    simp only [Bool.and_eq_true] at hc
    rw [show (isNum l && (Nat.ble l.length 8 && l.getLast? != some 48)) = true by simp [hc.1, hc.2.1, hc.2.2.1]] at h
    exact absurd h (by simp)
  unfold fracV
  rw [e1, e2]
  rfl
theorem last_num {l : List UInt8} {ρ : Nat → Value} (h0 : ρ 0 = .string (tx l)) (h1 : 0 < l.length) (h2 : l.length ≤ 1000) : ∃ b, l.getLast? = some b ∧ lastE.num ρ = (b.toNat : Int) := by
  have hlt : l.length - 1 < l.length := by omega
  refine ⟨l[l.length - 1], ?_, ?_⟩
  · rw [List.getLast?_eq_getElem?, List.getElem?_eq_getElem hlt]
  · have e : (SE.bin .sub .i64 (.len (.svar 0)) (.int .i64 1)).num ρ = ((l.length - 1 : Nat) : Int) := by
      rw [n_sub, n_int]
      have e3 : (SE.len (.svar 0)).num ρ = (l.length : Int) := by
        show ((textOf (ρ 0)).size : Int) = _
        rw [h0]
        show ((tx l).size : Int) = _
        rw [size_tx]
      rw [e3, wid_i64 _ (by omega) (by omega)]
      omega
    show byteAt (textOf (ρ 0)) ((SE.bin .sub .i64 (.len (.svar 0)) (.int .i64 1)).num ρ) = _
    rw [e, h0]
    exact byte_tx l hlt
theorem b48 (b : UInt8) : (b.toNat : Int) = 48 ↔ b = 48 := by
  constructor
  · intro h
    apply UInt8.toNat_inj.1
    show b.toNat = 48
    omega
  · rintro rfl
    rfl
theorem args_R (l : List UInt8) (k : Nat) : ([xv 0].map (V.at1 (rhoR l k))).toArray = #[.string (tx l)] := rfl
theorem zero_ret (ρ : Nat → Value) : retOf true (valsOf ρ zeroR) = .tuple #[.int .u64 0, .bool false] := rfl
theorem isNum_and {l : List UInt8} (h : (SE.bvar 10).truth (rhoR l 0) = true) (h1 : 0 < l.length) : isNum l = true := by
  have h : l.all dig = true := h
  rw [isNum_all, h, ← pos_empty]
  simp
  exact h1
theorem numE_false {l : List UInt8} (h : numE.truth (rhoR l 0) = false) : isNum l = false := by
  have h : (l.all dig && (SE.cmp .lss (.int .i64 0) (.len (.svar 0))).truth (rhoR l 0)) = false := h
  rw [(truth_cmp _ _ _).2.2.1, nRL, n_int, show decide ((0 : Int) < (l.length : Int)) = !l.isEmpty from pos_empty l] at h
  rw [isNum_all, Bool.and_comm]
  exact h
/-- **The program's fraction.** -/
theorem frac_fnc {l : List UInt8} (hl : l.length ≤ 1000) : Fnc Tryd.prog tb.glob 33 #[.string (tx l)] (fracV l) := by
  by_cases h8 : l.length ≤ 8
  · have hp : (pcS false).holds (rhoR l 0) := addPC_ok (PC.holds_nil _) (by
      rw [t_gtr, nRL, n_int]
      simp only [Bool.false_eq_true, if_false]
      omega)
    have hb8 : Nat.ble l.length 8 = true := Nat.ble_eq_true_of_le h8
    have := fnc_run (tb := tbR) (tbO_ok _) (tbO_wf _) (specL_R h8) (kn := kn0) (n0 := 300) (n1 := 300) kn_none hp (f := 33) (args := [xv 0]) (by rfl) (run_Ra _) (res := fracV l) (by
      unfold MRa
      rw [all_cons, all_cons, all_cons, all_cons]
      refine ⟨fun hp => ?_, fun hp => ?_, fun hp => ?_, fun hp => ?_, fun _ h => by simp at h⟩
      · rw [zero_ret, frac_bad]
        rw [numE_false (hp _ List.mem_cons_self)]
        rfl
      · simp only [h_cons, h_nil, t_eql, t_lss, n_int, nRL, if_true, Bool.false_eq_true, if_false] at hp
        obtain ⟨h1, h2, h3, h4, _⟩ := hp
        obtain ⟨b, hb1, hb2⟩ := last_num (ρ := rhoR l 0) rfl (by omega) hl
        rw [hb2, b48] at h1
        rw [zero_ret, frac_bad]
        rw [hb1, h1]
        simp
      · simp only [h_cons, h_nil, t_eql, n_int, n5_R h8, if_true] at hp
        have : 0 < 10 ^ l.length := Nat.pow_pos (by decide)
        exact absurd hp.1 (by omega)
      · simp only [h_cons, h_nil, t_eql, t_lss, n_int, nRL, if_true, Bool.false_eq_true, if_false] at hp
        obtain ⟨_, h1, h2, h3, h4, _⟩ := hp
        obtain ⟨b, hb1, hb2⟩ := last_num (ρ := rhoR l 0) rfl (by omega) hl
        rw [hb2] at h1
        have h1 : b ≠ 48 := fun e => h1 ((b48 b).2 e)
        have hn := isNum_and h2 (by omega)
        have hall : l.all dig = true := h2
        have hv : valW l = valL l := valW_eq hall
        have hc : (isNum l && (Nat.ble l.length 8 && l.getLast? != some 48)) = true := by
          rw [hn, hb8, hb1]
          simpa using h1
        have g1 := valW_le l.length (Nat.le_refl l.length)
        rw [List.take_length] at g1
        have g2 := pow10_le (k := l.length) h8
        have g3 : 0 < 10 ^ l.length := Nat.pow_pos (by decide)
        have em : (SE.bin .mul .u64 (.ivar .u64 4) (.int .u64 256)).num (rhoR l 0) = ((valL l * 256 : Nat) : Int) := by
          rw [n_mul, n4_R h8, n_int, wid_u64 _ (by omega) (by omega), hv]
          omega
        have e5 := n5_R (l := l) h8 0
        have hne : ¬ (((10 ^ l.length : Nat) : Int) = 0) := by omega
        have eq : (SE.bin .quo .u64 (.bin .mul .u64 (.ivar .u64 4) (.int .u64 256)) (.ivar .u64 5)).num (rhoR l 0) = ((valL l * 256 / 10 ^ l.length : Nat) : Int) := by
          rw [n_quo, e5, if_neg hne, em, Int.tdiv_eq_ediv_of_nonneg (Int.natCast_nonneg _), ← Int.natCast_ediv]
          have hle : valL l * 256 / 10 ^ l.length ≤ valL l * 256 := Nat.div_le_self _ _
          exact wid_u64 _ (Int.natCast_nonneg _) (by rw [← hv] at hle ⊢; omega)
        have er : (SE.bin .rem .u64 (.bin .mul .u64 (.ivar .u64 4) (.int .u64 256)) (.ivar .u64 5)).num (rhoR l 0) = ((valL l * 256 % 10 ^ l.length : Nat) : Int) := by
          rw [n_rem, e5, if_neg hne, em, Int.tmod_eq_emod_of_nonneg (Int.natCast_nonneg _), ← Int.natCast_emod]
        have hA : fracA l = valL l * 256 / 10 ^ l.length := by unfold fracA; rw [hc]; rfl
        have hL : (fracL l).isSome = Nat.beq (valL l * 256 % 10 ^ l.length) 0 := by
          simp only [Bool.and_eq_true] at hc
          unfold fracL
          rw [hc.1, hc.2.1, hc.2.2]
          simp only [Bool.true_and]
          cases Nat.beq (valL l * 256 % 10 ^ l.length) 0 <;> rfl
        show Value.tuple #[.int .u64 ((SE.bin .quo .u64 (.bin .mul .u64 (.ivar .u64 4) (.int .u64 256)) (.ivar .u64 5)).num (rhoR l 0)), .bool ((SE.cmp .eql (.bin .rem .u64 (.bin .mul .u64 (.ivar .u64 4) (.int .u64 256)) (.ivar .u64 5)) (.int .u64 0)).truth (rhoR l 0))] = _
        rw [(truth_cmp _ _ _).1, eq, er, n_int]
        unfold fracV
        rw [hA, hL]
        congr 2
        cases hb : Nat.beq (valL l * 256 % 10 ^ l.length) 0 with
        | true =>
          rw [Nat.eq_of_beq_eq_true hb]
          rfl
        | false =>
          have hne0 : valL l * 256 % 10 ^ l.length ≠ 0 := fun e => by rw [e] at hb; exact absurd hb (by decide)
          have : (((valL l * 256 % 10 ^ l.length : Nat) : Int) == 0) = false := by
            rw [beq_eq_false_iff_ne]
            omega
          rw [this])
    rwa [args_R] at this
  · have hp : (pcS true).holds (rhoR l 0) := addPC_ok (PC.holds_nil _) (by
      rw [t_gtr, nRL, n_int]
      simp only [if_true]
      omega)
    have hb8 : Nat.ble l.length 8 = false := by
      cases h : Nat.ble l.length 8 with
      | false => rfl
      | true => exact absurd (Nat.le_of_ble_eq_true h) h8
    have hbad : fracV l = .tuple #[.int .u64 0, .bool false] := frac_bad (by rw [hb8]; simp)
    have := fnc_run (tb := tbR) (tbO_ok _) (tbO_wf _) (spec_R hl 0) (kn := kn0) (n0 := 300) (n1 := 300) kn_none hp (f := 33) (args := [xv 0]) (by rfl) (run_Rb _) (res := fracV l) (by
      unfold MRb
      rw [all_cons, all_cons]
      exact ⟨fun _ => by rw [zero_ret, hbad], fun _ => by rw [zero_ret, hbad], fun _ h => by simp at h⟩)
    rwa [args_R] at this
end
end Go.Proofs.YtkjfpjammlihpaaDoor
