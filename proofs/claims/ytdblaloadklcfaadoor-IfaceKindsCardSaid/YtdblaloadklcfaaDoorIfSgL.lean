/- IfaceSignature: a text of more than sixteen letters is no signature: the loop, by induction. -/
import Derived.Test.YtdblaloadklcfaaDoorIfC
set_option linter.unusedVariables false
namespace Go.Proofs.YtdblaloadklcfaaDoor
open Go.Sx Go.ChangeShapes Go.WideShapes Go.ChangeAt Go.RowKit
noncomputable section

def kn0 : Nat → Option V := fun _ => none
theorem byteAt_range (s : ByteArray) (i : Int) : 0 ≤ byteAt s i ∧ byteAt s i ≤ 255 := by
  unfold byteAt
  split
  · split
    · rename_i b _
      have := b.toNat_lt
      omega
    · omega
  · omega

def tbV : Tb := { tb with func := fun f => if f == 18 then tb.func 18 else none }
theorem tbV_func {f : Nat} {fn : Func} (h : tbV.func f = some fn) : f = 18 ∧ tb.func 18 = some fn := by
  have h : (if f == 18 then tb.func 18 else none) = some fn := h
  split at h
  · rename_i hf
    exact ⟨by simpa using hf, h⟩
  · exact absurd h (by simp)
theorem tbV_ok : tbV.Ok Tryd.prog := ⟨fun f fn h => by
  obtain ⟨rfl, h⟩ := tbV_func h
  exact tb_ok.func _ _ h, tb_ok.desc, tb_ok.info, tb_ok.mixed⟩
theorem tbV_wf : tbV.Wf := fun f fn c h1 h2 => by
  obtain ⟨rfl, h⟩ := tbV_func h1
  exact tb_wf _ _ _ h h2

def mkE (l : List (Nat × V)) : Env := l.foldl (fun e x => e.set x.1 x.2) .leaf
def tops (l : List Nat) : List (Nat × V) := l.map fun t => (t, .top)
def rest : List (Nat × V) := [(0, .sym .str (.svar 0)), (2, .val (.bool false)), (4, .sym .str (.svar 0)), (5, .sym (.int .i64) (.len (.svar 0)))] ++ tops [3, 7, 8, 9, 10, 11, 12, 13, 14]
def hdV : St := { env := mkE (rest ++ [(6, .sym (.int .i64) (.ivar .i64 1))]), h := H0 }
def exV : Env := mkE (rest ++ tops [6])
def DV : LoopD := { hd := hdV, ts := [6], outs := [(.exit 0, exV, []), (.ret, exV, [])] }
def SV (n : Nat) : Bool := Nat.beq n 0 || Nat.beq n 9

def allOk (s : ByteArray) : Bool := (List.range s.size).all fun j => kindN (byteAt s (Int.ofNat j)) != 0
def rhoV (s : ByteArray) (x : Nat) (n : Nat) : Value :=
  match n with
  | 0 => .string s
  | 1 => .int .i64 x
  | 2 => .int .i64 (kindN (byteAt s (IntKind.i64.wrap x)))
  | _ => .bool (allOk s)
def spV : Sp := fun f args => if Nat.beq f 35 then (match args with
  | [.sym (.int .u8) (.byte (.svar 0) (.ivar .i64 1))] => some (.sym (.int .i64) (.ivar .i64 2), [])
  | _ => none) else none
def upd0 : Option (List (Nat × STy × SE)) → Bool
  | some [(1, .int .i64, .int .i64 (.ofNat 0))] => true
  | _ => false
def treeV : OTree := .node (.bvar 9) (.leaf (.exit 0) exV) (.leaf .ret exV)
def lpV : Lp := fun k st => if Nat.beq k 192 && (sameH st.h H0 && (leTr SV st.env (topT hdV.env [6]) && (upd0 (updOf st.env hdV.env [6]) && !inRound st.env))) then some treeV else none

theorem fns_of {ρ : Nat → Value} {s : ByteArray} (h0 : ρ 0 = .string s) {sp : Sp} {lp : Lp} {tb' : Tb} (hgl : tb'.glob = tb.glob) {f : Nat} (hf : f = 35 ∨ f = 36) {ie : SE} {n : Nat} (hn : ρ n = .int .i64 (kindN (byteAt s (ie.num ρ))))
    {N : Nat} {φ : Froz} {γ : Go.Sx.Place} {H : Heap} {w : World} {args' : Array Value} (hr : Rel N φ γ H w) (hg : GlobOk φ (tb'.atS ρ sp lp)) (ha : ArgsRel φ γ [.sym (.int .u8) (.byte (.svar 0) ie)] args') :
    Calls Tryd.prog f args' w (fun e w' => ∃ cv, e = .returned cv ∧ Below w.heap.size w w' ∧ VRel φ γ (.sym (.int .i64) (.ivar .i64 n)) cv) := by
  have hρ : φ.rho = ρ := hg.rho
  have hb := byteAt_range s (ie.num ρ)
  refine (kind_calls (ρ := ρ) hf (b := byteAt s (ie.num ρ)) hb.1 hb.2 hr hρ (fun g l h => hg.at_ g l (by show tb'.glob g = some l; rw [hgl]; exact h)) ?_).mono ?_
  · have h1 := ha.2 0 _ rfl
    cases h1 with
    | sym h2 =>
      have hs : args'.size = 1 := ha.1
      have : args' = #[args'.getD 0 undef] := by
        apply Array.ext
        · simpa using hs
        · intro i hi1 hi2
          obtain rfl : i = 0 := by omega
          simp [Array.getD_eq_getD_getElem?, hs]
      rw [this, h2, hρ]
      simp only [SE.val, SE.num, SE.all, h0, textOf]
  · rintro e w' ⟨rfl, hbl⟩
    refine ⟨_, rfl, hbl, .sym ?_⟩
    rw [hρ]
    simp only [SE.val, SE.num, SE.all, hn]
    rw [kindN_wrap]

theorem specV (s : ByteArray) (x : Nat) : ∀ f args r, (tbV.atS (rhoV s x) spV noLp).spec f args = some r → (∃ fn, Tryd.prog.funcs[f]? = some fn ∧ (fn.name == "runtime.NumGoroutine") = false ∧ fn.body.isNone = false) ∧ (∀ q, q ∈ r.2 → q.1.truth (rhoV s x) = q.2) ∧
    ∀ (N : Nat) (φ : Froz) (γ : Go.Sx.Place) (H : Heap) (w : World) (args' : Array Value), Rel N φ γ H w → φ.rho = rhoV s x → (∀ g l, tb.glob g = some l → ∀ j v, l[j]? = some v → φ g j = some v) → ArgsRel φ γ args args' →
      Calls Tryd.prog f args' w (fun e w' => ∃ cv, e = .returned cv ∧ Go.RowKit.Below w.heap.size w w' ∧ VRel φ γ r.1 cv) := by
  intro f args r h'
  have h : spV f args = some r := h'
  clear h'
  unfold spV at h
  split at h
  · rename_i hf
    obtain rfl : f = 35 := Nat.eq_of_beq_eq_true hf
    split at h
    · cases h
      refine ⟨known35, fun q hq => by simp at hq, fun N φ γ H w args' hr hρ hg ha => ?_⟩
      exact fns_of (sp := noSp) (lp := noLp) (tb' := tb) (s := s) (ρ := rhoV s x) rfl rfl (.inl rfl) (by rfl) hr ⟨hg, hρ⟩ ha
    · exact absurd h (by simp)
  · exact absurd h (by simp)
theorem specV0 (s : ByteArray) (x : Nat) : SpecOk Tryd.prog (tbV.atS (rhoV s x) spV noLp) :=
  ⟨fun f args r h => ⟨(specV s x f args r h).1, (specV s x f args r h).2.1, fun N φ γ H w args' hr hg ha => (specV s x f args r h).2.2 N φ γ H w args' hr hg.rho hg.at_ ha⟩, fun _ _ _ _ _ _ _ => LoopGood.none (fun _ _ => rfl)⟩

/-- The loop's body. -/
def bodyV : Code := match (tb.func 18).bind fun fn => fn.body with
  | some c => (loopsOf c).headD .skip
  | none => .skip
def pc0 : PC := addPC (.cmp .leq (.int .i64 0) (.ivar .i64 1)) true []
def pcI : PC := addPC (.cmp .lss (.ivar .i64 1) (.len (.svar 0))) true pc0
def roundsV : List (PC × Sm) :=
  [(addPC (.cmp .eql (.ivar .i64 2) (.int .i64 0)) true pcI, .out 1 []),
   (addPC (.cmp .eql (.ivar .i64 2) (.int .i64 0)) false pcI, .next [(1, .int .i64, .bin .add .i64 (.ivar .i64 1) (.int .i64 1))]),
   (addPC (.cmp .lss (.ivar .i64 1) (.len (.svar 0))) false pc0, .out 0 [])]
def runV (r : Nat → Value) := sums SV DV (execF kn0 (callF kn0 Tryd.prog (tbV.atS r spV noLp) 300 300) Tryd.prog (tbV.atS r spV noLp) 300 (.code bodyV) pc0 DV.hd)
theorem run_V (r : Nat → Value) : runV r = some roundsV := by kernel_rfl
theorem body_V : (match (tb.func 18).bind fun fn => fn.body with | some c => loopsOf c | none => []) = [bodyV] := by kernel_rfl
theorem key_V : loopK bodyV = 192 := by kernel_rfl

/-! ### The loop's rounds -/
def InvV (s : ByteArray) (x : Nat) : Prop := x ≤ s.size ∧ ∀ j, j < x → kindN (byteAt s (Int.ofNat j)) ≠ 0
def outV (s : ByteArray) (_ : Nat) : Nat := if allOk s then 0 else 1
theorem wrap_small {x : Nat} (h : x ≤ 1000) : IntKind.i64.wrap (x : Int) = x := wrap_id .i64 _ (by show (-9223372036854775808 : Int) ≤ _; omega) (by show _ ≤ (9223372036854775807 : Int); omega)
theorem cmp_val (op : BinOp) (ρ : Nat → Value) (a b : SE) : (SE.cmp op a b).truth ρ = (match intBin op .i64 (a.num ρ) .i64 (b.num ρ) with | some v => truthOf v | none => false) := rfl
theorem num1 (s : ByteArray) (x : Nat) (h : x ≤ 1000) : (SE.ivar .i64 1).num (rhoV s x) = x := wrap_small h
theorem num2 (s : ByteArray) (x : Nat) (h : x ≤ 1000) : (SE.ivar .i64 2).num (rhoV s x) = kindN (byteAt s x) := by
  show IntKind.i64.wrap (kindN (byteAt s (IntKind.i64.wrap x))) = _
  rw [kindN_wrap, wrap_small h]
theorem numL (s : ByteArray) (x : Nat) : (SE.len (.svar 0)).num (rhoV s x) = s.size := rfl

theorem fact {ρ : Nat → Value} {e : SE} {b : Bool} {pc : PC} (h : PC.holds ρ ((e, b) :: pc)) : e.truth ρ = b := h _ List.mem_cons_self
theorem more {ρ : Nat → Value} {q : SE × Bool} {pc : PC} (h : PC.holds ρ (q :: pc)) : pc.holds ρ := fun x hx => h x (List.mem_cons_of_mem _ hx)
theorem allOk_iff (s : ByteArray) : allOk s = true ↔ ∀ j, j < s.size → kindN (byteAt s (Int.ofNat j)) ≠ 0 := by
  unfold allOk
  rw [List.all_eq_true]
  exact ⟨fun h j hj => by simpa using h j (List.mem_range.2 hj), fun h j hj => by simpa using h j (List.mem_range.1 hj)⟩
theorem t_eq {s : ByteArray} {x : Nat} (hx1 : x ≤ 1000) {b : Bool} (h : (SE.cmp .eql (.ivar .i64 2) (.int .i64 0)).truth (rhoV s x) = b) : (kindN (byteAt s x) == 0) = b := by
  rw [(truth_cmp _ _ _).1, num2 s x hx1] at h
  exact h
theorem t_lt {s : ByteArray} {x : Nat} (hx1 : x ≤ 1000) {b : Bool} (h : (SE.cmp .lss (.ivar .i64 1) (.len (.svar 0))).truth (rhoV s x) = b) : decide ((x : Int) < s.size) = b := by
  rw [(truth_cmp _ _ _).2.2.1, num1 s x hx1, numL] at h
  exact h
theorem round0 {s : ByteArray} {x : Nat} (h1 : kindN (byteAt s x) = 0) (h2 : x < s.size) : outV s x = 1 := by
  unfold outV
  rw [if_neg]
  intro ha
  exact (allOk_iff s).1 ha x h2 h1
theorem round2 {s : ByteArray} {x : Nat} (hx : InvV s x) (h2 : ¬ x < s.size) : outV s x = 0 := by
  unfold outV
  rw [if_pos]
  exact (allOk_iff s).2 (fun j hj => hx.2 j (by omega))
theorem rhoV0 (s : ByteArray) (x : Nat) : rhoV s x 0 = .string s := rfl
theorem rhoV9 (s : ByteArray) (x : Nat) : rhoV s x 9 = .bool (allOk s) := rfl
theorem same09 (s : ByteArray) (x y : Nat) (n : Nat) (h : SV n = true) : rhoV s x n = rhoV s y n := by
  have h : (Nat.beq n 0 || Nat.beq n 9) = true := h
  rw [Bool.or_eq_true] at h
  rcases h with h | h
  · have := Nat.eq_of_beq_eq_true h; subst this; rw [rhoV0, rhoV0]
  · have := Nat.eq_of_beq_eq_true h; subst this; rw [rhoV9, rhoV9]
theorem up1 {s : ByteArray} {x : Nat} (h : x + 1 ≤ 1000) : (SE.bin .add .i64 (.ivar .i64 1) (.int .i64 1)).num (rhoV s x) = (SE.ivar .i64 1).num (rhoV s (x + 1)) := by
  rw [n_add, num1 s x (by omega), num1 s (x + 1) h]
  have e : (SE.int .i64 1).num (rhoV s x) = 1 := rfl
  rw [e]
  have e2 : ((x : Int) + 1) = ((x + 1 : Nat) : Int) := by omega
  rw [e2, wrap_small h]
theorem inv1 {s : ByteArray} {x : Nat} (hx : InvV s x) (h1 : kindN (byteAt s x) ≠ 0) (h2 : x < s.size) : InvV s (x + 1) :=
  ⟨h2, fun j hj => by
    by_cases h : j = x
    · subst h; exact h1
    · exact hx.2 j (by omega)⟩
theorem round1 {s : ByteArray} (hs : s.size ≤ 1000) {x : Nat} (hx : InvV s x) (h1 : kindN (byteAt s x) ≠ 0) (h2 : x < s.size) : SmOk SV (rhoV s) (InvV s) (fun x => s.size - x) DV (outV s) x (.next [(1, .int .i64, .bin .add .i64 (.ivar .i64 1) (.int .i64 1))]) := by
  refine ⟨x + 1, inv1 hx h1 h2, (by show s.size - (x + 1) < s.size - x; omega), fun n hn => same09 s x (x + 1) n hn, fun u hu => ?_, rfl⟩
  obtain rfl := List.mem_singleton.1 hu
  show Value.int .i64 ((SE.bin .add .i64 (.ivar .i64 1) (.int .i64 1)).num (rhoV s x)) = Value.int .i64 ((SE.ivar .i64 1).num (rhoV s (x + 1)))
  rw [up1 (by omega)]
theorem rounds_ok {s : ByteArray} (hs : s.size ≤ 1000) {x : Nat} (hx : InvV s x) : ∀ q, q ∈ roundsV → q.1.holds (rhoV s x) → SmOk SV (rhoV s) (InvV s) (fun x => s.size - x) DV (outV s) x q.2 := by
  have hx1 : x ≤ 1000 := Nat.le_trans hx.1 hs
  intro q hq hp
  unfold roundsV at hq
  rcases List.mem_cons.1 hq with rfl | hq
  · have h1 := t_eq hx1 (b := true) (fact hp)
    have h2 := t_lt hx1 (b := true) (fact (more hp))
    exact ⟨(round0 (by simpa using h1) (by simpa using h2)).symm, fun u hu => by simp at hu⟩
  rcases List.mem_cons.1 hq with rfl | hq
  · have h1 := t_eq hx1 (b := false) (fact hp)
    have h2 := t_lt hx1 (b := true) (fact (more hp))
    exact round1 hs hx (by simpa using h1) (by simpa using h2)
  rcases List.mem_cons.1 hq with rfl | hq
  · have h2 := t_lt hx1 (b := false) (fact hp)
    exact ⟨(round2 hx (by simpa using h2)).symm, fun u hu => by simp at hu⟩
  · simp at hq

theorem fn18 : ∃ fn c, tb.func 18 = some fn ∧ fn.body = some c ∧ fn.ntmps = 18 ∧ loopsOf c = [bodyV] := ⟨Tryd.f18, _, by kernel_rfl, rfl, by kernel_rfl, by kernel_rfl⟩
theorem codeV : codeOk 18 bodyV = true := by kernel_rfl
theorem loopsV : loopsOf bodyV = [] := by kernel_rfl
theorem known_V {s : ByteArray} (hs : s.size ≤ 1000) {x : Nat} (hx : InvV s x) : SoundAt Tryd.prog (tbV.atS (rhoV s x) spV noLp) 18 (.code (.loop bodyV)) hdV [(((DV.outs.getD (outV s x) (.normal, .leaf, [])).1), { env := (DV.outs.getD (outV s x) (.normal, .leaf, [])).2.1, h := hdV.h })] :=
  loop_known (D := DV) tbV_ok tbV_wf (fun x => specV0 s x) (by omega) codeV (fun x d hd => by rw [loopsV] at hd; simp at hd) (by kernel_rfl) (by kernel_rfl) (by kernel_rfl)
    (kn := kn0) (n0 := 300) (n1 := 300) (n2 := 300) (fun x => kn_none) (pc := pc0) (fun x hx => addPC_ok (PC.holds_nil _) (by
      rw [(truth_cmp _ _ _).2.2.2.1, num1 s x (Nat.le_trans hx.1 hs)]
      simp [SE.num, SE.all])) (fun r => run_V r) (fun x hx => rounds_ok hs hx) (fun x hx => by
      show outV s x < 2
      unfold outV
      split <;> omega) x hx

theorem specL {s : ByteArray} (hs : s.size ≤ 1000) : SpecOk Tryd.prog (tbV.atS (rhoV s 0) spV lpV) where
  fns f args r h := ⟨(specV s 0 f args r h).1, (specV s 0 f args r h).2.1, fun N φ γ H w args' hr hg ha => (specV s 0 f args r h).2.2 N φ γ H w args' hr hg.rho hg.at_ ha⟩
  loops f fn c hfn hc d hd := by
    obtain ⟨rfl, hfn⟩ := tbV_func (show tbV.func f = some fn from hfn)
    obtain ⟨fn', c', h1, h2, h3, h4⟩ := fn18
    obtain rfl : fn = fn' := Option.some.inj (hfn.symm.trans h1)
    obtain rfl : c = c' := Option.some.inj (hc.symm.trans h2)
    rw [h4, List.mem_singleton] at hd
    subst hd
    intro st t ht
    have ht : lpV (loopK bodyV) st = some t := ht
    unfold lpV at ht
    split at ht
    · rename_i hcd
      simp only [Bool.and_eq_true, Bool.not_eq_true'] at hcd
      obtain ⟨_, hh, hle, hu, hin⟩ := hcd
      cases ht
      have hh := sameH_eq hh
      have he : EnvLe (rhoV s 0) st.env (rhoV s 0) hdV.env := by
        unfold upd0 at hu
        split at hu
        · rename_i hup
          refine env_le (fun _ _ => rfl) hle hup (fun u hu => ?_)
          rw [List.mem_singleton.1 hu]
          show Value.int .i64 0 = Value.int .i64 (IntKind.i64.wrap 0)
          rw [wrap_id .i64 0 (by decide) (by decide)]
        · exact absurd hu (by simp)
      have hk := known_V hs (x := 0) ⟨Nat.zero_le _, fun j hj => absurd hj (by omega)⟩
      have hs2 := SoundAt.weaken (tb := tbV.atS (rhoV s 0) spV noLp) (tb' := tbV.atS (rhoV s 0) spV lpV) rfl rfl hin (hd := hdV) hh he hk
      rw [h3]
      have e : ((treeV.eval (tbV.atS (rhoV s 0) spV lpV).rho).1, ({ env := (treeV.eval (tbV.atS (rhoV s 0) spV lpV).rho).2, h := st.h } : St)) = (((DV.outs.getD (outV s 0) (.normal, .leaf, [])).1), { env := (DV.outs.getD (outV s 0) (.normal, .leaf, [])).2.1, h := hdV.h }) := by
        rw [hh]
        show ((treeV.eval (rhoV s 0)).1, ({ env := (treeV.eval (rhoV s 0)).2, h := H0 } : St)) = _
        unfold outV
        unfold treeV
        unfold OTree.eval
        rw [show (SE.bvar 9).truth (rhoV s 0) = allOk s from rfl]
        cases allOk s <;> rfl
      rw [e]
      exact hs2
    · exact absurd ht (by simp)

/-! ### Too long a text -/
def pcLong : PC := addPC (.cmp .gtr (.len (.svar 0)) (.int .i64 16)) true []
def leafNo (r : PC × V × Heap) : Bool :=
  match r.2.1 with
  | .val (.bool b) => !b
  | .sym .bool e => (match decideB r.1 e with | some false => true | _ => false)
  | _ => false
def allNo : Option (List (PC × V × Heap)) → Bool
  | some L => L.all leafNo
  | none => false
theorem run_long (r : Nat → Value) : allNo (callF kn0 Tryd.prog (tbV.atS r spV lpV) 300 300 pcLong 18 [.sym .str (.svar 0)] H0) = true := by kernel_rfl
theorem leafNo_ok {ρ : Nat → Value} {r : PC × V × Heap} (h : leafNo r = true) (hp : r.1.holds ρ) {φ : Froz} {γ : Go.Sx.Place} (hφ : φ.rho = ρ) : V.scal 12 r.2.1 = true ∧ ∀ cv, VRel φ γ r.2.1 cv → cv = .bool false := by
  obtain ⟨pc, v, H⟩ := r
  unfold leafNo at h
  split at h
  · rename_i b hv
    simp only at hv
    subst hv
    refine ⟨rfl, fun cv hc => ?_⟩
    cases hc
    simpa using h
  · rename_i e hv
    simp only at hv
    subst hv
    refine ⟨rfl, fun cv hc => ?_⟩
    split at h
    · rename_i hd
      have := decideB_ok hp hd
      cases hc with
      | sym h1 => rw [h1, hφ, SE.val, this]
    · exact absurd h (by simp)
  · exact absurd h (by simp)

/-- **A text of more than sixteen letters (and not of thousands) is no signature.** -/
theorem long_calls {s : ByteArray} (h1 : 16 < s.size) (h2 : s.size ≤ 1000) {N : Nat} {φ : Froz} {γ : Go.Sx.Place} {H : Heap} {w : World} (hr : Rel N φ γ H w) (hρ : φ.rho 0 = .string s) (hg : ∀ g l, tb.glob g = some l → ∀ j v, l[j]? = some v → φ g j = some v) :
    Calls Tryd.prog 18 #[.string s] w (fun e w' => e = .returned (.bool false) ∧ Below w.heap.size w w') := by
  have hl := run_long (rhoV s 0)
  unfold allNo at hl
  split at hl
  · rename_i L hL
    have hsp := specL h2
    have hpl : pcLong.holds (rhoV s 0) := addPC_ok (PC.holds_nil _) (by
      rw [(truth_cmp _ _ _).2.2.2.2.1, numL]
      simp [SE.num, SE.all]
      omega)
    obtain ⟨r, h3, h4, h5⟩ := callF_ok (fun f args r hr q hq => (hsp.fns f args r hr).2.1 q hq) (kn_none) 300 _ _ _ _ _ hL hpl
    have hr' : Rel N (φ.re (rhoV s 0)) γ H0 w := ⟨hr.ge, fun b k h => by simp [H0, Heap.get] at h, hr.froz, hr.lt, fun b x k hx hk => by simp [H0, Heap.get] at hk, fun b x k hx hk => by simp [H0, Heap.get] at hk, fun b x k b' x' k' _ _ hk => by simp [H0, Heap.get] at hk⟩
    refine (calls_flat (tb := tbV.atS (rhoV s 0) spV lpV) (φ := φ.re (rhoV s 0)) (tbV_ok.atS _ _ _) tbV_wf hsp h5 (by rfl) hr' ⟨hg, rfl⟩ (args' := #[.string s]) ⟨rfl, fun j v hj => by
      match j, hj with
      | 0, hj => simp at hj; subst hj; exact .sym rfl⟩).mono ?_
    rintro e w' ⟨q, hq, cv, rfl, hb, hv⟩
    rw [List.mem_singleton.1 hq] at hv
    obtain ⟨h6, h7⟩ := leafNo_ok (List.all_eq_true.1 hl r h3) h4 (φ := φ.re (rhoV s 0)) (γ := γ) rfl
    rw [h7 cv (hv h6)]
    exact ⟨rfl, hb⟩
  · exact absurd hl (by simp)
end
end Go.Proofs.YtdblaloadklcfaaDoor
