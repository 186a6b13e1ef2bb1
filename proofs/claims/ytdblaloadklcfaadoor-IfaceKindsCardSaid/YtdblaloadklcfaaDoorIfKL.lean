/- IfaceKinds: what the checks of a signature give for a text of up to sixteen letters: the loops, by induction. -/
import Derived.Test.YtdblaloadklcfaaDoorIfSgL
set_option linter.unusedVariables false
namespace Go.Proofs.YtdblaloadklcfaaDoor
open Go.Sx Go.ChangeShapes Go.WideShapes Go.ChangeAt Go.RowKit
noncomputable section

def restW : List (Nat × V) := [(0, .sym .str (.svar 0)), (2, .val (.bool false)), (4, .sym .str (.svar 0)), (5, .sym (.int .i64) (.len (.svar 0)))] ++ tops [6, 7, 8, 9, 10, 11, 12, 13, 14, 15, 16, 17]
def tbVw : Tb := { tb with func := fun f => if f == 19 then tb.func 19 else none }
theorem tbV_funcw {f : Nat} {fn : Func} (h : tbVw.func f = some fn) : f = 19 ∧ tb.func 19 = some fn := by
  have h : (if f == 19 then tb.func 19 else none) = some fn := h
  split at h
  · rename_i hf
    exact ⟨by simpa using hf, h⟩
  · exact absurd h (by simp)
theorem tbV_okw : tbVw.Ok Tryd.prog := ⟨fun f fn h => by
  obtain ⟨rfl, h⟩ := tbV_funcw h
  exact tb_ok.func _ _ h, tb_ok.desc, tb_ok.info, tb_ok.mixed⟩
theorem tbV_wfw : tbVw.Wf := fun f fn c h1 h2 => by
  obtain ⟨rfl, h⟩ := tbV_funcw h1
  exact tb_wf _ _ _ h h2

def hdVw : St := { env := mkE (restW ++ [(3, .sym (.int .i64) (.ivar .i64 1))]), h := H0 }
def exVw : Env := mkE (restW ++ tops [3])
def DVw : LoopD := { hd := hdVw, ts := [3], outs := [(.exit 0, exVw, []), (.ret, exVw, [])] }
def spVw : Sp := fun f args => if Nat.beq f 36 then (match args with
  | [.sym (.int .u8) (.byte (.svar 0) (.ivar .i64 1))] => some (.sym (.int .i64) (.ivar .i64 2), [])
  | _ => none) else none
def upd0w : Option (List (Nat × STy × SE)) → Bool
  | some [(1, .int .i64, .int .i64 (.ofNat 0))] => true
  | _ => false
def treeVw : OTree := .node (.bvar 9) (.leaf (.exit 0) exVw) (.leaf .ret exVw)
def lpVw : Lp := fun k st => if Nat.beq k 320 && (sameH st.h H0 && (leTr SV st.env (topT hdVw.env [3]) && (upd0w (updOf st.env hdVw.env [3]) && !inRound st.env))) then some treeVw else none

theorem specVw (s : ByteArray) (x : Nat) : ∀ f args r, (tbVw.atS (rhoV s x) spVw noLp).spec f args = some r → (∃ fn, Tryd.prog.funcs[f]? = some fn ∧ (fn.name == "runtime.NumGoroutine") = false ∧ fn.body.isNone = false) ∧ (∀ q, q ∈ r.2 → q.1.truth (rhoV s x) = q.2) ∧
    ∀ (N : Nat) (φ : Froz) (γ : Go.Sx.Place) (H : Heap) (w : World) (args' : Array Value), Rel N φ γ H w → φ.rho = rhoV s x → (∀ g l, tb.glob g = some l → ∀ j v, l[j]? = some v → φ g j = some v) → ArgsRel φ γ args args' →
      Calls Tryd.prog f args' w (fun e w' => ∃ cv, e = .returned cv ∧ Go.RowKit.Below w.heap.size w w' ∧ VRel φ γ r.1 cv) := by
  intro f args r h'
  have h : spVw f args = some r := h'
  clear h'
  unfold spVw at h
  split at h
  · rename_i hf
    obtain rfl : f = 36 := Nat.eq_of_beq_eq_true hf
    split at h
    · cases h
      refine ⟨known36, fun q hq => by simp at hq, fun N φ γ H w args' hr hρ hg ha => ?_⟩
      exact fns_of (sp := noSp) (lp := noLp) (tb' := tb) (s := s) (ρ := rhoV s x) rfl rfl (.inr rfl) (by rfl) hr ⟨hg, hρ⟩ ha
    · exact absurd h (by simp)
  · exact absurd h (by simp)
theorem specV0w (s : ByteArray) (x : Nat) : SpecOk Tryd.prog (tbVw.atS (rhoV s x) spVw noLp) :=
  ⟨fun f args r h => ⟨(specVw s x f args r h).1, (specVw s x f args r h).2.1, fun N φ γ H w args' hr hg ha => (specVw s x f args r h).2.2 N φ γ H w args' hr hg.rho hg.at_ ha⟩, fun _ _ _ _ _ _ _ => LoopGood.none (fun _ _ => rfl)⟩

/-- The loop's body. -/
def bodyVw : Code := match (tb.func 19).bind fun fn => fn.body with
  | some c => (loopsOf c).headD .skip
  | none => .skip
def pc0w : PC := addPC (.cmp .leq (.int .i64 0) (.ivar .i64 1)) true []
def pcIw : PC := addPC (.cmp .lss (.ivar .i64 1) (.len (.svar 0))) true pc0w
def roundsVw : List (PC × Sm) :=
  [(addPC (.cmp .eql (.ivar .i64 2) (.int .i64 0)) true pcIw, .out 1 []),
   (addPC (.cmp .eql (.ivar .i64 2) (.int .i64 0)) false pcIw, .next [(1, .int .i64, .bin .add .i64 (.ivar .i64 1) (.int .i64 1))]),
   (addPC (.cmp .lss (.ivar .i64 1) (.len (.svar 0))) false pc0w, .out 0 [])]
def runVw (r : Nat → Value) := sums SV DVw (execF kn0 (callF kn0 Tryd.prog (tbVw.atS r spVw noLp) 300 300) Tryd.prog (tbVw.atS r spVw noLp) 300 (.code bodyVw) pc0w DVw.hd)
theorem run_Vw (r : Nat → Value) : runVw r = some roundsVw := by kernel_rfl
theorem body_Vw : (match (tb.func 19).bind fun fn => fn.body with | some c => loopsOf c | none => []) = [bodyVw] := by kernel_rfl
theorem key_Vw : loopK bodyVw = 320 := by kernel_rfl

theorem round0w {s : ByteArray} {x : Nat} (h1 : kindN (byteAt s x) = 0) (h2 : x < s.size) : outV s x = 1 := by
  unfold outV
  rw [if_neg]
  intro ha
  exact (allOk_iff s).1 ha x h2 h1
theorem round2w {s : ByteArray} {x : Nat} (hx : InvV s x) (h2 : ¬ x < s.size) : outV s x = 0 := by
  unfold outV
  rw [if_pos]
  exact (allOk_iff s).2 (fun j hj => hx.2 j (by omega))
theorem round1w {s : ByteArray} (hs : s.size ≤ 1000) {x : Nat} (hx : InvV s x) (h1 : kindN (byteAt s x) ≠ 0) (h2 : x < s.size) : SmOk SV (rhoV s) (InvV s) (fun x => s.size - x) DVw (outV s) x (.next [(1, .int .i64, .bin .add .i64 (.ivar .i64 1) (.int .i64 1))]) := by
  refine ⟨x + 1, inv1 hx h1 h2, (by show s.size - (x + 1) < s.size - x; omega), fun n hn => same09 s x (x + 1) n hn, fun u hu => ?_, rfl⟩
  obtain rfl := List.mem_singleton.1 hu
  show Value.int .i64 ((SE.bin .add .i64 (.ivar .i64 1) (.int .i64 1)).num (rhoV s x)) = Value.int .i64 ((SE.ivar .i64 1).num (rhoV s (x + 1)))
  rw [up1 (by omega)]
theorem rounds_okw {s : ByteArray} (hs : s.size ≤ 1000) {x : Nat} (hx : InvV s x) : ∀ q, q ∈ roundsVw → q.1.holds (rhoV s x) → SmOk SV (rhoV s) (InvV s) (fun x => s.size - x) DVw (outV s) x q.2 := by
  have hx1 : x ≤ 1000 := Nat.le_trans hx.1 hs
  intro q hq hp
  unfold roundsVw at hq
  rcases List.mem_cons.1 hq with rfl | hq
  · have h1 := t_eq hx1 (b := true) (fact hp)
    have h2 := t_lt hx1 (b := true) (fact (more hp))
    exact ⟨(round0w (by simpa using h1) (by simpa using h2)).symm, fun u hu => by simp at hu⟩
  rcases List.mem_cons.1 hq with rfl | hq
  · have h1 := t_eq hx1 (b := false) (fact hp)
    have h2 := t_lt hx1 (b := true) (fact (more hp))
    exact round1w hs hx (by simpa using h1) (by simpa using h2)
  rcases List.mem_cons.1 hq with rfl | hq
  · have h2 := t_lt hx1 (b := false) (fact hp)
    exact ⟨(round2w hx (by simpa using h2)).symm, fun u hu => by simp at hu⟩
  · simp at hq

theorem fn18w : ∃ fn c, tb.func 19 = some fn ∧ fn.body = some c ∧ fn.ntmps = 18 ∧ loopsOf c = [bodyVw] := ⟨Tryd.f19, _, by kernel_rfl, rfl, by kernel_rfl, by kernel_rfl⟩
theorem codeVw : codeOk 18 bodyVw = true := by kernel_rfl
theorem loopsVw : loopsOf bodyVw = [] := by kernel_rfl
theorem known_Vw {s : ByteArray} (hs : s.size ≤ 1000) {x : Nat} (hx : InvV s x) : SoundAt Tryd.prog (tbVw.atS (rhoV s x) spVw noLp) 18 (.code (.loop bodyVw)) hdVw [(((DVw.outs.getD (outV s x) (.normal, .leaf, [])).1), { env := (DVw.outs.getD (outV s x) (.normal, .leaf, [])).2.1, h := hdVw.h })] :=
  loop_known (D := DVw) tbV_okw tbV_wfw (fun x => specV0w s x) (by omega) codeVw (fun x d hd => by rw [loopsVw] at hd; simp at hd) (by kernel_rfl) (by kernel_rfl) (by kernel_rfl)
    (kn := kn0) (n0 := 300) (n1 := 300) (n2 := 300) (fun x => kn_none) (pc := pc0w) (fun x hx => addPC_ok (PC.holds_nil _) (by
      rw [(truth_cmp _ _ _).2.2.2.1, num1 s x (Nat.le_trans hx.1 hs)]
      simp [SE.num, SE.all])) (fun r => run_Vw r) (fun x hx => rounds_okw hs hx) (fun x hx => by
      show outV s x < 2
      unfold outV
      split <;> omega) x hx

theorem specLw {s : ByteArray} (hs : s.size ≤ 1000) : SpecOk Tryd.prog (tbVw.atS (rhoV s 0) spVw lpVw) where
  fns f args r h := ⟨(specVw s 0 f args r h).1, (specVw s 0 f args r h).2.1, fun N φ γ H w args' hr hg ha => (specVw s 0 f args r h).2.2 N φ γ H w args' hr hg.rho hg.at_ ha⟩
  loops f fn c hfn hc d hd := by
    obtain ⟨rfl, hfn⟩ := tbV_funcw (show tbVw.func f = some fn from hfn)
    obtain ⟨fn', c', h1, h2, h3, h4⟩ := fn18w
    obtain rfl : fn = fn' := Option.some.inj (hfn.symm.trans h1)
    obtain rfl : c = c' := Option.some.inj (hc.symm.trans h2)
    rw [h4, List.mem_singleton] at hd
    subst hd
    intro st t ht
    have ht : lpVw (loopK bodyVw) st = some t := ht
    unfold lpVw at ht
    split at ht
    · rename_i hcd
      simp only [Bool.and_eq_true, Bool.not_eq_true'] at hcd
      obtain ⟨_, hh, hle, hu, hin⟩ := hcd
      cases ht
      have hh := sameH_eq hh
      have he : EnvLe (rhoV s 0) st.env (rhoV s 0) hdVw.env := by
        unfold upd0w at hu
        split at hu
        · rename_i hup
          refine env_le (fun _ _ => rfl) hle hup (fun u hu => ?_)
          rw [List.mem_singleton.1 hu]
          show Value.int .i64 0 = Value.int .i64 (IntKind.i64.wrap 0)
          rw [wrap_id .i64 0 (by decide) (by decide)]
        · exact absurd hu (by simp)
      have hk := known_Vw hs (x := 0) ⟨Nat.zero_le _, fun j hj => absurd hj (by omega)⟩
      have hs2 := SoundAt.weaken (tb := tbVw.atS (rhoV s 0) spVw noLp) (tb' := tbVw.atS (rhoV s 0) spVw lpVw) rfl rfl hin (hd := hdVw) hh he hk
      rw [h3]
      have e : ((treeVw.eval (tbVw.atS (rhoV s 0) spVw lpVw).rho).1, ({ env := (treeVw.eval (tbVw.atS (rhoV s 0) spVw lpVw).rho).2, h := st.h } : St)) = (((DVw.outs.getD (outV s 0) (.normal, .leaf, [])).1), { env := (DVw.outs.getD (outV s 0) (.normal, .leaf, [])).2.1, h := hdVw.h }) := by
        rw [hh]
        show ((treeVw.eval (rhoV s 0)).1, ({ env := (treeVw.eval (rhoV s 0)).2, h := H0 } : St)) = _
        unfold outV
        unfold treeVw
        unfold OTree.eval
        rw [show (SE.bvar 9).truth (rhoV s 0) = allOk s from rfl]
        cases allOk s <;> rfl
      rw [e]
      exact hs2
    · exact absurd ht (by simp)


/-! ### Texts of up to sixteen letters -/
def pcShort (b : Bool) : PC := addPC (.bvar 9) b (addPC (.cmp .leq (.len (.svar 0)) (.int .i64 16)) true [])
def runsTo (b : Bool) (x : Option (List (PC × V × Heap))) : Bool := if b then allTrue x else allNo x
theorem run18t (r : Nat → Value) : runsTo true (callF kn0 Tryd.prog (tbV.atS r spV lpV) 300 300 (pcShort true) 18 [.sym .str (.svar 0)] H0) = true := by kernel_rfl
theorem run18f (r : Nat → Value) : runsTo false (callF kn0 Tryd.prog (tbV.atS r spV lpV) 300 300 (pcShort false) 18 [.sym .str (.svar 0)] H0) = true := by kernel_rfl
theorem run19t (r : Nat → Value) : runsTo true (callF kn0 Tryd.prog (tbVw.atS r spVw lpVw) 300 300 (pcShort true) 19 [.sym .str (.svar 0)] H0) = true := by kernel_rfl
theorem run19f (r : Nat → Value) : runsTo false (callF kn0 Tryd.prog (tbVw.atS r spVw lpVw) 300 300 (pcShort false) 19 [.sym .str (.svar 0)] H0) = true := by kernel_rfl
theorem leafYes_ok {ρ : Nat → Value} {r : PC × V × Heap} (h : leafOk r = true) (hp : r.1.holds ρ) {φ : Froz} {γ : Go.Sx.Place} (hφ : φ.rho = ρ) : V.scal 12 r.2.1 = true ∧ ∀ cv, VRel φ γ r.2.1 cv → cv = .bool true := by
  have ht := leafOk_ok h hp
  refine ⟨?_, fun cv hc => ht.rel hφ hc⟩
  rcases ht with e | ⟨x, e, _⟩ <;> rw [e] <;> rfl
theorem to_calls {tbx : Tb} (hok : tbx.Ok Tryd.prog) (hwf : tbx.Wf) (hgl : tbx.glob = tb.glob) {f : Nat} {sp : Sp} {lp : Lp} {s : ByteArray} (hsp : SpecOk Tryd.prog (tbx.atS (rhoV s 0) sp lp)) {b : Bool} {pc : PC} (hpc : pc.holds (rhoV s 0))
    (hrun : runsTo b (callF kn0 Tryd.prog (tbx.atS (rhoV s 0) sp lp) 300 300 pc f [.sym .str (.svar 0)] H0) = true) {N : Nat} {φ : Froz} {γ : Go.Sx.Place} {H : Heap} {w : World} (hr : Rel N φ γ H w) (hg : ∀ g l, tb.glob g = some l → ∀ j v, l[j]? = some v → φ g j = some v) :
    Calls Tryd.prog f #[.string s] w (fun e w' => e = .returned (.bool b) ∧ Below w.heap.size w w') := by
  obtain ⟨L, hL, hall⟩ : ∃ L, callF kn0 Tryd.prog (tbx.atS (rhoV s 0) sp lp) 300 300 pc f [.sym .str (.svar 0)] H0 = some L ∧ (if b then L.all leafOk else L.all leafNo) = true := by
    unfold runsTo allTrue allNo at hrun
    cases b
    · simp only [Bool.false_eq_true, if_false] at hrun
      split at hrun
      · rename_i L hL; exact ⟨L, hL, hrun⟩
      · exact absurd hrun (by simp)
    · simp only [if_true] at hrun
      split at hrun
      · rename_i L hL; exact ⟨L, hL, hrun⟩
      · exact absurd hrun (by simp)
  obtain ⟨r, h3, h4, h5⟩ := callF_ok (fun f args r hr q hq => (hsp.fns f args r hr).2.1 q hq) (kn_none) 300 _ _ _ _ _ hL hpc
  have hr' : Rel N (φ.re (rhoV s 0)) γ H0 w := ⟨hr.ge, fun b k h => by simp [H0, Heap.get] at h, hr.froz, hr.lt, fun b x k hx hk => by simp [H0, Heap.get] at hk, fun b x k hx hk => by simp [H0, Heap.get] at hk, fun b x k b' x' k' _ _ hk => by simp [H0, Heap.get] at hk⟩
  refine (calls_flat (tb := tbx.atS (rhoV s 0) sp lp) (φ := φ.re (rhoV s 0)) (hok.atS _ _ _) hwf hsp h5 (by rfl) hr' ⟨fun g l h => hg g l (by rw [← hgl]; exact h), rfl⟩ (args' := #[.string s]) ⟨rfl, fun j v hj => by
    match j, hj with
    | 0, hj => simp at hj; subst hj; exact .sym rfl⟩).mono ?_
  rintro e w' ⟨q, hq, cv, rfl, hb, hv⟩
  rw [List.mem_singleton.1 hq] at hv
  cases b
  · obtain ⟨h6, h7⟩ := leafNo_ok (List.all_eq_true.1 (by simpa using hall) r h3) h4 (φ := φ.re (rhoV s 0)) (γ := γ) rfl
    rw [h7 cv (hv h6)]
    exact ⟨rfl, hb⟩
  · obtain ⟨h6, h7⟩ := leafYes_ok (List.all_eq_true.1 (by simpa using hall) r h3) h4 (φ := φ.re (rhoV s 0)) (γ := γ) rfl
    rw [h7 cv (hv h6)]
    exact ⟨rfl, hb⟩
theorem pcShort_ok {s : ByteArray} (h : s.size ≤ 16) : (pcShort (allOk s)).holds (rhoV s 0) := addPC_ok (addPC_ok (PC.holds_nil _) (by
  rw [(truth_cmp _ _ _).2.2.2.1, numL]
  show decide ((s.size : Int) ≤ 16) = true
  simp; omega)) (by show (allOk s) = _; rfl)
/-- **Is a short text a signature: are all its letters of some kind.** -/
theorem valid_calls {f : Nat} (hf : f = 18 ∨ f = 19) {s : ByteArray} (h : s.size ≤ 16) {N : Nat} {φ : Froz} {γ : Go.Sx.Place} {H : Heap} {w : World} (hr : Rel N φ γ H w) (hg : ∀ g l, tb.glob g = some l → ∀ j v, l[j]? = some v → φ g j = some v) :
    Calls Tryd.prog f #[.string s] w (fun e w' => e = .returned (.bool (allOk s)) ∧ Below w.heap.size w w') := by
  have hp := pcShort_ok h
  rcases hf with rfl | rfl
  · refine to_calls tbV_ok tbV_wf rfl (specL (s := s) (by omega)) hp ?_ hr hg
    cases allOk s
    · exact run18f _
    · exact run18t _
  · refine to_calls tbV_okw tbV_wfw rfl (specLw (s := s) (by omega)) hp ?_ hr hg
    cases allOk s
    · exact run19f _
    · exact run19t _
end
end Go.Proofs.YtdblaloadklcfaaDoor
