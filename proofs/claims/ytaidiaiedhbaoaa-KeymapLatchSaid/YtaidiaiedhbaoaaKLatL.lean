/- KeymapLatch: a list of more than twenty keys; the chapter's examples. -/
import Derived.Test.YtaidiaiedhbaoaaKLatR
set_option linter.unusedVariables false
namespace Go.Proofs.Ytaidiaiedhbaoaa
open Go.Sx
noncomputable section

theorem tb0_ok : tb0.Ok Try.prog := tbOf_ok rfl rfl (by kernel_rfl) (by kernel_rfl)
theorem tb_ok : tb.Ok Try.prog := ⟨tb0_ok.func, tb0_ok.desc, tb0_ok.info, tb0_ok.mixed⟩
theorem tb0_wf : tb0.Wf := tbOf_wf (by kernel_rfl)
theorem tb_wf : tb.Wf := fun f fn c h1 h2 => tb0_wf f fn c h1 h2
def tbP (ρ : Nat → Value) : Tb := tb.atS ρ noSp noLp
theorem example_run (ρ : Nat → Value) : isTrue (callX Try.prog (tbP ρ) 300 10 [] H0) = true := by kernel_rfl
theorem kn_ok (ρ : Nat → Value) : KnOk kn (call Try.prog (tbP ρ) 300) := by
  intro f v hv
  unfold kn at hv
  split at hv
  · rename_i hf
    cases hv
    rw [show f = 10 by simpa using hf]
    have h := example_run ρ
    rw [callX_eq] at h
    exact ⟨rfl, isTrue_eq h⟩
  · exact absurd hv (by simp)

/-! ### More than twenty keys -/
def seqL : Code → Code
  | .seq a _ => a
  | c => c
def seqR : Code → Code
  | .seq _ b => b
  | c => c
def body7 : Code := match (tb.func 7).bind fun fn => fn.body with
  | some c => c
  | none => .skip
def r0 : Code := seqL body7
def d1 : Code := seqR body7
def a1 : Code := seqL d1
def d2 : Code := seqR d1
def r1 : Code := seqL a1
def k1 : Code := seqR a1
theorem body7_eq : body7 = .seq r0 (.seq (.seq r1 k1) d2) := by kernel_rfl
def longV (es : List (List V)) : V := .list false es .unk
def st0 (es : List (List V)) : St := { env := putArgs 0 [longV es] .leaf, h := H0 }
def st1 (es : List (List V)) : St := { env := (st0 es).env.set 2 (.val (.bool false)), h := H0 }
def st2 (es : List (List V)) (b : Bool) : St := { env := (((st1 es).env.set 12 (longV es)).set 13 (.val (.int .i64 es.length))).set 14 (.val (.bool b)), h := H0 }
theorem exec_r0 (ρ : Nat → Value) (es : List (List V)) : exec (call Try.prog (tbP ρ) 300) Try.prog (tbP ρ) 299 (.code r0) (st0 es) = some [(.normal, st1 es)] := by kernel_rfl
theorem exec_r1 (ρ : Nat → Value) (es : List (List V)) : exec (call Try.prog (tbP ρ) 300) Try.prog (tbP ρ) 297 (.code r1) (st1 es) = some [(.normal, st2 es (decide ((es.length : Int) > 20)))] := by kernel_rfl
theorem forget_1 (ρ : Nat → Value) (es : List (List V)) : forget (tbP ρ) (loopKey (.seq (.seq r1 k1) d2) + 1048576) (st1 es) = st1 es := by kernel_rfl
theorem forget_2 (ρ : Nat → Value) (es : List (List V)) (b : Bool) : forget (tbP ρ) (loopKey k1 + 1048576) (st2 es b) = st2 es b := by kernel_rfl
def isRet (L : Option (List (Ex × St))) : Bool :=
  match L with
  | some [(.ret, st)] => (match evT st.env 2 with
    | .val (.bool b) => b
    | _ => false)
  | _ => false
theorem exec_k1 (ρ : Nat → Value) (es : List (List V)) : isRet (exec (call Try.prog (tbP ρ) 300) Try.prog (tbP ρ) 297 (.code k1) (st2 es true)) = true := by kernel_rfl
theorem isRet_eq {L : Option (List (Ex × St))} (h : isRet L = true) : ∃ st, L = some [(.ret, st)] ∧ evT st.env 2 = .val (.bool true) := by
  unfold isRet at h
  split at h
  · rename_i st
    split at h
    · rename_i b hb
      subst h
      exact ⟨st, rfl, hb⟩
    · exact absurd h (by simp)
  · exact absurd h (by simp)
theorem fn7 : ∃ fn, (∀ ρ, (tbP ρ).func 7 = some fn) ∧ fn.body = some body7 ∧ (fn.ntmps < 1048576 && decide (1 ≤ fn.ntmps)) = true ∧ fn.results.toList = [.tmp 2] := ⟨Try.f7, fun _ => by kernel_rfl, by kernel_rfl, by kernel_rfl, by kernel_rfl⟩

theorem long_call (ρ : Nat → Value) (es : List (List V)) (h : 20 < es.length) : ∃ H', call Try.prog (tbP ρ) 301 7 [longV es] H0 = some [(.val (.bool true), H')] := by
  obtain ⟨fn, h1, h2, h3, h4⟩ := fn7
  obtain ⟨st, h5, h6⟩ := isRet_eq (exec_k1 ρ es)
  have hb : decide ((es.length : Int) > 20) = true := by simp; omega
  have e0 : exec (call Try.prog (tbP ρ) 300) Try.prog (tbP ρ) 298 (.code (.seq r1 k1)) (st1 es) = some [(.ret, st)] := by
    show ((exec (call Try.prog (tbP ρ) 300) Try.prog (tbP ρ) 297 (.code r1) (st1 es)).bind fun L => bindL L fun r => match r.1 with
      | .normal => exec (call Try.prog (tbP ρ) 300) Try.prog (tbP ρ) 297 (.code k1) (forget (tbP ρ) (loopKey k1 + 1048576) r.2)
      | e => some [(e, r.2)]) = _
    rw [exec_r1, hb]
    simp only [Option.bind_some, bindL, forget_2, h5, Option.map_some, List.append_nil]
  have e1 : exec (call Try.prog (tbP ρ) 300) Try.prog (tbP ρ) 299 (.code (.seq (.seq r1 k1) d2)) (st1 es) = some [(.ret, st)] := by
    show ((exec (call Try.prog (tbP ρ) 300) Try.prog (tbP ρ) 298 (.code (.seq r1 k1)) (st1 es)).bind fun L => bindL L fun r => match r.1 with
      | .normal => exec (call Try.prog (tbP ρ) 300) Try.prog (tbP ρ) 298 (.code d2) (forget (tbP ρ) (loopKey d2 + 1048576) r.2)
      | e => some [(e, r.2)]) = _
    rw [e0]
    simp only [Option.bind_some, bindL, Option.map_some, List.append_nil]
  have e2 : exec (call Try.prog (tbP ρ) 300) Try.prog (tbP ρ) 300 (.code body7) (st0 es) = some [(.ret, st)] := by
    rw [body7_eq]
    show ((exec (call Try.prog (tbP ρ) 300) Try.prog (tbP ρ) 299 (.code r0) (st0 es)).bind fun L => bindL L fun r => match r.1 with
      | .normal => exec (call Try.prog (tbP ρ) 300) Try.prog (tbP ρ) 299 (.code (.seq (.seq r1 k1) d2)) (forget (tbP ρ) (loopKey (.seq (.seq r1 k1) d2) + 1048576) r.2)
      | e => some [(e, r.2)]) = _
    rw [exec_r0]
    simp only [Option.bind_some, bindL, forget_1, e1, Option.map_some, List.append_nil]
  refine ⟨st.h, ?_⟩
  show (stepCall Try.prog (tbP ρ) 300 (call Try.prog (tbP ρ) 300) 7 [longV es] H0).map (mergeL H0) = _
  have e3 : stepCall Try.prog (tbP ρ) 300 (call Try.prog (tbP ρ) 300) 7 [longV es] H0 = some [(.val (.bool true), st.h)] := by
    unfold stepCall
    rw [if_neg (by decide)]
    rw [show (tbP ρ).spec 7 [longV es] = none from rfl]
    simp only [h1 ρ, h2]
    rw [if_pos (by simpa using h3)]
    rw [show ({ env := putArgs 0 [longV es] .leaf, h := H0 } : St) = st0 es from rfl, e2]
    simp only [Option.bind_some, bindL, resultsOf, h4, List.mapM_cons, List.mapM_nil, resultOf, h6, Option.map_some, List.append_nil, Option.pure_def, Option.bind_eq_bind]
  rw [e3]
  rfl
end
end Go.Proofs.Ytaidiaiedhbaoaa
