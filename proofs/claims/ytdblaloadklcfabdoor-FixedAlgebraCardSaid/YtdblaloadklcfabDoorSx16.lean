/- Calls: what the interpreter tells of a call holds in the model. -/
import Derived.Test.YtdblaloadklcfabDoorSx15
set_option linter.unusedVariables false
set_option linter.unusedSimpArgs false
namespace Go.Sx
noncomputable section

def Tb.Wf (tb : Tb) : Prop := ∀ f fn c, tb.func f = some fn → fn.body = some c → codeOk fn.ntmps c = true

theorem putArgs_get : ∀ (args : List V) (i : Nat) (env : Env), i + args.length < 9223372036854775808 → ∀ t, evT (putArgs i args env) t = if i ≤ t ∧ t < i + args.length then args.getD (t - i) V.undef else evT env t
  | [], i, env, _, t => by
    rw [if_neg (by simp)]
    rfl
  | v :: l, i, env, h, t => by
    simp only [List.length_cons] at h
    rw [putArgs, putArgs_get l (i + 1) _ (by omega) t, evT_set _ i v]
    by_cases h1 : t = i
    · subst h1
      rw [if_neg (by omega), if_pos rfl, if_pos (by simp)]
      simp
    · by_cases h2 : i + 1 ≤ t ∧ t < i + 1 + l.length
      · rw [if_pos h2, if_pos (by simp; omega)]
        rw [show t - i = (t - (i + 1)) + 1 by omega]
        simp
      · rw [if_neg h2, if_neg h1, if_neg (by simp; omega)]

theorem args_frame {φ : Froz} {γ : Place} {args : List V} {args' : Array Value} {nt : Nat} (h : ArgsRel φ γ args args') (hnt : nt < 1048576) (hl : args.length ≤ nt) :
    Fr φ γ nt (putArgs 0 args .leaf) { tmps := args' ++ Array.replicate (nt - args'.size) undef, defers := [] } where
  rel := fun t => by
    rw [putArgs_get args 0 .leaf (by omega) t]
    simp only [Nat.zero_le, true_and, Nat.zero_add, Nat.sub_zero]
    rw [Array.getD_eq_getD_getElem?]
    by_cases ht : t < args.length
    · rw [if_pos ht, Array.getElem?_append_left (by have := h.1; omega), ← Array.getD_eq_getD_getElem?]
      have := h.2 t args[t] (by simp [ht])
      simpa [List.getD_eq_getElem?_getD, ht] using this
    · rw [if_neg ht]
      have e : evT (Tr.leaf : Env) t = V.undef := rfl
      rw [e]
      have hu : VRel φ γ V.undef undef := .tuple rfl (fun j v hj => by simp at hj)
      rw [Array.getElem?_append_right (by have := h.1; omega)]
      rw [Array.getElem?_replicate]
      split <;> exact hu
  size := by have := h.1; simp; omega
  defers := rfl

/-- A result of the model. -/
def resSem (tmps : Array Value) : ResultVar → Sem Value
  | .tmp t => pure (tmps.getD t undef)
  | .cell a t => do loadVar t (← asAddr (tmps.getD a undef))

theorem results_eq (fn : Func) (tmps : Array Value) : results fn tmps = (do
    let vs ← fn.results.mapM (resSem tmps)
    pure (if h : vs.size = 1 then vs[0] else .tuple vs)) := rfl

section
variable {P : Program} {tb : Tb} (hok : tb.Ok P)
include hok

theorem results_list {N : Nat} {φ : Froz} {γ : Place} {st : St} {w : World} {a : Act} (hr : Rel N φ γ st.h w) (he : ERel φ γ st.env a) : ∀ {l : List ResultVar} {vs : List V}, l.mapM (resultOf tb st) = some vs →
    ∃ cs : List Value, (l.mapM (resSem a.tmps)).run P w = .ok cs w ∧ cs.length = vs.length ∧ ∀ (j : Nat) (v : V), vs[j]? = some v → VRel φ γ v (cs.getD j undef)
  | [], vs, h => by simp at h; subst h; exact ⟨[], rfl, rfl, fun j v hj => by simp at hj⟩
  | r :: l, vs, h => by
    rw [List.mapM_cons] at h
    simp only [Option.bind_eq_bind, Option.bind_eq_some_iff, Option.pure_def, Option.some.injEq] at h
    obtain ⟨v, hv, vs2, hvs, rfl⟩ := h
    obtain ⟨cs, h1, h2, h3⟩ := results_list hr he hvs
    have head : ∃ c, (resSem a.tmps r).run P w = .ok c w ∧ VRel φ γ v c := by
      cases r with
      | tmp t =>
        simp only [resultOf, Option.some.injEq] at hv
        subst hv
        exact ⟨_, rfl, he t⟩
      | cell x t =>
        simp only [resultOf] at hv
        obtain ⟨ad, cv, hx, hrun, hv2⟩ := load_run hok hr (he x) hv
        exact ⟨cv, by simp [resSem, hx, asAddr, hrun], hv2⟩
    obtain ⟨c, hc1, hc2⟩ := head
    refine ⟨c :: cs, ?_, by simp [h2], fun j u hj => ?_⟩
    · rw [List.mapM_cons]
      simp only [Sem.run_bind, Sem.run_pure]
      rw [hc1]
      simp only [Result.andThen_ok]
      rw [h1]
      rfl
    · match j, hj with
      | 0, hj => simp at hj; subst hj; exact hc2
      | j + 1, hj => simpa using h3 j u (by simpa using hj)

theorem results_ok {N : Nat} {φ : Froz} {γ : Place} {st : St} {w : World} {a : Act} {fn : Func} {v : V} (hr : Rel N φ γ st.h w) (he : ERel φ γ st.env a) (h : resultsOf tb fn st = some v) : ∃ cv, (results fn a.tmps).run P w = .ok cv w ∧ VRel φ γ v cv := by
  unfold resultsOf at h
  obtain ⟨vs, hvs, rfl⟩ := Option.map_eq_some_iff.1 h
  obtain ⟨cs, h1, h2, h3⟩ := results_list hok hr he hvs
  refine ⟨if hh : cs.toArray.size = 1 then cs.toArray[0] else .tuple cs.toArray, ?_, ?_⟩
  · rw [results_eq, Array.mapM_eq_mapM_toList]
    simp only [Sem.run_bind, Sem.run_map]
    rw [h1]
    rfl
  · match vs, h2, h3 with
    | [v], h2, h3 =>
      have hs : cs.toArray.size = 1 := by simpa using h2
      rw [dif_pos hs]
      have := h3 0 v rfl
      have hl : 0 < cs.length := by rw [h2]; simp
      simpa [List.getD_eq_getElem?_getD, hl] using this
    | [], h2, h3 =>
      rw [dif_neg (by simp [h2])]
      exact .tuple (by simpa using h2) (fun j v hj => by simp at hj)
    | v :: u :: vs, h2, h3 =>
      rw [dif_neg (by simp [h2])]
      refine .tuple (by simpa using h2) (fun j x hj => ?_)
      have := h3 j x hj
      simpa [Array.getD_eq_getD_getElem?, List.getD_eq_getElem?_getD] using this

theorem stepCall_ok (hwf : tb.Wf) {cl : CallFn} (hcl : CallOk P tb cl) (hkn : Known P cl) (hgr : Grows cl) (hsta : Stat cl) (n : Nat) : CallOk P tb (stepCall P tb n cl) := by
  intro f args H L h N Lim φ γ w args' hr hb hg hlim hf ha
  unfold stepCall at h
  split at h
  · exact absurd h (by simp)
  · rename_i fn hfn
    split at h
    · exact absurd h (by simp)
    · rename_i c hc
      split at h
      · rename_i hcond
        simp only [Bool.and_eq_true, decide_eq_true_eq] at hcond
        simp only [Option.bind_eq_some_iff] at h
        obtain ⟨M, hM, h⟩ := h
        have hfr := args_frame ha hcond.1 hcond.2
        have hx := (exec_sound hok hcl hkn hgr hsta hcond.1 n _ _ _ hM (hwf _ _ _ hfn hc) N Lim φ γ w _ hr hg hfr hb (fun q hq => by
          obtain ⟨Lq, hLq, hin⟩ := bindL_in h q hq
          split at hLq
          · obtain ⟨v, _, rfl⟩ := Option.map_eq_some_iff.1 hLq
            exact hlim _ (hin _ (List.mem_singleton_self _))
          · obtain ⟨v, _, rfl⟩ := Option.map_eq_some_iff.1 hLq
            exact hlim _ (hin _ (List.mem_singleton_self _))
          · exact absurd hLq (by simp)) hf).1
        refine calls_of_wp (hok.func _ _ hfn).1 hc (wp_mono hx ?_)
        intro e a1 w1 ho
        obtain ⟨q, hq, he, φ1, γ1, T1, hs1, hf1⟩ := ho
        obtain ⟨Lq, hLq, hin⟩ := bindL_in h q hq
        have fin : ∀ v, resultsOf tb fn q.2 = some v → (v, q.2.h) ∈ L → a1.defers = [] ∧ ∃ v, (results fn a1.tmps).run P w1 = .ok v w1 ∧ ∃ r ∈ L, ∃ φ' γ' cv T, Ending.returned v = .returned cv ∧ Step N φ γ H w φ' γ' r.2 w1 T ∧ VRel φ' γ' r.1 cv := by
          intro v hv hin2
          obtain ⟨cv, h1, h2⟩ := results_ok hok hs1.rel hf1.rel hv
          exact ⟨hf1.defers, cv, h1, (v, q.2.h), hin2, φ1, γ1, cv, T1, rfl, hs1, h2⟩
        cases e <;> cases hq1 : q.1 <;> rw [hq1] at he hLq <;> first | exact he.elim | skip
        · obtain ⟨v, hv, rfl⟩ := Option.map_eq_some_iff.1 hLq
          exact fin v hv (hin _ (List.mem_singleton_self _))
        · exact absurd hLq (by simp)
        · exact absurd hLq (by simp)
        · obtain ⟨v, hv, rfl⟩ := Option.map_eq_some_iff.1 hLq
          exact fin v hv (hin _ (List.mem_singleton_self _))
      · exact absurd h (by simp)

theorem stepCall_known {cl : CallFn} (n : Nat) : Known P (stepCall P tb n cl) := by
  intro f args H L h
  unfold stepCall at h
  split at h
  · exact absurd h (by simp)
  · rename_i fn hfn
    split at h
    · exact absurd h (by simp)
    · rename_i c hc
      exact ⟨fn, (hok.func _ _ hfn).1, (hok.func _ _ hfn).2, by rw [hc]; rfl⟩

theorem call_known : ∀ n, Known P (call P tb n)
  | 0 => by intro f args H L h; simp [call] at h
  | n + 1 => stepCall_known hok n

/-- **What the interpreter tells of a call holds in the model.** -/
theorem call_sound (hwf : tb.Wf) : ∀ n, CallOk P tb (call P tb n)
  | 0 => by intro f args H L h; simp [call] at h
  | n + 1 => stepCall_ok hok hwf (call_sound hwf n) (call_known hok n) (call_grows n) (call_stat n) n
end

end
end Go.Sx
