/- Calls: what the interpreter tells of a call holds in the model. -/
import Derived.Test.YtaidiaiedhbaoaaSx15
/- Calls: what the interpreter tells of a call holds in the model. -/
set_option linter.unusedVariables false
set_option linter.unusedSimpArgs false
namespace Go.Sx
noncomputable section

structure HeapEq (A B : Heap) : Prop where
  next : A.next = B.next
  base : A.base = B.base
  low : A.low = B.low
  get : ∀ b, A.get b = B.get b

theorem agree_eq {H A B : Heap} (ha : HG H A) (hb : HG H B) (h : Heap.agree H A B = true) : HeapEq A B := by
  unfold Heap.agree at h
  simp only [Bool.and_eq_true, List.all_eq_true, List.mem_range] at h
  obtain ⟨h1, h2, h3⟩ := h
  have h1 := Nat.eq_of_beq_eq_true h1
  have h2 : A.low = B.low := by simpa using h2
  refine ⟨h1, ha.base.trans hb.base.symm, h2, fun b => ?_⟩
  by_cases hlt : b < fromB H A
  · have hbb : b < H.base := by
      unfold fromB at hlt
      split at hlt <;> omega
    have hlow : ¬ lowGe A.low b := by
      unfold fromB at hlt
      intro hl
      split at hlt
      · rename_i l hl2
        rw [hl2] at hl
        simp only [lowGe] at hl
        omega
      · rename_i hl2
        rw [hl2] at hl
        exact hl
    rw [ha.same b hbb hlow, hb.same b hbb (by rw [← h2]; exact hlow)]
  · by_cases hn : b < A.next
    · have := h3 (b - fromB H A) (by omega)
      rw [show fromB H A + (b - fromB H A) = b by omega] at this
      unfold sameO at this
      split at this
      · rename_i x y hx hy
        rw [hx, hy, Blk.same_eq this]
      · rename_i hx hy
        rw [hx, hy]
      · exact absurd this (by simp)
    · have e1 : A.get b = none := by
        cases hx : A.get b with
        | none => rfl
        | some k => exact absurd (ha.wf.2.1 b k hx) hn
      have e2 : B.get b = none := by
        cases hx : B.get b with
        | none => rfl
        | some k => exact absurd (hb.wf.2.1 b k hx) (by omega)
      rw [e1, e2]

theorem mergeL_cov {H : Heap} : ∀ {L : List (V × Heap)}, (∀ r, r ∈ L → HG H r.2) → ∀ r, r ∈ L → ∃ q, q ∈ mergeL H L ∧ q.1 = r.1 ∧ HeapEq r.2 q.2
  | [], _, r, h => by simp at h
  | x :: l, hg, r, h => by
    have hgl : ∀ r, r ∈ l → HG H r.2 := fun r hr => hg r (List.mem_cons_of_mem _ hr)
    simp only [mergeL]
    rcases List.mem_cons.1 h with rfl | h
    · split
      · rename_i ha
        rw [List.any_eq_true] at ha
        obtain ⟨q, hq, hs⟩ := ha
        simp only [Bool.and_eq_true] at hs
        exact ⟨q, hq, (V.same_eq _ _ _ hs.1).symm, agree_eq (hg _ List.mem_cons_self) (hgl q (mergeL_sub hq)) hs.2⟩
      · exact ⟨r, List.mem_cons_self, rfl, rfl, rfl, rfl, fun _ => rfl⟩
    · obtain ⟨q, h1, h2⟩ := mergeL_cov hgl r h
      split
      · exact ⟨q, h1, h2⟩
      · exact ⟨q, List.mem_cons_of_mem _ h1, h2⟩

theorem Rel.eq {N : Nat} {φ : Froz} {γ : Place} {A B : Heap} {w : World} (h : Rel N φ γ A w) (e : HeapEq A B) : Rel N φ γ B w :=
  ⟨h.ge, fun b k hk => by rw [← e.next]; exact h.keys b k (by rw [e.get]; exact hk), h.froz, h.lt, fun b x k hx hk => h.blk b x k hx (by rw [e.get]; exact hk), fun b x k hx hk => h.free b x k hx (by rw [e.get]; exact hk),
    fun b x k b' x' k' hx hx' hk hk' => h.inj b x k b' x' k' hx hx' (by rw [e.get]; exact hk) (by rw [e.get]; exact hk')⟩
theorem Step.eq {N : Nat} {φ φ' : Froz} {γ γ' : Place} {H A B : Heap} {w w' : World} {T : Nat → Prop} (h : Step N φ γ H w φ' γ' A w' T) (e : HeapEq A B) : Step N φ γ H w φ' γ' B w' T :=
  ⟨h.fle, h.ple, h.rel.eq e, h.os, h.tape, h.output, h.size, by rw [← e.next]; exact h.next, by rw [← e.base]; exact h.base, h.fr, fun b x hx => by rw [← e.next]; exact h.dom b x hx, fun b hb => by rw [← e.next]; exact h.tlt b hb,
    fun b hb ht => by rw [← e.low]; exact h.low b hb ht, fun b hb => by rw [← e.low]; exact h.mono b hb, h.fdom⟩

def Tb.Wf (tb : Tb) : Prop := ∀ f fn c, tb.func f = some fn → fn.body = some c → codeOk fn.ntmps c = true

theorem putArgs_get : ∀ (args : List V) (i : Nat) (env : Env), i + args.length < 9223372036854775808 → ∀ t, evT (putArgs i args env) t = if i ≤ t ∧ t < i + args.length then args.getD (t - i) V.undef else evT env t
  | [], i, env, _, t => by
    rw [if_neg (by simp)]
    rfl
  | v :: l, i, env, h, t => by
    simp only [List.length_cons] at h
    rw [putArgs, putArgs_get l (i + 1) _ (by omega) t, evT_set _ i v]
    by_cases h1 : t = i
    · subst h1
      rw [if_neg (by omega), if_pos rfl, if_pos (by simp)]
      simp
    · by_cases h2 : i + 1 ≤ t ∧ t < i + 1 + l.length
      · rw [if_pos h2, if_pos (by simp; omega)]
        rw [show t - i = (t - (i + 1)) + 1 by omega]
        simp
      · rw [if_neg h2, if_neg h1, if_neg (by simp; omega)]

theorem args_frame {φ : Froz} {γ : Place} {args : List V} {args' : Array Value} {nt : Nat} (h : ArgsRel φ γ args args') (hnt : nt < 1048576) (hl : args.length ≤ nt) :
    Fr φ γ none [] nt (putArgs 0 args .leaf) { tmps := args' ++ Array.replicate (nt - args'.size) undef, defers := [] } where
  rel := fun t => by
    rw [putArgs_get args 0 .leaf (by omega) t]
    simp only [Nat.zero_le, true_and, Nat.zero_add, Nat.sub_zero]
    rw [Array.getD_eq_getD_getElem?]
    by_cases ht : t < args.length
    · rw [if_pos ht, Array.getElem?_append_left (by have := h.1; omega), ← Array.getD_eq_getD_getElem?]
      have := h.2 t args[t] (by simp [ht])
      simpa [List.getD_eq_getElem?_getD, ht] using this
    · rw [if_neg ht]
      have e : evT (Tr.leaf : Env) t = V.undef := rfl
      rw [e]
      have hu : VRel φ γ V.undef undef := .tuple rfl (fun j v hj => by simp at hj)
      rw [Array.getElem?_append_right (by have := h.1; omega)]
      rw [Array.getElem?_replicate]
      split <;> exact hu
  size := by have := h.1; simp; omega
  defers := rfl
  rnd := fun h => by simp at h

/-- A result of the model. -/
def resSem (tmps : Array Value) : ResultVar → Sem Value
  | .tmp t => pure (tmps.getD t undef)
  | .cell a t => do loadVar t (← asAddr (tmps.getD a undef))

theorem results_eq (fn : Func) (tmps : Array Value) : results fn tmps = (do
    let vs ← fn.results.mapM (resSem tmps)
    pure (if h : vs.size = 1 then vs[0] else .tuple vs)) := rfl

section
variable {P : Program} {tb : Tb} (hok : tb.Ok P)
include hok

theorem results_list {N : Nat} {φ : Froz} {γ : Place} {st : St} {w : World} {a : Act} (hr : Rel N φ γ st.h w) (he : ERel φ γ st.env a) : ∀ {l : List ResultVar} {vs : List V}, l.mapM (resultOf tb st) = some vs →
    ∃ cs : List Value, (l.mapM (resSem a.tmps)).run P w = .ok cs w ∧ cs.length = vs.length ∧ ∀ (j : Nat) (v : V), vs[j]? = some v → VRel φ γ v (cs.getD j undef)
  | [], vs, h => by simp at h; subst h; exact ⟨[], rfl, rfl, fun j v hj => by simp at hj⟩
  | r :: l, vs, h => by
    rw [List.mapM_cons] at h
    simp only [Option.bind_eq_bind, Option.bind_eq_some_iff, Option.pure_def, Option.some.injEq] at h
    obtain ⟨v, hv, vs2, hvs, rfl⟩ := h
    obtain ⟨cs, h1, h2, h3⟩ := results_list hr he hvs
    have head : ∃ c, (resSem a.tmps r).run P w = .ok c w ∧ VRel φ γ v c := by
      cases r with
      | tmp t =>
        simp only [resultOf, Option.some.injEq] at hv
        subst hv
        exact ⟨_, rfl, he t⟩
      | cell x t =>
        simp only [resultOf] at hv
        obtain ⟨ad, cv, hx, hrun, hv2⟩ := load_run hok hr (he x) hv
        exact ⟨cv, by simp [resSem, hx, asAddr, hrun], hv2⟩
    obtain ⟨c, hc1, hc2⟩ := head
    refine ⟨c :: cs, ?_, by simp [h2], fun j u hj => ?_⟩
    · rw [List.mapM_cons]
      simp only [Sem.run_bind, Sem.run_pure]
      rw [hc1]
      simp only [Result.andThen_ok]
      rw [h1]
      rfl
    · match j, hj with
      | 0, hj => simp at hj; subst hj; exact hc2
      | j + 1, hj => simpa using h3 j u (by simpa using hj)

theorem results_ok {N : Nat} {φ : Froz} {γ : Place} {st : St} {w : World} {a : Act} {fn : Func} {v : V} (hr : Rel N φ γ st.h w) (he : ERel φ γ st.env a) (h : resultsOf tb fn st = some v) : ∃ cv, (results fn a.tmps).run P w = .ok cv w ∧ VRel φ γ v cv := by
  unfold resultsOf at h
  obtain ⟨vs, hvs, rfl⟩ := Option.map_eq_some_iff.1 h
  obtain ⟨cs, h1, h2, h3⟩ := results_list hok hr he hvs
  refine ⟨if hh : cs.toArray.size = 1 then cs.toArray[0] else .tuple cs.toArray, ?_, ?_⟩
  · rw [results_eq, Array.mapM_eq_mapM_toList]
    simp only [Sem.run_bind, Sem.run_map]
    rw [h1]
    rfl
  · match vs, h2, h3 with
    | [v], h2, h3 =>
      have hs : cs.toArray.size = 1 := by simpa using h2
      rw [dif_pos hs]
      have := h3 0 v rfl
      have hl : 0 < cs.length := by rw [h2]; simp
      simpa [List.getD_eq_getElem?_getD, hl] using this
    | [], h2, h3 =>
      rw [dif_neg (by simp [h2])]
      exact .tuple (by simpa using h2) (fun j v hj => by simp at hj)
    | v :: u :: vs, h2, h3 =>
      rw [dif_neg (by simp [h2])]
      refine .tuple (by simpa using h2) (fun j x hj => ?_)
      have := h3 j x hj
      simpa [Array.getD_eq_getD_getElem?, List.getD_eq_getElem?_getD] using this

omit hok in
/-- A mark is taken: nobody's block changes. -/
theorem Step.mark {N : Nat} {φ φ' : Froz} {γ γ' : Place} {H H' : Heap} {w w1 : World} {T : Nat → Prop} (h : Step N φ γ H w φ' γ' H' w1 T) {D : Nat} (hD : w.heap.size ≤ D) (hd : w1.heap[D]? = some (.deferred (some []))) (hn : ∀ b x, γ' b = some x → x.1 ≠ D) :
    Step N φ γ H w φ' γ' H' { w1 with heap := w1.heap.setIfInBounds D (.deferred none) } T :=
  have same : ∀ i, i ≠ D → (w1.heap.setIfInBounds D (.deferred none))[i]? = w1.heap[i]? := fun i hi => by rw [Array.getElem?_setIfInBounds_ne (Ne.symm hi)]
  { h with
    rel := {
      ge := by have := h.rel.ge; simpa using this
      keys := h.rel.keys
      froz := fun b o v hv => by
        have h1 := h.rel.froz b o v hv
        have hb : b ≠ D := by
          rintro rfl
          simp [World.cell?, hd] at h1
        rw [← h1]
        exact World.cell?_of_block (w := w1) (same b hb)
      lt := fun b x hx => by have := h.rel.lt b x hx; simpa using this
      blk := fun b x k hx hk => (h.rel.blk b x k hx hk).mono (FLe.refl _) (PLe.refl _) (fun _ => same _ (hn b x hx))
      free := h.rel.free
      inj := h.rel.inj }
    size := by have := h.size; simpa using this
    fr := fun k hk ht => (same k (by omega)).trans (h.fr k hk ht) }

theorem leaves_ok {N : Nat} {φ φ1 : Froz} {γ γ1 : Place} {H : Heap} {w : World} {T : Nat → Prop} {fn : Func} {q : St} {a1 : Act} {v : V} {L : List (V × Heap)} (hrel : ERel φ1 γ1 q.env a1) (hv : resultsOf tb fn q = some v) (hin : (v, q.h) ∈ L) : ∀ (Ds : List Nat) (w1 : World),
    Step N φ γ H w φ1 γ1 q.h w1 T → Ds.Nodup → (∀ D, D ∈ Ds → w.heap.size ≤ D ∧ w1.heap[D]? = some (.deferred (some [])) ∧ ∀ b x, γ1 b = some x → x.1 ≠ D) → LeavesInM Fence.wide 0 P fn a1.tmps (Told N φ γ H w L) (Ds.map markOf) .returning w1
  | [], w1, hs, _, _ => by
    obtain ⟨cv, h1, h2⟩ := results_ok hok hs.rel hrel hv
    exact ⟨cv, h1, (v, q.h), hin, φ1, γ1, cv, T, rfl, hs, h2⟩
  | D :: Ds, w1, hs, hnd, hD => by
    obtain ⟨h1, h2, h3⟩ := hD D List.mem_cons_self
    have hnd := List.nodup_cons.1 hnd
    refine ⟨by simp, .inl ⟨D, { w1 with heap := w1.heap.setIfInBounds D (.deferred none) }, rfl, ?_, ?_⟩⟩
    · simp only [Instr.takeDeferred, Sem.run_bind, run_getObj (P := P) h2 (by simp), Result.andThen_ok]
      rw [run_setObj (P := P) (o' := .deferred none) h2 (by simp)]
      rfl
    · refine leaves_ok hrel hv hin Ds _ (hs.mark h1 h2 h3) hnd.2 (fun D' hD' => ?_)
      obtain ⟨h4, h5, h6⟩ := hD D' (List.mem_cons_of_mem _ hD')
      have hne : D ≠ D' := fun e => hnd.1 (e ▸ hD')
      exact ⟨h4, by show (w1.heap.setIfInBounds D _)[D']? = _; rw [Array.getElem?_setIfInBounds_ne hne]; exact h5, h6⟩

omit hok in
theorem Step.below {N : Nat} {φ : Froz} {γ : Place} {H : Heap} {w w' : World} (h : Rel N φ γ H w) (hb : Go.RowKit.Below w.heap.size w w') : Step N φ γ H w φ γ H w' (fun _ => False) where
  fle := FLe.refl _
  ple := PLe.refl _
  rel := {
    ge := Nat.le_trans h.ge hb.size
    keys := h.keys
    froz := fun b o v hv => by
      have h1 := h.froz b o v hv
      have hl := cell_lt h1
      rw [← h1]
      exact World.cell?_of_block (w := w) (hb.block b hl)
    lt := fun b x hx => ⟨Nat.lt_of_lt_of_le (h.lt b x hx).1 hb.size, (h.lt b x hx).2⟩
    blk := fun b x k hx hk => (h.blk b x k hx hk).mono (FLe.refl _) (PLe.refl _) (fun _ => hb.block _ (h.lt b x hx).1)
    free := h.free
    inj := h.inj }
  os := hb.os
  tape := hb.tape
  output := hb.output
  size := hb.size
  next := Nat.le_refl _
  base := rfl
  fr := fun k hk _ => hb.block k hk
  dom := fun _ _ h => .inl h
  tlt := fun _ h => h.elim
  low := fun _ _ h => h.resolve_right id
  mono := fun _ h => h
  fdom := fun _ _ _ h => .inl h

omit hok in
/-- What the tables of known functions and known loops say holds in the model. -/
structure SpecOk (P : Program) (tb : Tb) : Prop where
  fns : ∀ f args H r, tb.spec f args H = some r → (∃ fn, P.funcs[f]? = some fn ∧ (fn.name == "runtime.NumGoroutine") = false ∧ fn.body.isNone = false) ∧ (∀ q, q ∈ r.2 → q.1.truth tb.rho = q.2) ∧
    ∀ (N : Nat) (φ : Froz) (γ : Place) (w : World) (args' : Array Value), Rel N φ γ H w → GlobOk φ tb → ArgsRel φ γ args args' →
      Calls P f args' w (Told N φ γ H w [(r.1, H)])
  loops : ∀ f fn c, tb.func f = some fn → fn.body = some c → ∀ d, d ∈ loopsOf c → LoopGood P tb fn.ntmps d

theorem stepCall_fn (hwf : tb.Wf) (hsp : SpecOk P tb) {cl : CallFn} (hcl : CallOk P tb cl) (hkn : Known P cl) (hgr : Grows cl) (hsta : Stat cl) (n : Nat) : FnOk P tb (stepCall P tb n cl) := by
  intro f args H L hfb h N Lim φ γ w args' hr hb hg hlim hf ha
  unfold stepCall at h
  rw [if_neg (by simpa using hfb)] at h
  split at h
  · rename_i r hr1
    cases h
    exact (hsp.fns _ _ _ _ hr1).2.2 N φ γ w args' hr hg ha
  split at h
  · exact absurd h (by simp)
  · rename_i fn hfn
    split at h
    · exact absurd h (by simp)
    · rename_i c hc
      split at h
      · rename_i hcond
        simp only [Bool.and_eq_true, decide_eq_true_eq] at hcond
        simp only [Option.bind_eq_some_iff] at h
        obtain ⟨M, hM, h⟩ := h
        have hfr := args_frame ha hcond.1 hcond.2
        have hx := (exec_sound hok hcl hkn hgr hsta hcond.1 n _ _ _ hM (hwf _ _ _ hfn hc) (hsp.loops _ _ _ hfn hc) N Lim w.heap.size none [] φ γ w _ hr hg (Nat.le_refl _) MarksOk.nil hfr hb (fun q hq => by
          obtain ⟨Lq, hLq, hin⟩ := bindL_in h q hq
          split at hLq
          · obtain ⟨v, _, rfl⟩ := Option.map_eq_some_iff.1 hLq
            exact hlim _ (hin _ (List.mem_singleton_self _))
          · obtain ⟨v, _, rfl⟩ := Option.map_eq_some_iff.1 hLq
            exact hlim _ (hin _ (List.mem_singleton_self _))
          · exact absurd hLq (by simp)) hf).1
        refine callsIn_wide.1 (callsIn_of_wp_marks (F := Fence.wide) (n := 0) (hok.func _ _ hfn).1 hc trivial (wpIn_mono hx ?_))
        intro e a1 w1 ho
        obtain ⟨q, hq, he, φ1, γ1, T1, hs1, ds1, hm1, hf1⟩ := ho
        obtain ⟨Lq, hLq, hin⟩ := bindL_in h q hq
        have fin : ∀ v, resultsOf tb fn q.2 = some v → (v, q.2.h) ∈ L → LeavesInM Fence.wide 0 P fn a1.tmps (Told N φ γ H w L) a1.defers .returning w1 := by
          intro v hv hin2
          obtain ⟨Ds, hd1, hd2, hd3⟩ := hm1
          rw [hf1.defers, hd1]
          exact leaves_ok hok hf1.rel hv hin2 Ds w1 hs1 hd2 hd3
        cases e <;> cases hq1 : q.1 <;> rw [hq1] at he hLq <;> first | exact he.elim | skip
        · obtain ⟨v, hv, rfl⟩ := Option.map_eq_some_iff.1 hLq
          exact fin v hv (hin _ (List.mem_singleton_self _))
        · exact absurd hLq (by simp)
        · exact absurd hLq (by simp)
        · obtain ⟨v, hv, rfl⟩ := Option.map_eq_some_iff.1 hLq
          exact fin v hv (hin _ (List.mem_singleton_self _))
      · exact absurd h (by simp)

/-! ### Rounds of loops over functions -/
omit hok in
theorem putList_rel {φ : Froz} {γ : Place} : ∀ (ps : List Tmp) (args : List V) (args' : List Value) (env : Env) (tmps : Array Value), args.length = args'.length → (∀ j v, args[j]? = some v → VRel φ γ v (args'.getD j undef)) → (∀ p, p ∈ ps → p < tmps.size) → (∀ t, VRel φ γ (evT env t) (tmps.getD t undef)) →
    ∀ t, VRel φ γ (evT (putList ps args env) t) (((ps.zip args').foldl (fun tmps (x : Tmp × Value) => tmps.setIfInBounds x.1 x.2) tmps).getD t undef)
  | [], args, args', env, tmps, _, _, _, h => by simpa [putList] using h
  | p :: ps, [], args', env, tmps, hl, _, _, h => by
    have : args' = [] := List.length_eq_zero_iff.1 (by simpa using hl.symm)
    subst this
    simpa [putList] using h
  | p :: ps, v :: vs, [], env, tmps, hl, _, _, h => by simp at hl
  | p :: ps, v :: vs, x :: xs, env, tmps, hl, ha, hp, h => by
    simp only [putList, List.zip_cons_cons, List.foldl_cons]
    refine putList_rel ps vs xs _ _ (by simpa using hl) (fun j u hj => by simpa using ha (j + 1) u (by simpa using hj)) (fun q hq => by simpa using hp q (List.mem_cons_of_mem _ hq)) (fun t => ?_)
    have hpt := hp p List.mem_cons_self
    rw [evT_set]
    by_cases e : t = p
    · subst e
      rw [if_pos rfl]
      have : (tmps.setIfInBounds t x).getD t undef = x := by simp [Array.getD_eq_getD_getElem?, hpt]
      rw [this]
      simpa using ha 0 v rfl
    · rw [if_neg e]
      have : (tmps.setIfInBounds p x).getD t undef = tmps.getD t undef := by
        rw [Array.getD_eq_getD_getElem?, Array.getD_eq_getD_getElem?, Array.getElem?_setIfInBounds_ne (Ne.symm e)]
      rw [this]
      exact h t

omit hok in
theorem foldl_size : ∀ (l : List (Tmp × Value)) (tmps : Array Value), (l.foldl (fun tmps (x : Tmp × Value) => tmps.setIfInBounds x.1 x.2) tmps).size = tmps.size
  | [], _ => rfl
  | x :: l, tmps => by rw [List.foldl_cons, foldl_size l]; simp

omit hok in
theorem CallOk.bare {cl : CallFn} (h : CallOk P tb cl) : CallOk P tb.bare cl :=
  ⟨fun f args H L hf hc N Lim φ γ w args' hr hb hg => h.1 f args H L hf hc N Lim φ γ w args' hr hb ⟨hg.at_, hg.rho⟩, fun k args H L hc N Lim φ γ w args' hr hb hg => h.2 k args H L hc N Lim φ γ w args' hr hb ⟨hg.at_, hg.rho⟩⟩
theorem bare_ok : tb.bare.Ok P := ⟨hok.func, hok.desc, hok.info, hok.mixed⟩

theorem stepRound_ok {cl : CallFn} (hcl : CallOk P tb cl) (hkn : Known P cl) (hgr : Grows cl) (hsta : Stat cl) (n : Nat) {k : Nat} {args : List V} {H : Heap} {L : List (V × Heap)} (h : stepRound (exec cl P tb.bare n) k args H = some L)
    {N Lim : Nat} {φ : Froz} {γ : Place} {w : World} {args' : Array Value} (hr : Rel N φ γ H w) (hb : H.base ≤ H.next) (hg : GlobOk φ tb) (hlim : ∀ r, r ∈ L → r.2.next ≤ Lim) (hf : Fresh Lim γ H) (ha : ArgsRel φ γ args args') {l m e0 : Nat} (hγ : γ k = some (l, m, e0)) :
    RoundOk P args' w l (Told N φ γ H w L) := by
  obtain ⟨env, ps, asg, body, s, pend, M, hk, hl, hM, hL⟩ := stepRound_out h
  obtain ⟨hm0, r, hr0, hloop⟩ := hr.blk _ _ _ hγ hk
  have hr0 : w.heap[l]? = some (.loop r) := hr0
  have hm0 : m = 0 := hm0
  subst hm0
  have hsz : args'.size = r.params.size := by rw [hloop.params, ha.1]; exact hl
  have hy : (Instr.yield l args').run P w = .ok (.round l r.fn ((r.params.zip args').foldl (fun tmps (x : Tmp × Value) => tmps.setIfInBounds x.1 x.2) r.tmps) r.assign r.body) w := by
    simp only [Instr.yield, Instr.getLoop, Sem.run_bind, run_getObj (P := P) hr0 (by simp), Result.andThen_ok, Sem.run_pure]
    rw [if_neg (by simpa using hsz)]
    simp only [Sem.run_bind, Sem.run_pure, Result.andThen_ok]
  refine ⟨r.fn, _, r.assign, r.body, hy, ?_⟩
  refine roundIn_of_wpIn trivial ?_
  rw [hloop.assign, hloop.bodyIs]
  generalize htm : (r.params.zip args').foldl (fun tmps (x : Tmp × Value) => tmps.setIfInBounds x.1 x.2) r.tmps = tmps
  have htm' : tmps = (ps.toList.zip args'.toList).foldl (fun tmps (x : Tmp × Value) => tmps.setIfInBounds x.1 x.2) r.tmps := by
    rw [← htm, ← Array.foldl_toList, Array.toList_zip, hloop.params]
  have hts : tmps.size = r.tmps.size := by rw [htm', foldl_size]
  have hfr : Fr φ γ (some l) [] r.tmps.size ((putList ps.toList args env).set 2097152 .top) { tmps := tmps, defers := [] } := by
    refine ⟨fun t => ?_, hts, rfl, fun _ => ?_⟩
    · rw [evT_set]
      split
      · exact .top
      · rw [htm']
        exact putList_rel ps.toList args args'.toList env r.tmps (by simpa using ha.1.symm) (fun j v hj => by have := ha.2 j v hj; rwa [Array.getD_eq_getD_getElem?, ← Array.getElem?_toList, ← List.getD_eq_getElem?_getD] at this) hloop.psOk hloop.rel t
    · unfold inRound
      rw [Tr.get_set]
      simp
  have lim2 : ∀ q, q ∈ M → q.2.h.next ≤ Lim := fun q hq => by
    obtain ⟨Lq, hLq, hin⟩ := bindL_in hL q hq
    obtain ⟨_, _, _, _, _, _, M2, _, hM2, hL2⟩ := bodyRoundV_out hLq
    have hne := exec_ne hgr _ _ _ _ hM2
    cases M2 with
    | nil => exact absurd rfl hne
    | cons q2 M2 =>
      obtain ⟨Lx, hLx, hin2⟩ := bindL_in hL2 q2 List.mem_cons_self
      obtain ⟨_, _, _, _, _, _, _, rfl⟩ := endRoundV_out hLx
      have h1 := exec_next hgr _ _ _ _ hM2 q2 List.mem_cons_self
      exact Nat.le_trans h1 (hlim _ (hin _ (hin2 _ (List.mem_singleton_self _))))
  have hx := (exec_sound (bare_ok hok) hcl.bare hkn hgr hsta hloop.few n _ _ _ hM hloop.asgOk (fun _ _ => LoopGood.bare) N Lim w.heap.size (some l) [] φ γ w _ hr ⟨hg.at_, hg.rho⟩ (Nat.le_refl _) MarksOk.nil hfr hb lim2 hf).1
  refine wpIn_mono hx ?_
  intro e a1 w1 ho
  obtain ⟨q, hq, he, φ1, γ1, T1, hs1, ds1, hm1, hf1⟩ := ho
  obtain ⟨Lq, hLq, hin⟩ := bindL_in hL q hq
  obtain ⟨hqn, env2, ps2, asg2, body2, pend2, M2, hk2, hM2, hL2⟩ := bodyRoundV_out hLq
  rw [hqn] at he
  cases e <;> first | exact he.elim | skip
  have hγ1 := hs1.ple _ _ hγ
  obtain ⟨_, r1, hr1, hloop1⟩ := hs1.rel.blk _ _ _ hγ1 hk2
  have hr1 : w1.heap[l]? = some (.loop r1) := hr1
  have hbeg : (Instr.beginRound l).run P w1 = .ok () { w1 with heap := w1.heap.setIfInBounds l (.loop { r1 with state := .busy }) } := by
    simp only [Instr.beginRound, Instr.getLoop, Sem.run_bind, run_getObj (P := P) hr1 (by simp), Result.andThen_ok, Sem.run_pure]
    rw [run_setObj (P := P) (o' := .loop { r1 with state := .busy }) hr1 (by simp)]
    simp only [Result.andThen_ok, hloop1.state]
    rfl
  refine ⟨_, hbeg, ?_⟩
  have hl1 : l < w1.heap.size := (Array.getElem?_eq_some_iff.1 hr1).1
  have hs2 := iter_put hs1.rel (k' := .loop env2 ps2 asg2 body2 .busy pend2) (o' := .loop { r1 with state := .busy }) hγ1 hk2 rfl rfl rfl hr1 ⟨rfl, { r1 with state := .busy }, by simp [hl1], { hloop1 with state := rfl }⟩
  have hs12 := hs1.trans hs2
  have lim3 : ∀ q2, q2 ∈ M2 → q2.2.h.next ≤ Lim := fun q2 hq2 => by
    obtain ⟨Lx, hLx, hin2⟩ := bindL_in hL2 q2 hq2
    obtain ⟨_, _, _, _, _, _, _, rfl⟩ := endRoundV_out hLx
    exact hlim _ (hin _ (hin2 _ (List.mem_singleton_self _)))
  have hx2 := (exec_sound (bare_ok hok) hcl.bare hkn hgr hsta hloop.few n _ _ _ hM2 hloop.bodyOk (fun _ _ => LoopGood.bare) N Lim w.heap.size (some l) ds1 φ1 γ1 _ a1 hs12.rel ⟨(hg.mono hs1.fle).at_, (hg.mono hs1.fle).rho⟩ hs12.size (hm1.step hs2) ⟨hf1.rel, hf1.size, hf1.defers, hf1.rnd⟩ (by rw [hs12.base]; exact Nat.le_trans hb hs12.next) lim3 (hs12.fresh hf)).1
  refine wpIn_mono hx2 ?_
  intro e2 a2 w2 ho2
  obtain ⟨q2, hq2, he2, φ2, γ2, T2, hs3, ds2, hm2, hf3⟩ := ho2
  obtain ⟨Lx, hLx, hin2⟩ := bindL_in hL2 q2 hq2
  obtain ⟨env3, ps3, asg3, body3, s3, pend3, hk3, rfl⟩ := endRoundV_out hLx
  have hγ2 := hs3.ple _ _ hγ1
  obtain ⟨_, r2, hr2, hloop2⟩ := hs3.rel.blk _ _ _ hγ2 hk3
  have hr2 : w2.heap[l]? = some (.loop r2) := hr2
  have hl2 : l < w2.heap.size := (Array.getElem?_eq_some_iff.1 hr2).1
  have hend : ∀ j : Option Code, (Instr.endRound l j).run P w2 = .ok (.bool j.isNone) { w2 with heap := w2.heap.setIfInBounds l (.loop { r2 with state := if j.isNone then .ready else .done, pending := j }) } := fun j => by
    simp only [Instr.endRound, Instr.getLoop, Sem.run_bind, run_getObj (P := P) hr2 (by simp), Result.andThen_ok, Sem.run_pure]
    rw [run_setObj (P := P) (o' := .loop { r2 with state := if j.isNone then .ready else .done, pending := j }) hr2 (by simp)]
    rfl
  have hs4 := iter_put hs3.rel (k' := .loop env3 ps3 asg3 body3 (if (jumpOf q2.1).isNone then .ready else .done) (jumpOf q2.1)) (o' := .loop { r2 with state := if (jumpOf q2.1).isNone then .ready else .done, pending := jumpOf q2.1 }) hγ2 hk3 rfl rfl rfl hr2 ⟨rfl, { r2 with state := if (jumpOf q2.1).isNone then .ready else .done, pending := jumpOf q2.1 }, by simp [hl2], { hloop2 with state := rfl, pending := rfl }⟩
  have fin : ∀ v w', (Instr.endRound l (jumpOf q2.1)).run P w2 = .ok v w' → ∃ v w', (Instr.endRound l (jumpOf q2.1)).run P w2 = .ok v w' ∧ Told N φ γ H w L (.returned v) w' := fun _ _ _ =>
    ⟨_, _, hend _, _, hin _ (hin2 _ (List.mem_singleton_self _)), φ2, γ2, _, _, rfl, (hs12.trans hs3).trans hs4, .val rfl⟩
  cases e2 <;> cases hq1 : q2.1 <;> rw [hq1] at he2 <;> first | exact he2.elim | skip
  · simpa [hq1, jumpOf, roundPost] using fin _ _ (hend _)
  · have : _ = _ := he2
    subst this
    simpa [hq1, jumpOf, roundPost] using fin _ _ (hend _)
  · have : _ = _ := he2
    subst this
    simpa [hq1, jumpOf, roundPost] using fin _ _ (hend _)
  · simpa [hq1, jumpOf, roundPost] using fin _ _ (hend _)

theorem stepCall_ok (hwf : tb.Wf) (hsp : SpecOk P tb) {cl : CallFn} (hcl : CallOk P tb cl) (hkn : Known P cl) (hgr : Grows cl) (hsta : Stat cl) (n : Nat) : CallOk P tb (stepCall P tb n cl) := by
  refine ⟨stepCall_fn hok hwf hsp hcl hkn hgr hsta n, ?_⟩
  intro k args H L h N Lim φ γ w args' hr hb hg hlim hf ha l m e hγ
  unfold stepCall at h
  rw [if_pos (by simp)] at h
  have hk : Nat.sub (roundBase + k) roundBase = k := by simp
  rw [hk] at h
  exact stepRound_ok hok hcl hkn hgr hsta n h hr hb hg hlim hf ha hγ

theorem stepCall_known (hsp : SpecOk P tb) {cl : CallFn} (n : Nat) : Known P (stepCall P tb n cl) := by
  intro f args H L hfb h
  unfold stepCall at h
  rw [if_neg (by simpa using hfb)] at h
  split at h
  · rename_i r hr1
    exact (hsp.fns _ _ _ _ hr1).1
  split at h
  · exact absurd h (by simp)
  · rename_i fn hfn
    split at h
    · exact absurd h (by simp)
    · rename_i c hc
      exact ⟨fn, (hok.func _ _ hfn).1, (hok.func _ _ hfn).2, by rw [hc]; rfl⟩

theorem stepCallM_known (hsp : SpecOk P tb) {cl : CallFn} (n : Nat) : Known P (stepCallM P tb n cl) := by
  intro f args H L hfb h
  obtain ⟨M, hM, rfl⟩ := Option.map_eq_some_iff.1 h
  exact stepCall_known hok hsp n f args H M hfb hM

omit hok in
theorem Told.merge {N : Nat} {φ : Froz} {γ : Place} {H : Heap} {w : World} {M : List (V × Heap)} (hst : ∀ r, r ∈ M → HG H r.2) {e : Ending} {w' : World} (h : Told N φ γ H w M e w') : Told N φ γ H w (mergeL H M) e w' := by
  obtain ⟨r, hrM, φ', γ', cv, T, rfl, hs, hv⟩ := h
  obtain ⟨q, h1, h2, h3⟩ := mergeL_cov hst r hrM
  exact ⟨q, h1, φ', γ', cv, T, rfl, hs.eq h3, by rw [h2]; exact hv⟩

theorem stepCallM_ok (hwf : tb.Wf) (hsp : SpecOk P tb) {cl : CallFn} (hcl : CallOk P tb cl) (hkn : Known P cl) (hgr : Grows cl) (hsta : Stat cl) (n : Nat) : CallOk P tb (stepCallM P tb n cl) := by
  have lims : ∀ {H : Heap} {M : List (V × Heap)} {Lim : Nat}, (∀ r, r ∈ M → HG H r.2) → (∀ r, r ∈ mergeL H M → r.2.next ≤ Lim) → ∀ r, r ∈ M → r.2.next ≤ Lim := fun hst hlim r hr2 => by
    obtain ⟨q, h1, _, h3⟩ := mergeL_cov hst r hr2
    rw [h3.next]
    exact hlim q h1
  refine ⟨?_, ?_⟩
  · intro f args H L hfb h N Lim φ γ w args' hr hb hg hlim hf ha
    obtain ⟨M, hM, rfl⟩ := Option.map_eq_some_iff.1 h
    have hst := stepCall_stat hsta n f args H M ⟨trivial, hr.keys, hb⟩ hM
    exact (stepCall_fn hok hwf hsp hcl hkn hgr hsta n f args H M hfb hM N Lim φ γ w args' hr hb hg (lims hst hlim) hf ha).mono fun e w' hh => hh.merge hst
  · intro k args H L h N Lim φ γ w args' hr hb hg hlim hf ha l m e hγ
    obtain ⟨M, hM, rfl⟩ := Option.map_eq_some_iff.1 h
    have hst := stepCall_stat hsta n _ args H M ⟨trivial, hr.keys, hb⟩ hM
    obtain ⟨fn, tmps, asg, body, hy, hround⟩ := (stepCall_ok hok hwf hsp hcl hkn hgr hsta n).2 k args H M hM N Lim φ γ w args' hr hb hg (lims hst hlim) hf ha l m e hγ
    exact ⟨fn, tmps, asg, body, hy, hround.mono fun e w' hh => hh.merge hst⟩

theorem call_known (hsp : SpecOk P tb) : ∀ n, Known P (call P tb n)
  | 0 => by intro f args H L _ h; simp [call] at h
  | n + 1 => stepCallM_known hok hsp n

omit hok in
/-- No round runs in an empty heap. -/
theorem call_lt {f : Nat} {args : List V} {L : List (V × Heap)} : ∀ {n : Nat}, call P tb n f args H0 = some L → f < roundBase
  | 0, h => by simp [call] at h
  | n + 1, h => by
    have h : stepCallM P tb n (call P tb n) f args H0 = some L := h
    obtain ⟨M, hM, _⟩ := Option.map_eq_some_iff.1 h
    refine Nat.lt_of_not_le (fun hle => ?_)
    unfold stepCall at hM
    rw [if_pos (by simpa using hle)] at hM
    unfold stepRound at hM
    simp [H0, Heap.get] at hM

/-- **What the interpreter tells of a call holds in the model.** -/
theorem call_sound (hwf : tb.Wf) (hsp : SpecOk P tb) : ∀ n, CallOk P tb (call P tb n)
  | 0 => ⟨by intro f args H L _ h; simp [call] at h, by intro k args H L h; simp [call] at h⟩
  | n + 1 => stepCallM_ok hok hwf hsp (call_sound hwf hsp n) (call_known hok hsp n) (call_grows n) (call_stat n) n
end

end
end Go.Sx
