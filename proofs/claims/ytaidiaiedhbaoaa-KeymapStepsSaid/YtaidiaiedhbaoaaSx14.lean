/- One operation in a frame, calls among them; regions in the order of the text. -/
import Derived.Test.YtaidiaiedhbaoaaSx13
import Derived.RangeFuncLeaves
/- One operation in a frame, calls among them; regions in the order of the text. -/
set_option linter.unusedVariables false
set_option linter.unusedSimpArgs false
namespace Go.Sx
noncomputable section

/-- Arguments. -/
def ArgsRel (φ : Froz) (γ : Place) (args : List V) (args' : Array Value) : Prop := args'.size = args.length ∧ ∀ (j : Nat) (v : V), args[j]? = some v → VRel φ γ v (args'.getD j undef)

/-- What a family of calls says holds in the model. -/
def Told (N : Nat) (φ : Froz) (γ : Place) (H : Heap) (w : World) (L : List (V × Heap)) (e : Ending) (w' : World) : Prop :=
  ∃ r ∈ L, ∃ φ' γ' cv T, e = .returned cv ∧ Step N φ γ H w φ' γ' r.2 w' T ∧ VRel φ' γ' r.1 cv
/-- What a family of calls of functions says holds in the model. -/
def FnOk (P : Program) (tb : Tb) (cl : CallFn) : Prop :=
  ∀ f args H L, f < roundBase → cl f args H = some L → ∀ (N Lim : Nat) (φ : Froz) (γ : Place) (w : World) (args' : Array Value), Rel N φ γ H w → H.base ≤ H.next → GlobOk φ tb → (∀ r, r ∈ L → r.2.next ≤ Lim) → Fresh Lim γ H → ArgsRel φ γ args args' →
    Calls P f args' w (Told N φ γ H w L)
/-- A round, in the model. -/
def RoundOk (P : Program) (args' : Array Value) (w : World) (l : Nat) (R : Ending → World → Prop) : Prop :=
  ∃ fn tmps asg body, (Instr.yield l args').run P w = .ok (.round l fn tmps asg body) w ∧ RoundIn Fence.wide 0 P l fn tmps asg body w R
def CallOk (P : Program) (tb : Tb) (cl : CallFn) : Prop :=
  FnOk P tb cl ∧ ∀ k args H L, cl (roundBase + k) args H = some L → ∀ (N Lim : Nat) (φ : Froz) (γ : Place) (w : World) (args' : Array Value), Rel N φ γ H w → H.base ≤ H.next → GlobOk φ tb → (∀ r, r ∈ L → r.2.next ≤ Lim) → Fresh Lim γ H → ArgsRel φ γ args args' →
    ∀ l m e, γ k = some (l, m, e) → RoundOk P args' w l (Told N φ γ H w L)

/-- All functions, all depths; in a round of a loop over a function, or in none. -/
abbrev wide (ro : Option Nat) : Fence := { Fence.wide with round := ro }

/-- Each function that is called is there. -/
def Known (P : Program) (cl : CallFn) : Prop := ∀ f args H L, f < roundBase → cl f args H = some L → ∃ fn, P.funcs[f]? = some fn ∧ (fn.name == "runtime.NumGoroutine") = false ∧ fn.body.isNone = false

/-- What stands in a frame. -/
structure Fr (φ : Froz) (γ : Place) (ro : Option Nat) (ds : List Deferred) (nt : Nat) (env : Env) (a : Act) : Prop where
  rel : ERel φ γ env a
  size : a.tmps.size = nt
  defers : a.defers = ds
  rnd : ro.isSome = true → inRound env = true

theorem Fr.mono {φ φ' : Froz} {γ γ' : Place} {ro : Option Nat} {ds : List Deferred} {nt : Nat} {env : Env} {a : Act} (h : Fr φ γ ro ds nt env a) (hφ : FLe φ φ') (hγ : PLe γ γ') : Fr φ' γ' ro ds nt env a := ⟨h.rel.mono hφ hγ, h.size, h.defers, h.rnd⟩

theorem evT_set (env : Env) (d : Nat) (v : V) (t : Nat) : evT (env.set d v) t = if t = d then v else evT env t := by
  unfold evT
  rw [Tr.get_set]
  split <;> rfl

theorem inRound_set {env : Env} {d : Nat} {v : V} (h : inRound env = true) : inRound (env.set d v) = true := by
  unfold inRound at h ⊢
  rw [Tr.get_set]
  split
  · rfl
  · exact h
theorem inRound_put {env : Env} {dst : Option Tmp} {v : V} (h : inRound env = true) : inRound (putT env dst v) = true := by
  cases dst with
  | none => exact h
  | some d => exact inRound_set h
theorem Fr.put {φ : Froz} {γ : Place} {ro : Option Nat} {ds : List Deferred} {nt : Nat} {env : Env} {a : Act} (h : Fr φ γ ro ds nt env a) (hnt : nt < 1048576) {dst : Option Tmp} (hd : ∀ d, dst = some d → d < nt) {v : V} {cv : Value} (hv : VRel φ γ v cv) : Fr φ γ ro ds nt (putT env dst v) (a.put dst cv) := by
  cases dst with
  | none => exact h
  | some d =>
    have hdn := hd d rfl
    refine ⟨fun t => ?_, by simp [Act.put, h.size], h.defers, fun hr => inRound_put (dst := some d) (h.rnd hr)⟩
    simp only [putT, Act.put]
    rw [evT_set]
    by_cases ht : t = d
    · subst ht
      rw [if_pos rfl]
      have : (a.tmps.setIfInBounds t cv).getD t undef = cv := by
        simp [Array.getD_eq_getD_getElem?, show t < a.tmps.size by rw [h.size]; exact hdn]
      rw [this]
      exact hv
    · rw [if_neg ht]
      have : (a.tmps.setIfInBounds d cv).getD t undef = a.tmps.getD t undef := by
        rw [Array.getD_eq_getD_getElem?, Array.getD_eq_getD_getElem?, Array.getElem?_setIfInBounds_ne (Ne.symm ht)]
      rw [this]
      exact h.rel t

theorem forget_env (l : List Nat) : ∀ (env : Env) (t : Nat), evT (l.foldl (fun e t => e.set t V.top) env) t = .top ∨ evT (l.foldl (fun e t => e.set t V.top) env) t = evT env t := by
  induction l with
  | nil => intro env t; exact .inr rfl
  | cons d l ih =>
    intro env t
    rw [List.foldl_cons]
    rcases ih (env.set d V.top) t with h | h
    · exact .inl h
    · rw [h, evT_set]
      split
      · exact .inl rfl
      · exact .inr rfl
theorem Rel.sweep {N : Nat} {φ : Froz} {γ : Place} {H : Heap} {w : World} (h : Rel N φ γ H w) (env : Env) : Rel N φ γ (H.sweep env) w := by
  have sub : ∀ b k, (H.sweep env).get b = some k → H.get b = some k := fun b k hk => by
    rcases sweep_get H env b with e | ⟨e, _⟩
    · rw [← e]; exact hk
    · rw [e] at hk; exact absurd hk (by simp)
  exact ⟨h.ge, fun b k hk => Nat.lt_of_lt_of_le (h.keys b k (sub b k hk)) (le_roundUp _), h.froz, h.lt, fun b x k hx hk => h.blk b x k hx (sub b k hk), fun b x k hx hk => h.free b x k hx (sub b k hk),
    fun b x k b' x' k' hx hx' hk hk' => h.inj b x k b' x' k' hx hx' (sub b k hk) (sub b' k' hk')⟩
theorem Step.forget {N : Nat} {φ φ' : Froz} {γ γ' : Place} {H : Heap} {w w' : World} {T : Nat → Prop} {tb : Tb} {c : Nat} {st : St} (h : Step N φ γ H w φ' γ' st.h w' T) : Step N φ γ H w φ' γ' (Go.Sx.forget tb c st).h w' T := by
  rcases forget_h tb c st with e | ⟨env, e⟩ <;> rw [e]
  · exact h
  · have hn : st.h.next ≤ (st.h.sweep env).next := le_roundUp _
    exact ⟨h.fle, h.ple, h.rel.sweep env, h.os, h.tape, h.output, h.size, Nat.le_trans h.next hn, h.base, h.fr, fun b x hx => (h.dom b x hx).imp id (fun ⟨a, c, d⟩ => ⟨a, Nat.lt_of_lt_of_le c hn, d⟩), fun b hb => Nat.lt_of_lt_of_le (h.tlt b hb) hn, h.low, h.mono, h.fdom⟩
theorem renameV_ok {tb : Tb} {φ : Froz} {γ : Place} {k t : Nat} {v : V} {x : Value} (hρ : φ.rho = tb.rho) (h : VRel φ γ v x) : VRel φ γ (renameV tb k t v) x := by
  unfold renameV
  split
  · split
    · split
      · rename_i hc
        cases h
        rename_i h1
        refine .sym ?_
        rw [h1, hρ]
        simp only [SE.val]
        rw [eq_of_beq hc]
      · exact h
    · exact h
  · exact h
theorem renEnv_ok {tb : Tb} {φ : Froz} {γ : Place} {k : Nat} {tmp : Nat → Value} (hρ : φ.rho = tb.rho) : ∀ {l : List Nat} {env : Env}, (∀ t, VRel φ γ (evT env t) (tmp t)) → ∀ t, VRel φ γ (evT (renEnv tb k l env) t) (tmp t)
  | [], env, h, t => h t
  | d :: l, env, h, t => by
    refine renEnv_ok hρ (l := l) (fun u => ?_) t
    rw [evT_set]
    split
    · rename_i hu; subst hu; exact renameV_ok hρ (h _)
    · exact h u
theorem inRound_dead : ∀ (l : List Nat) {env : Env}, inRound env = true → inRound (l.foldl (fun e t => e.set t V.top) env) = true
  | [], _, h => h
  | _ :: l, _, h => inRound_dead l (inRound_set h)
theorem inRound_ren {tb : Tb} {k : Nat} : ∀ (l : List Nat) {env : Env}, inRound env = true → inRound (renEnv tb k l env) = true
  | [], _, h => h
  | _ :: l, _, h => inRound_ren l (inRound_set h)
theorem Fr.forget {tb : Tb} {c : Nat} {φ : Froz} {γ : Place} {ro : Option Nat} {ds : List Deferred} {nt : Nat} {st : St} {a : Act} (hρ : φ.rho = tb.rho) (h : Fr φ γ ro ds nt st.env a) : Fr φ γ ro ds nt (Go.Sx.forget tb c st).env a := by
  unfold Go.Sx.forget
  split
  · exact h
  · rename_i l hl
    refine ⟨renEnv_ok hρ (fun t => ?_), h.size, h.defers, fun hr => inRound_ren _ (inRound_dead _ (h.rnd hr))⟩
    simp only [deadEnv]
    rcases forget_env (tb.dead c) st.env t with h1 | h1
    · rw [h1]; exact .top
    · rw [h1]; exact h.rel t

theorem condOf_ok {tb : Tb} {φ : Froz} {γ : Place} {v : V} {x : Value} {b : Bool} (hρ : φ.rho = tb.rho) (h : condOf tb v = some b) (hr : VRel φ γ v x) : x = .bool b := by
  unfold condOf at h
  split at h
  · cases h; cases hr; rfl
  · cases h
    cases hr with
    | sym h1 => rw [h1, hρ]; rfl
  · exact absurd h (by simp)

theorem guard_ok {tb : Tb} {φ : Froz} {γ : Place} {env : Env} {a : Act} {ops : Array Oper} {o : Oper} {b : Bool} (hρ : φ.rho = tb.rho) (he : ERel φ γ env a) (h : guardOk tb ops env o = some b) : Region.wanted o (yielded ops a.tmps) = b := by
  unfold guardOk at h
  unfold Region.wanted
  split at h
  · rename_i hg
    cases h
    rw [hg]
  · rename_i j want hg
    rw [hg]
    simp only
    unfold yielded
    split at h
    · rename_i d hd
      rw [hd]
      simp only [Option.bind_some]
      have hr := he d
      rw [Array.getD_eq_getD_getElem?] at hr
      split at h
      · rename_i hb
        cases h
        rw [hb] at hr
        cases hc : a.tmps[d]? with
        | none => simp
        | some c =>
          rw [hc] at hr
          simp only [Option.getD_some] at hr
          cases hr with
          | tuple _ _ => simp
      · obtain ⟨b2, hb, rfl⟩ := Option.map_eq_some_iff.1 h
        have hx := condOf_ok hρ hb hr
        cases hc : a.tmps[d]? with
        | none => rw [hc] at hx; simp [undef] at hx
        | some c =>
          rw [hc] at hx
          simp only [Option.getD_some] at hx
          subst hx
          simp only
          cases b2 <;> cases want <;> rfl
    · rename_i hd
      cases h
      rw [hd]
      simp

theorem upon_next {P : Program} {F : Fence} {n : Nat} {o : Oper} {a : Act} {next : Act → World → Prop} {Q : Exit → Act → World → Prop} {r : Result Next} {cv : Value} {w' : World} (h : NextIs r cv w') (hn : next (a.put o.dst cv) w') : o.uponIn F n P a next Q r := by
  rcases h with rfl | ⟨rfl, rfl⟩
  · exact hn
  · exact hn

theorem back_get (H H' : Heap) (b : Nat) : (back H H').get b = H'.get b := rfl

theorem Rel.back {N : Nat} {φ : Froz} {γ : Place} {H H' : Heap} {w : World} (h : Rel N φ γ H' w) : Rel N φ γ (back H H') w := ⟨h.ge, h.keys, h.froz, h.lt, h.blk, h.free, h.inj⟩

/-- A callee's step, as its caller sees it. -/
theorem Step.back {N : Nat} {φ φ' : Froz} {γ γ' : Place} {H H' : Heap} {w w' : World} {T : Nat → Prop} (hb : H.base ≤ H.next) (h : Step N φ γ { H with base := H.next, low := none } w φ' γ' H' w' T) : Step N φ γ H w φ' γ' (back H H') w' T where
  fle := h.fle
  ple := h.ple
  rel := h.rel.back
  os := h.os
  tape := h.tape
  output := h.output
  size := h.size
  next := h.next
  base := rfl
  fr := h.fr
  dom := h.dom
  tlt := h.tlt
  fdom := h.fdom
  low := fun b hbb ht => by
    show lowGe (match H'.low with | some l => if l < H.base then some (match H.low with | some m => min m l | none => l) else H.low | none => H.low) b
    rcases ht with ht | ht
    · cases hl : H'.low with
      | none => exact ht
      | some l =>
        simp only
        split
        · cases hm : H.low with
          | none => rw [hm] at ht; exact ht.elim
          | some m => rw [hm] at ht; simp only [lowGe] at *; omega
        · exact ht
    · have := h.low b (show b < H.next by omega) (.inr ht)
      cases hl : H'.low with
      | none => rw [hl] at this; exact this.elim
      | some l =>
        rw [hl] at this
        simp only [lowGe] at this
        simp only
        rw [if_pos (by omega)]
        cases hm : H.low with
        | none => simp only [lowGe]; omega
        | some m => simp only [lowGe]; omega
  mono := fun b ht => by
    show lowGe (match H'.low with | some l => if l < H.base then some (match H.low with | some m => min m l | none => l) else H.low | none => H.low) b
    cases hl : H'.low with
    | none => exact ht
    | some l =>
      simp only
      split
      · cases hm : H.low with
        | none => rw [hm] at ht; exact ht.elim
        | some m => rw [hm] at ht; simp only [lowGe] at *; omega
      · exact ht

section
variable {P : Program} {tb : Tb} (hok : tb.Ok P) {cl : CallFn} (hcl : CallOk P tb cl) (hkn : Known P cl)
include hok hcl hkn

omit hcl hkn in
theorem ext_ok {f : Nat} {as : List V} {v : V} (h : evalExt tb f as = some v) {φ : Froz} {γ : Place} {args' : Array Value} (ha : ArgsRel φ γ as args') (w : World) :
    ∃ cv, (callFunc f args').run P w = .ok (.value cv) w ∧ VRel φ γ v cv := by
  unfold evalExt at h
  split at h
  · rename_i fn hfn
    split at h
    · rename_i hb
      simp only [Bool.and_eq_true, beq_iff_eq] at hb
      obtain ⟨hb, ho⟩ := hb
      have hb' : fn.body = none := by cases hx : fn.body with | none => rfl | some _ => rw [hx] at hb; simp at hb
      obtain ⟨hf1, hf2⟩ := hok.func _ _ hfn
      have hf2' : ¬ fn.name = "runtime.NumGoroutine" := by simpa using hf2
      unfold extTab at h
      split at h
      · rename_i s c
        have e : args' = #[.string s, .int .u8 c] := by
          have h0 := ha.2 0 _ rfl
          have h1 := ha.2 1 _ rfl
          have hl : args'.size = 2 := by simpa using ha.1
          have h0' : args'.getD 0 undef = .string s := by cases h : args'.getD 0 undef <;> rw [h] at h0 <;> cases h0; rfl
          have h1' : args'.getD 1 undef = .int .u8 c := by cases h : args'.getD 1 undef <;> rw [h] at h1 <;> cases h1; rfl
          apply Array.ext
          · simpa using hl
          · intro i hi1 hi2
            match i, hi1, hi2 with
            | 0, hi1, _ => simpa [Array.getD_eq_getD_getElem?, hl] using h0'
            | 1, hi1, _ => simpa [Array.getD_eq_getD_getElem?, hl] using h1'
            | i + 2, hi1, hi2 => simp at hi2; omega
        subst e
        have gen : ∀ (name : String) (e : Array Value → Sem Value) (n : Int), fn.name = name → Extern.allNextRows.lookup name = none → Extern.allNextRows.lookup "" = none → (Extern.allGenericRows.lookup name).isNone = true → (Extern.allTypedRows.lookup name).isNone = true → Extern.allRows.lookup name = some e →
            (e #[.string s, .int .u8 c]).run P w = .ok (.int .i64 n) w → (callFunc f #[.string s, .int .u8 c]).run P w = .ok (.value (.int .i64 n)) w := by
          intro name e n hn h1 h2 h3 h4 h5 h6
          have hnx : Extern.findNext fn = none := by
            unfold Extern.findNext
            simp [hn, ho, h1, h2]
          have hfd : Extern.find fn = some e := by
            unfold Extern.find
            have h3' : Extern.allGenericRows.lookup name = none := by cases hx : Extern.allGenericRows.lookup name <;> rw [hx] at h3 <;> simp at h3 ⊢
            have h4' : Extern.allTypedRows.lookup name = none := by cases hx : Extern.allTypedRows.lookup name <;> rw [hx] at h4 <;> simp at h4 ⊢
            simp [hn, h3', h4', h5]
          simp [callFunc, hf1, hf2', hb', program, Sem.run, hnx, hfd, h6]
        split at h
        · rename_i hn
          cases h
          refine ⟨_, gen _ Extern.BytealgCount.count _ (by simpa using hn) (by kernel_rfl) (by kernel_rfl) (by kernel_rfl) (by kernel_rfl) (by kernel_rfl) ?_, .val rfl⟩
          exact Lib.run_countString s c w
        · split at h
          · rename_i hn
            cases h
            refine ⟨_, gen _ Extern.BytealgIndexByte.indexByte _ (by simpa using hn) (by kernel_rfl) (by kernel_rfl) (by kernel_rfl) (by kernel_rfl) (by kernel_rfl) ?_, .val rfl⟩
            exact Lib.run_indexByteString s c w
          · exact absurd h (by simp)
      · exact absurd h (by simp)
    · exact absurd h (by simp)
  · exact absurd h (by simp)

omit hkn hok in
theorem boxed_ok : FnOk P tb (boxed cl tb) := by
  intro f args H L hfb h N Lim φ γ w args' hr hb hg hlim hf ha
  unfold boxed at h
  split at h
  · rename_i hc
    simp only [Bool.and_eq_true, List.isEmpty_iff] at hc
    obtain ⟨rfl, _⟩ := hc
    simp only [Option.bind_eq_some_iff] at h
    obtain ⟨M, hM, h⟩ := h
    split at h
    · rename_i hp
      cases h
      have h0 : Rel N φ (fun _ => none) H0 w := ⟨hr.ge, fun b k h => by simp [H0, Heap.get] at h, hr.froz, fun b x h => by simp at h, fun b x k h => by simp at h, fun b x k h => by simp at h, fun b x k b' x' k' h => by simp at h⟩
      have top : ∃ Lim, ∀ r : V × Heap, r ∈ M → r.2.next ≤ Lim := by
        clear hM hp hlim
        induction M with
        | nil => exact ⟨0, fun r hr => by simp at hr⟩
        | cons x L ih =>
          obtain ⟨n, hn⟩ := ih
          refine ⟨max n x.2.next, fun r hr => ?_⟩
          rcases List.mem_cons.1 hr with rfl | hr
          · exact Nat.le_max_right _ _
          · exact Nat.le_trans (hn r hr) (Nat.le_max_left _ _)
      obtain ⟨Lim2, hLim2⟩ := top
      refine (hcl.1 f [] H0 M hfb hM N Lim2 φ (fun _ => none) w args' h0 (Nat.le_refl _) hg hLim2 (fun _ _ _ => rfl) ⟨ha.1, fun j v hj => by simp at hj⟩).mono ?_
      rintro e w' ⟨r, hrM, φ', γ', cv, T, rfl, hs, hv⟩
      have full : ∀ i, i < w.heap.size → w'.heap[i]? = w.heap[i]? := fun i hi => hs.fr i hi (fun b x hx => by simp at hx)
      refine ⟨(r.1, H), List.mem_map.2 ⟨r, hrM, rfl⟩, φ', γ, cv, fun _ => False, rfl, ?_, ?_⟩
      · refine ⟨hs.fle, PLe.refl _, ⟨hs.rel.ge, hr.keys, hs.rel.froz, fun b x hx => ⟨Nat.lt_of_lt_of_le (hr.lt b x hx).1 hs.size, (hr.lt b x hx).2⟩, fun b x k hx hk => (hr.blk b x k hx hk).mono hs.fle (PLe.refl _) (fun _ => full _ (hr.lt b x hx).1), fun b x k hx hk hsd o ho => ?_, hr.inj⟩,
          hs.os, hs.tape, hs.output, hs.size, Nat.le_refl _, rfl, fun k hk _ => full k hk, fun b x hx => .inl hx, fun b hb => hb.elim, fun b _ hh => hh.resolve_right id, fun b hh => hh, fun c o v hv2 => ?_⟩
        · cases hv2 : φ' x.1 o with
          | none => rfl
          | some v =>
            rcases hs.fdom _ _ _ hv2 with h1 | h1 | ⟨b0, y, _, hy, _⟩
            · rw [hr.free b x k hx hk hsd o ho] at h1
              exact absurd h1 (by simp)
            · have := (hr.lt b x hx).1
              omega
            · simp at hy
        · rcases hs.fdom _ _ _ hv2 with h1 | h1 | ⟨b0, y, _, hy, _⟩
          · exact .inl h1
          · exact .inr (.inl h1)
          · simp at hy
      · have hpl := List.all_eq_true.1 hp r hrM
        generalize r.1 = v at hv hpl
        cases hv with
        | val h => exact .val h
        | sym h => exact .sym h
        | _ => simp [plainV] at hpl
    · exact absurd h (by simp)
  · exact hcl.1 f args H L hfb h N Lim φ γ w args' hr hb hg hlim hf ha

omit hcl hok in
theorem boxed_known : Known P (boxed cl tb) := by
  intro f args H L hfb h
  unfold boxed at h
  split at h
  · simp only [Option.bind_eq_some_iff] at h
    obtain ⟨M, hM, h⟩ := h
    exact hkn _ _ _ _ hfb hM
  · exact hkn _ _ _ _ hfb h

theorem op_ok {ro : Option Nat} {N Lim : Nat} {φ : Froz} {γ : Place} {H : Heap} {w : World} {env : Env} {a : Act} (hr : Rel N φ γ H w) (hg : GlobOk φ tb) (he : ERel φ γ env a) (hb : H.base ≤ H.next) (o : Oper) {L : List (V × Heap × Bool)} (h : evalOp cl P tb env H o.op = some L) (hlim : ∀ r, r ∈ L → r.2.1.next ≤ Lim) (hf : Fresh Lim γ H)
    {next : Act → World → Prop} {Q : Exit → Act → World → Prop}
    (hn : ∀ r, r ∈ L → ∀ φ' γ' cv w' T, Step N φ γ H w φ' γ' r.2.1 w' T → VRel φ' γ' r.1 cv → (r.2.2 = false → ∀ b, b < H.next → ¬ T b) → next (a.put o.dst cv) w') : o.wpIn (wide ro) 0 P a w next Q := by
  have hnd : ∀ c, o.op ≠ .defer c := by
    intro c hc
    rw [hc] at h
    simp [evalOp, isPure, evalMem] at h
  unfold evalOp at h
  unfold Oper.wpIn
  refine ⟨fun _ _ => trivial, ?_⟩
  rw [Oper.semAt_eq _ _ _ hnd]
  split at h
  · obtain ⟨v, hv, rfl⟩ := Option.map_eq_some_iff.1 h
    obtain ⟨φ', cv, w', h1, h2, h3⟩ := pure_ok hok hr he hg o hv
    exact upon_next (.inl h1) (hn _ (List.mem_singleton_self _) _ _ _ _ _ h2 h3 (fun _ b _ hT => hT))
  · split at h
    · rename_i f args ats hop
      obtain ⟨M, hM, rfl⟩ := Option.map_eq_some_iff.1 h
      unfold evalCall at hM
      simp only at hM
      split at hM
      · rename_i g first captured hfv
        split at hM
        case isFalse => exact absurd hM (by simp)
        rename_i hgb
        have hgb : g < roundBase := by simpa using hgb
        have hfr := ev_rel he hg f
        rw [hfv] at hfr
        generalize hfe : a.eval f = fv at hfr
        cases hfr with
        | @func _ _ _ fs cs h1 h2 h3 h4 =>
          have hargs : ArgsRel φ γ (first ++ args.toList.map (ev tb env) ++ captured) (fs ++ args.map a.eval ++ cs) := by
            refine ⟨by simp [h1, h2], fun j v hj => ?_⟩
            rw [Array.getD_eq_getD_getElem?]
            have hl1 : (fs ++ args.map a.eval).size = first.length + args.size := by simp [h1]
            by_cases hj1 : j < first.length
            · rw [List.append_assoc, List.getElem?_append_left hj1] at hj
              rw [Array.append_assoc, Array.getElem?_append_left (by omega), ← Array.getD_eq_getD_getElem?]
              exact h3 j v hj
            · by_cases hj2 : j < first.length + args.size
              · rw [List.append_assoc, List.getElem?_append_right (by omega), List.getElem?_append_left (by simp; omega)] at hj
                rw [Array.append_assoc, Array.getElem?_append_right (by omega), Array.getElem?_append_left (by simp; omega), ← Array.getD_eq_getD_getElem?, h1]
                exact args_rel he hg args _ v hj
              · rw [List.getElem?_append_right (by simp; omega)] at hj
                rw [Array.getElem?_append_right (by omega), ← Array.getD_eq_getD_getElem?, hl1]
                have e : j - (first ++ args.toList.map (ev tb env)).length = j - (first.length + args.size) := by simp
                rw [e] at hj
                exact h4 _ v hj
          have hr' : Rel N φ γ { H with base := H.next, low := none } w := ⟨hr.ge, hr.keys, hr.froz, hr.lt, hr.blk, hr.free, hr.inj⟩
          unfold callOne at hM
          split at hM
          · rename_i v hv
            cases hM
            obtain ⟨cv, hrun, hvr⟩ := ext_ok hok hv hargs w
            have hrun2 : (execOp a.eval o).run P w = .ok (.value cv) w := by
              obtain ⟨dst, op, ty, pos, after, guard⟩ := o
              simp only at hop
              subst hop
              simp only [execOp, resolve, hfe, Deferred.ofValue, invoke]
              simpa using hrun
            refine upon_next (.inl hrun2) (hn _ (List.mem_map.2 ⟨_, List.mem_singleton_self _, rfl⟩) φ γ cv w _ (Step.back hb (Step.refl hr')) hvr (fun _ b _ hT => hT))
          obtain ⟨fn, hf1, hf2, hf3⟩ := boxed_known (tb := tb) hkn _ _ _ _ hgb hM
          have hf2' : ¬ fn.name = "runtime.NumGoroutine" := by simpa using hf2
          have hf3' : ¬ fn.body = none := by cases hb : fn.body with | none => rw [hb] at hf3; simp at hf3 | some _ => simp
          have hrun : (execOp a.eval o).run P w = .ok (.enter g (fs ++ args.map a.eval ++ cs)) w := by
            obtain ⟨dst, op, ty, pos, after, guard⟩ := o
            simp only at hop
            subst hop
            simp [execOp, resolve, hfe, Deferred.ofValue, invoke, callFunc, hf1, hf2', hf3', program, Sem.run]
          rw [hrun]
          have hcall := boxed_ok hcl g _ _ _ hgb hM N Lim φ γ w _ (⟨hr.ge, hr.keys, hr.froz, hr.lt, hr.blk, hr.free, hr.inj⟩   : Rel N φ γ { H with base := H.next, low := none } w) (Nat.le_refl _) hg (fun r hr2 => hlim (r.1, Go.Sx.back H r.2, r.2.low.isSome) (List.mem_map.2 ⟨r, hr2, rfl⟩)) hf hargs
          refine ⟨fun hd => by simp [Fence.wide] at hd, ?_⟩
          show CallsIn Fence.wide (0 - 1) P g _ w _
          refine callsIn_wide.2 (hcall.mono fun e w' hh => ?_)
          obtain ⟨r, hrM, φ', γ', cv, T, rfl, hs, hv⟩ := hh
          refine hn _ (List.mem_map.2 ⟨r, hrM, rfl⟩) φ' γ' cv w' T (Step.back hb hs) hv (fun hlow b hbn hT => ?_)
          have := hs.low b hbn (.inr hT)
          cases hl : r.2.low with
          | none => rw [hl] at this; exact this.elim
          | some l => rw [hl] at hlow; simp at hlow
      · rename_i k hfv
        have hfr := ev_rel he hg f
        rw [hfv] at hfr
        generalize hfe : a.eval f = fv at hfr
        cases hfr with
        | @yield _ l m0 e0 hk =>
          have hargs : ArgsRel φ γ (args.toList.map (ev tb env)) (args.map a.eval) := ⟨by simp, fun j v hj => args_rel he hg args _ v hj⟩
          obtain ⟨fn, tmps, asg, body, hy, hround⟩ := hcl.2 k _ _ _ hM N Lim φ γ w _ (⟨hr.ge, hr.keys, hr.froz, hr.lt, hr.blk, hr.free, hr.inj⟩ : Rel N φ γ { H with base := H.next, low := none } w) (Nat.le_refl _) hg (fun r hr2 => hlim (r.1, Go.Sx.back H r.2, r.2.low.isSome) (List.mem_map.2 ⟨r, hr2, rfl⟩)) hf hargs l m0 e0 hk
          have hrun : (execOp a.eval o).run P w = .ok (.round l fn tmps asg body) w := by
            obtain ⟨dst, op, ty, pos, after, guard⟩ := o
            simp only at hop
            subst hop
            simp only [execOp, resolve, hfe, Deferred.ofValue, invoke]
            simpa using hy
          rw [hrun]
          refine ⟨fun hd => by simp [Fence.wide] at hd, ?_⟩
          show RoundIn Fence.wide 0 P l fn tmps asg body w _
          refine hround.mono fun e w' hh => ?_
          obtain ⟨r, hrM, φ', γ', cv, T, rfl, hs, hv⟩ := hh
          refine hn _ (List.mem_map.2 ⟨r, hrM, rfl⟩) φ' γ' cv w' T (Step.back hb hs) hv (fun hlow b hbn hT => ?_)
          have := hs.low b hbn (.inr hT)
          cases hl : r.2.low with
          | none => rw [hl] at this; exact this.elim
          | some l => rw [hl] at hlow; simp at hlow
      · exact absurd hM (by simp)
    · obtain ⟨M, hM, rfl⟩ := Option.map_eq_some_iff.1 h
      have hfree : ∀ r, r ∈ M → H.next < r.2.next → γ H.next = none := fun r hr2 hlt => hf _ (Nat.le_refl _) (Nat.lt_of_lt_of_le hlt (hlim (r.1, r.2, !softOp tb env o.op) (List.mem_map.2 ⟨r, hr2, rfl⟩)))
      obtain ⟨r, hrM, T, ⟨φ', γ', cv, w', h1, h2, h3⟩, hsoft⟩ := mem_ok hok hr he hg o hM hfree
      refine upon_next h1 (hn _ (List.mem_map.2 ⟨r, hrM, rfl⟩) φ' γ' cv w' T h2 h3 (fun hh b _ hT => ?_))
      have : softOp tb env o.op = true := by simpa using hh
      rw [hsoft this] at hT
      exact hT

end

end
end Go.Sx
