/- Regions in the order of the text, code, calls. -/
import Derived.Test.YtdblaloadklcfaaDoorSxD4
set_option linter.unusedVariables false
set_option linter.unusedSimpArgs false
namespace Go.Sx
noncomputable section

def codeOk (nt : Nat) : Code → Bool
  | .region _ ops draw => opsOk nt ops && (!draw || tempsOk ops)
  | .seq a b => codeOk nt a && codeOk nt b
  | .cond _ x y => codeOk nt x && codeOk nt y
  | .block _ c | .loop c | .scope c => codeOk nt c
  | _ => true

theorem findLabel_ok {nt : Nat} : ∀ {c : Code} {l : Nat} {r : Code}, codeOk nt c = true → findLabel c l = some r → codeOk nt r = true := by
  intro c
  induction c with
  | seq a b iha ihb =>
    intro l r hc h
    simp only [codeOk, Bool.and_eq_true] at hc
    simp only [findLabel] at h
    split at h
    · rename_i rest hr
      cases h
      simp only [codeOk, Bool.and_eq_true]
      exact ⟨iha hc.1 hr, hc.2⟩
    · exact ihb hc.2 h
  | label l' =>
    intro l r hc h
    simp only [findLabel] at h
    split at h
    · cases h; rfl
    · exact absurd h (by simp)
  | _ => intro l r hc h; simp [findLabel] at h

/-- Where the code has come to. -/
def ExIs : Ex → Exit → Prop
  | .normal, .normal => True
  | .exit i, .exit j => i = j
  | .goto i, .goto j => i = j
  | .ret, .ret => True
  | _, _ => False

/-- One outcome among those that the interpreter told. -/
def OutIs (N : Nat) (φ : Froz) (γ : Place) (nt : Nat) (st : St) (w : World) (L : List (Ex × St)) (e : Exit) (a' : Act) (w' : World) : Prop :=
  ∃ r, r ∈ L ∧ ExIs r.1 e ∧ ∃ φ' γ' T, Step N φ γ st.h w φ' γ' r.2.h w' T ∧ Fr φ' γ' nt r.2.env a'

section
variable {P : Program} {tb : Tb} (hok : tb.Ok P) {cl : CallFn} (hcl : CallOk P tb cl) (hkn : Known P cl) (hgr : Grows cl)
include hok hcl hkn hgr

theorem ops_ok {N Lim nt : Nat} (hnt : nt < 1048576) {ops : Array Oper} (hops : opsOk nt ops = true) {Q : Exit → Act → World → Prop} : ∀ (l : List Oper) (i : Nat) (hard : Marks) (st : St) (L : List (St × Marks)) (φ : Froz) (γ : Place) (w : World) (a : Act),
    ops.toList.drop i = l → execOps cl P tb ops l i hard st = some L → Rel N φ γ st.h w → GlobOk φ tb → Fr φ γ nt st.env a → st.h.base ≤ st.h.next → (∀ r, r ∈ L → r.1.h.next ≤ Lim) → Fresh Lim γ st.h →
    (∀ r, r ∈ L → ∀ φ' γ' a' w' T, Step N φ γ st.h w φ' γ' r.1.h w' T → Fr φ' γ' nt r.1.env a' → Q .normal a' w') → wpOps P ops Q (List.range' i l.length) a w
  | [], i, hard, st, L, φ, γ, w, a, hl, h, hr, hg, hfr, hb, hlim, hf, hQ => by
    simp only [execOps, Option.some.injEq] at h
    subst h
    exact hQ _ (List.mem_singleton_self _) φ γ a w _ (Step.refl hr) hfr
  | o :: l, i, hard, st, L, φ, γ, w, a, hl, h, hr, hg, hfr, hb, hlim, hf, hQ => by
    have ho : ops[i]? = some o := by
      rw [← Array.getElem?_toList]
      have : (ops.toList.drop i)[0]? = some o := by rw [hl]; rfl
      simpa using this
    have hl' : ops.toList.drop (i + 1) = l := by
      have : (ops.toList.drop i).drop 1 = l := by rw [hl]; rfl
      rw [List.drop_drop] at this
      exact this
    have hdst := opsOk_at hops ho
    simp only [execOps] at h
    show wpOps P ops Q (List.range' i (l.length + 1)) a w
    rw [List.range'_succ]
    unfold wpOps
    rw [ho]
    simp only
    split at h
    · exact absurd h (by simp)
    · rename_i hgd
      rw [guard_ok hg.rho hfr.rel hgd]
      simp only [Bool.false_eq_true, if_false]
      exact ops_ok hnt hops l (i + 1) _ _ _ φ γ w _ hl' h hr hg (hfr.put hnt hdst (.tuple rfl (fun j v hj => by simp at hj))) hb hlim hf hQ
    · rename_i hgd
      rw [guard_ok hg.rho hfr.rel hgd]
      simp only [if_true]
      simp only [Option.bind_eq_some_iff] at h
      obtain ⟨M, hM, h⟩ := h
      refine .inl (op_ok hok hcl hkn (Lim := Lim) hr hg hfr.rel hb o hM (fun q hq => ?_) hf ?_)
      · obtain ⟨Lq, hLq, hin⟩ := bindL_in h q hq
        cases Lq with
        | nil => exact absurd rfl (execOps_ne hgr hLq)
        | cons r Lq => exact Nat.le_trans (execOps_next hgr hLq r List.mem_cons_self) (hlim r (hin r List.mem_cons_self))
      · intro q hq φ' γ' cv w' T hs hv _
        obtain ⟨Lq, hLq, hin⟩ := bindL_in h q hq
        refine ops_ok hnt hops l (i + 1) _ _ _ φ' γ' w' _ hl' hLq hs.rel (hg.mono hs.fle) ((hfr.mono hs.fle hs.ple).put hnt hdst hv) (by rw [hs.base]; exact Nat.le_trans hb hs.next) (fun r hr2 => hlim r (hin r hr2)) (hs.fresh hf) ?_
        intro r hr2 φ2 γ2 a2 w2 T2 hs2 hfr2
        exact hQ r (hin r hr2) φ2 γ2 a2 w2 _ (hs.trans hs2) hfr2
end

/-! ### Code -/
/-- A loop that goes on. -/
def LoopWp (P : Program) (c : Code) (Q : Exit → Act → World → Prop) (a : Act) (w : World) : Prop :=
  ∀ (b : Frame) (k : List Item) (cs : List Frame), ∃ e a' w', Q e a' w' ∧ Arrives P (lone (b.at a (.inLoop c :: k)) cs w) b k cs e a' w'
/-- Code within a scope. -/
def Win (P : Program) (body c : Code) (Q : Exit → Act → World → Prop) (a : Act) (w : World) : Prop :=
  ∀ (b : Frame) (k : List Item) (cs : List Frame), ∃ e a' w', Q e a' w' ∧ Arrives P (lone (b.at a (.code c :: .inScope body :: k)) cs w) b k cs e a' w'

def TkWp (P : Program) : Tk → (Exit → Act → World → Prop) → Act → World → Prop
  | .code c, Q, a, w => c.wp P Q a w ∧ ∀ d, c = .loop d → LoopWp P d Q a w
  | .within body c, Q, a, w => Win P body c Q a w

def tkOk (nt : Nat) : Tk → Bool
  | .code c => codeOk nt c
  | .within body c => codeOk nt body && codeOk nt c

theorem loop_both {P : Program} {c : Code} {Q : Exit → Act → World → Prop} {a : Act} {w : World} (h : c.wp P (Exit.then (LoopWp P c Q) Q) a w) : (Code.loop c).wp P Q a w ∧ LoopWp P c Q a w := by
  have key : ∀ (b : Frame) (k : List Item) (cs : List Frame), ∃ e a' w', Q e a' w' ∧ Arrives P (lone (b.at a (.code c :: .inLoop c :: k)) cs w) b k cs e a' w' := by
    intro b k cs
    obtain ⟨e, a₁, w₁, hq, harr⟩ := h b (.inLoop c :: k) cs
    cases e with
    | normal =>
      obtain ⟨e₂, a₂, w₂, hq₂, harr₂⟩ := hq b k cs
      exact ⟨e₂, a₂, w₂, hq₂, .of_steps harr harr₂⟩
    | exit id => exact ⟨_, a₁, w₁, hq, .pass (x := .inLoop c) rfl (fun _ _ => .inl (by simp)) harr⟩
    | goto l => exact ⟨_, a₁, w₁, hq, .pass (x := .inLoop c) rfl (fun _ _ => .inl (by simp)) harr⟩
    | ret => exact ⟨_, a₁, w₁, hq, .pass (x := .inLoop c) rfl (fun _ _ => .inl (by simp)) harr⟩
    | panic ch => exact ⟨_, a₁, w₁, hq, .pass (x := .inLoop c) rfl (fun _ _ => .inl (by simp)) harr⟩
    | outgrown => exact ⟨_, a₁, w₁, hq, .pass (x := .inLoop c) rfl (fun _ _ => .inl (by simp)) harr⟩
  refine ⟨fun b k cs => ?_, fun b k cs => ?_⟩
  · obtain ⟨e, a', w', hq, harr⟩ := key b k cs
    exact ⟨e, a', w', hq, .of_steps (.one step_loop) harr⟩
  · obtain ⟨e, a', w', hq, harr⟩ := key b k cs
    exact ⟨e, a', w', hq, .of_steps (.one step_inLoop) harr⟩

theorem win_of {P : Program} {body c : Code} {Q : Exit → Act → World → Prop} {a : Act} {w : World}
    (h : c.wp P (fun e a w => match e with | .goto l => (match findLabel body l with | some rest => Win P body rest Q a w | none => Q (.goto l) a w) | e => Q e a w) a w) : Win P body c Q a w := by
  intro b k cs
  obtain ⟨e, a₁, w₁, hq, harr⟩ := h b (.inScope body :: k) cs
  cases e with
  | normal => exact ⟨.normal, a₁, w₁, hq, Steps.trans harr (.one step_inScope)⟩
  | exit id => exact ⟨.exit id, a₁, w₁, hq, fun k' hk => harr k' (by simp [exitTo, hk])⟩
  | goto l =>
    simp only at hq
    cases hf : findLabel body l with
    | some rest =>
      rw [hf] at hq
      obtain ⟨e₂, a₂, w₂, hq₂, harr₂⟩ := hq b k cs
      exact ⟨e₂, a₂, w₂, hq₂, .of_steps (harr _ (by simp [gotoIn, hf])) harr₂⟩
    | none =>
      rw [hf] at hq
      exact ⟨.goto l, a₁, w₁, hq, fun k' hk => harr k' (by simp [gotoIn, hf, hk])⟩
  | ret => exact ⟨_, a₁, w₁, hq, harr⟩
  | panic ch => exact ⟨_, a₁, w₁, hq, harr⟩
  | outgrown => exact ⟨_, a₁, w₁, hq, harr⟩

theorem scope_of {P : Program} {c : Code} {Q : Exit → Act → World → Prop} {a : Act} {w : World} (h : Win P c c Q a w) : (Code.scope c).wp P Q a w := by
  intro b k cs
  obtain ⟨e, a', w', hq, harr⟩ := h b k cs
  exact ⟨e, a', w', hq, .of_steps (.one step_scope) harr⟩

theorem LoopWp.mono {P : Program} {c : Code} {Q Q' : Exit → Act → World → Prop} {a : Act} {w : World} (h : LoopWp P c Q a w) (hq : ∀ e a w, Q e a w → Q' e a w) : LoopWp P c Q' a w :=
  fun b k cs => let ⟨e, a', w', q, r⟩ := h b k cs; ⟨e, a', w', hq _ _ _ q, r⟩
theorem Win.mono {P : Program} {body c : Code} {Q Q' : Exit → Act → World → Prop} {a : Act} {w : World} (h : Win P body c Q a w) (hq : ∀ e a w, Q e a w → Q' e a w) : Win P body c Q' a w :=
  fun b k cs => let ⟨e, a', w', q, r⟩ := h b k cs; ⟨e, a', w', hq _ _ _ q, r⟩

/-- What is asked of the interpreter's step for a piece of code. -/
def Sound (P : Program) (tb : Tb) (nt : Nat) (ih : Tk → St → Option (List (Ex × St))) : Prop :=
  ∀ (tk : Tk) (st : St) (L : List (Ex × St)), ih tk st = some L → tkOk nt tk = true → ∀ (N Lim : Nat) (φ : Froz) (γ : Place) (w : World) (a : Act), Rel N φ γ st.h w → GlobOk φ tb → Fr φ γ nt st.env a → st.h.base ≤ st.h.next →
    (∀ r, r ∈ L → r.2.h.next ≤ Lim) → Fresh Lim γ st.h → TkWp P tk (OutIs N φ γ nt st w L) a w

theorem OutIs.sub {N : Nat} {φ φ' : Froz} {γ γ' : Place} {nt : Nat} {st st' : St} {w w' : World} {L L' : List (Ex × St)} {T : Nat → Prop} (hs : Step N φ γ st.h w φ' γ' st'.h w' T) (hL : ∀ r, r ∈ L' → r ∈ L) {e : Exit} {a2 : Act} {w2 : World} (h : OutIs N φ' γ' nt st' w' L' e a2 w2) : OutIs N φ γ nt st w L e a2 w2 := by
  obtain ⟨r, hr, he, φ2, γ2, T2, hs2, hf2⟩ := h
  exact ⟨r, hL r hr, he, φ2, γ2, _, hs.trans hs2, hf2⟩

section
variable {P : Program} {tb : Tb} (hok : tb.Ok P) {cl : CallFn} (hcl : CallOk P tb cl) (hkn : Known P cl) (hgr : Grows cl) (hsta : Stat cl)
include hok hcl hkn hgr hsta

theorem step_sound {nt : Nat} (hnt : nt < 1048576) {ih : Tk → St → Option (List (Ex × St))} (hne : ∀ tk st L, ih tk st = some L → L ≠ []) (hnx : ∀ tk st L, ih tk st = some L → ∀ r, r ∈ L → st.h.next ≤ r.2.h.next) (hih : Sound P tb nt ih) : Sound P tb nt (stepC cl P tb ih) := by
  intro tk st L h htk N Lim φ γ w a hr hg hfr hb hlim hf
  have one : ∀ {e : Ex} {e' : Exit}, L = [(e, st)] → ExIs e e' → OutIs N φ γ nt st w L e' a w := fun hL he => by
    subst hL
    exact ⟨_, List.mem_singleton_self _, he, φ, γ, _, Step.refl hr, hfr⟩
  have lim_of : ∀ {M Lq : List (Ex × St)} (q : Ex × St), (∀ r, r ∈ Lq → r ∈ L) → Lq ≠ [] → (∀ r, r ∈ Lq → q.2.h.next ≤ r.2.h.next) → q.2.h.next ≤ Lim := fun q hin hne2 hle => by
    rename_i M Lq
    cases Lq with
    | nil => exact absurd rfl hne2
    | cons r Lq => exact Nat.le_trans (hle r List.mem_cons_self) (hlim r (hin r List.mem_cons_self))
  have tailp : ∀ {tk2 : Tk} {q : Ex × St} {Lq : List (Ex × St)}, ih tk2 q.2 = some Lq → (∀ r, r ∈ Lq → r ∈ L) → q.2.h.next ≤ Lim := fun hLq hin => lim_of (M := []) _ hin (hne _ _ _ hLq) (hnx _ _ _ hLq)
  unfold stepC at h
  split at h
  · cases h; exact ⟨wp_skip (one rfl trivial), fun d hd => by cases hd⟩
  · cases h; exact ⟨wp_label (one rfl trivial), fun d hd => by cases hd⟩
  · rename_i id ops draw
    refine ⟨?_, fun d hd => by cases hd⟩
    simp only [Option.bind_eq_some_iff] at h
    obtain ⟨M, hM, h⟩ := h
    simp only [tkOk, codeOk, Bool.and_eq_true] at htk
    cases draw with
    | true =>
      simp only [if_true] at h
      split at h
      · rename_i hd
        cases h
        simp only [Bool.and_eq_true, beq_iff_eq] at hd
        obtain ⟨r, rfl⟩ := List.length_eq_one_iff.1 hd.1
        have hd2 : drawOk ops r.2 = true := by simpa using hd.2
        refine draw_wp hok hcl hkn hgr hsta hnt htk.1 (by simpa using htk.2) hM hd2 hr hg hfr hb (hlim (Ex.normal, r.1) (List.mem_singleton_self _)) hf ?_
        intro φ' γ' a' w' T hs hfr'
        exact ⟨(Ex.normal, r.1), List.mem_singleton_self _, trivial, φ', γ', T, hs, hfr'⟩
      · exact absurd h (by simp)
    | false =>
      simp only [Bool.false_eq_true, if_false] at h
      cases h
      refine wp_region ?_
      rw [List.range_eq_range', show ops.size = ops.toList.length by simp]
      refine ops_ok hok hcl hkn hgr (N := N) (Lim := Lim) hnt htk.1 ops.toList 0 [] st M φ γ w a rfl hM hr hg hfr hb (fun r hr2 => hlim (Ex.normal, r.1) (List.mem_map.2 ⟨r, hr2, rfl⟩)) hf ?_
      intro r hr2 φ' γ' a' w' T hs hfr'
      exact ⟨(Ex.normal, r.1), List.mem_map.2 ⟨r, hr2, rfl⟩, trivial, φ', γ', T, hs, hfr'⟩
  · rename_i x y
    refine ⟨?_, fun d hd => by cases hd⟩
    simp only [Option.bind_eq_some_iff] at h
    obtain ⟨M, hM, h⟩ := h
    simp only [tkOk, codeOk, Bool.and_eq_true] at htk
    have hx := (hih _ _ _ hM htk.1 N Lim φ γ w a hr hg hfr hb (fun q hq => by
      obtain ⟨Lq, hLq, hin⟩ := bindL_in h q hq
      split at hLq
      · exact tailp (q := q) hLq hin
      · cases hLq; exact hlim _ (hin _ (List.mem_singleton_self _))) hf).1
    refine wp_seq (wp_mono hx ?_)
    intro e a1 w1 ho
    obtain ⟨q, hq, he, φ1, γ1, T1, hs1, hf1⟩ := ho
    obtain ⟨Lq, hLq, hin⟩ := bindL_in h q hq
    cases e with
    | normal =>
      have hqn : q.1 = .normal := by cases hq1 : q.1 <;> rw [hq1] at he <;> first | rfl | exact he.elim
      rw [hqn] at hLq
      have := (hih _ _ _ hLq htk.2 N Lim φ1 γ1 w1 a1 hs1.rel (hg.mono hs1.fle) hf1 (by rw [hs1.base]; exact Nat.le_trans hb hs1.next) (fun r hr2 => hlim r (hin r hr2)) (hs1.fresh hf)).1
      exact wp_mono this (fun e a w ho => OutIs.sub hs1 hin ho)
    | _ =>
      simp only [Exit.then]
      cases hq1 : q.1 <;> rw [hq1] at he hLq <;> first | exact he.elim | skip
      all_goals
        cases hLq
        exact ⟨_, hin _ (List.mem_singleton_self _), he, φ1, γ1, T1, hs1, hf1⟩
  · rename_i c x y
    refine ⟨?_, fun d hd => by cases hd⟩
    simp only [tkOk, codeOk, Bool.and_eq_true] at htk
    split at h
    · rename_i t hc
      have hce : a.eval c = .bool t := condOf_ok hg.rho hc (ev_rel hfr.rel hg c)
      refine wp_cond hce ?_
      cases t with
      | true =>
        simp only [if_true] at h ⊢
        exact (hih _ _ _ h htk.1 N Lim φ γ w a hr hg hfr hb hlim hf).1
      | false =>
        simp only [Bool.false_eq_true, if_false] at h ⊢
        exact (hih _ _ _ h htk.2 N Lim φ γ w a hr hg hfr hb hlim hf).1
    · exact absurd h (by simp)
  · rename_i id c
    refine ⟨?_, fun d hd => by cases hd⟩
    obtain ⟨M, hM, rfl⟩ := Option.map_eq_some_iff.1 h
    have hx := (hih _ _ _ hM htk N Lim φ γ w a hr hg hfr hb (fun q hq => by
      have := hlim _ (List.mem_map_of_mem (f := fun r : Ex × St => ((match r.1 with | .exit j => if j = id then .normal else .exit j | e => e : Ex), r.2)) hq)
      exact this) hf).1
    refine wp_block (wp_mono hx ?_)
    intro e a1 w1 ho
    obtain ⟨q, hq, he, φ1, γ1, T1, hs1, hf1⟩ := ho
    have hmem := List.mem_map_of_mem (f := fun r : Ex × St => ((match r.1 with | .exit j => if j = id then .normal else .exit j | e => e : Ex), r.2)) hq
    cases e <;> cases hq1 : q.1 <;> rw [hq1] at he <;> first | exact he.elim | skip
    all_goals simp only [hq1] at hmem
    · exact ⟨_, hmem, trivial, φ1, γ1, T1, hs1, hf1⟩
    · rename_i i j
      have hij : j = i := he
      subst hij
      simp only [Exit.inBlock]
      split
      · rename_i hid
        rw [if_pos hid] at hmem
        exact ⟨_, hmem, trivial, φ1, γ1, T1, hs1, hf1⟩
      · rename_i hid
        rw [if_neg hid] at hmem
        exact ⟨_, hmem, rfl, φ1, γ1, T1, hs1, hf1⟩
    · exact ⟨_, hmem, he, φ1, γ1, T1, hs1, hf1⟩
    · exact ⟨_, hmem, trivial, φ1, γ1, T1, hs1, hf1⟩
  · rename_i c
    simp only [Option.bind_eq_some_iff] at h
    obtain ⟨M, hM, h⟩ := h
    have hx := (hih (.code c) _ _ hM htk N Lim φ γ w a hr hg hfr hb (fun q hq => by
      obtain ⟨Lq, hLq, hin⟩ := bindL_in h q hq
      split at hLq
      · exact tailp (q := q) hLq hin
      · cases hLq; exact hlim _ (hin _ (List.mem_singleton_self _))) hf).1
    have key : c.wp P (Exit.then (LoopWp P c (OutIs N φ γ nt st w L)) (OutIs N φ γ nt st w L)) a w := by
      refine wp_mono hx ?_
      intro e a1 w1 ho
      obtain ⟨q, hq, he, φ1, γ1, T1, hs1, hf1⟩ := ho
      obtain ⟨Lq, hLq, hin⟩ := bindL_in h q hq
      cases e with
      | normal =>
        have hqn : q.1 = .normal := by cases hq1 : q.1 <;> rw [hq1] at he <;> first | rfl | exact he.elim
        rw [hqn] at hLq
        have := (hih _ _ _ hLq htk N Lim φ1 γ1 w1 a1 hs1.rel (hg.mono hs1.fle) hf1 (by rw [hs1.base]; exact Nat.le_trans hb hs1.next) (fun r hr2 => hlim r (hin r hr2)) (hs1.fresh hf)).2 c rfl
        exact LoopWp.mono this (fun e a w ho => OutIs.sub hs1 hin ho)
      | _ =>
        simp only [Exit.then]
        cases hq1 : q.1 <;> rw [hq1] at he hLq <;> first | exact he.elim | skip
        all_goals
          cases hLq
          exact ⟨_, hin _ (List.mem_singleton_self _), he, φ1, γ1, T1, hs1, hf1⟩
    have := loop_both key
    exact ⟨this.1, fun d hd => by cases hd; exact this.2⟩
  · cases h; exact ⟨wp_exit (one rfl rfl), fun d hd => by cases hd⟩
  · cases h; exact ⟨wp_goto (one rfl rfl), fun d hd => by cases hd⟩
  · cases h; exact ⟨wp_ret (one rfl trivial), fun d hd => by cases hd⟩
  · rename_i c
    refine ⟨scope_of (hih _ _ _ h (by simp only [tkOk, codeOk, Bool.and_eq_true] at htk ⊢; exact ⟨htk, htk⟩) N Lim φ γ w a hr hg hfr hb hlim hf), fun d hd => by cases hd⟩
  · rename_i body c
    simp only [Option.bind_eq_some_iff] at h
    obtain ⟨M, hM, h⟩ := h
    simp only [tkOk, Bool.and_eq_true] at htk
    have hx := (hih (.code c) _ _ hM htk.2 N Lim φ γ w a hr hg hfr hb (fun q hq => by
      obtain ⟨Lq, hLq, hin⟩ := bindL_in h q hq
      split at hLq
      · split at hLq
        · exact tailp (q := q) hLq hin
        · cases hLq; exact hlim (Ex.goto _, q.2) (hin _ (List.mem_singleton_self _))
      · cases hLq; exact hlim _ (hin _ (List.mem_singleton_self _))) hf).1
    refine win_of (wp_mono hx ?_)
    intro e a1 w1 ho
    obtain ⟨q, hq, he, φ1, γ1, T1, hs1, hf1⟩ := ho
    obtain ⟨Lq, hLq, hin⟩ := bindL_in h q hq
    cases e <;> cases hq1 : q.1 <;> rw [hq1] at he hLq <;> first | exact he.elim | skip
    · cases hLq
      exact ⟨_, hin _ (List.mem_singleton_self _), trivial, φ1, γ1, T1, hs1, hf1⟩
    · cases hLq
      exact ⟨_, hin _ (List.mem_singleton_self _), he, φ1, γ1, T1, hs1, hf1⟩
    · rename_i l l'
      have hll : l' = l := he
      subst hll
      simp only at hLq ⊢
      split at hLq
      · rename_i rest hrest
        rw [hrest]
        simp only
        have := hih _ _ _ hLq (by simp only [tkOk, Bool.and_eq_true]; exact ⟨htk.1, findLabel_ok htk.1 hrest⟩) N Lim φ1 γ1 w1 a1 hs1.rel (hg.mono hs1.fle) hf1 (by rw [hs1.base]; exact Nat.le_trans hb hs1.next) (fun r hr2 => hlim r (hin r hr2)) (hs1.fresh hf)
        exact Win.mono this (fun e a w ho => OutIs.sub hs1 hin ho)
      · rename_i hrest
        rw [hrest]
        cases hLq
        exact ⟨_, hin _ (List.mem_singleton_self _), rfl, φ1, γ1, T1, hs1, hf1⟩
    · cases hLq
      exact ⟨_, hin _ (List.mem_singleton_self _), trivial, φ1, γ1, T1, hs1, hf1⟩
  · exact absurd h (by simp)

theorem exec_sound {nt : Nat} (hnt : nt < 1048576) : ∀ n, Sound P tb nt (exec cl P tb n)
  | 0 => by intro tk st L h; simp [exec] at h
  | n + 1 => step_sound hok hcl hkn hgr hsta hnt (exec_ne hgr n) (exec_next hgr n) (exec_sound hnt n)
end

end
end Go.Sx
