/- Regions in the order of the text, code, calls. -/
import Derived.Test.YtaidiaiedhbaoaaSxD4
/- Regions in the order of the text, code, calls. -/
set_option linter.unusedVariables false
set_option linter.unusedSimpArgs false
namespace Go.Sx
noncomputable section

theorem findLabel_ok {nt : Nat} : ∀ {c : Code} {l : Nat} {r : Code}, codeOk nt c = true → findLabel c l = some r → codeOk nt r = true := by
  intro c
  induction c with
  | seq a b iha ihb =>
    intro l r hc h
    simp only [codeOk, Bool.and_eq_true] at hc
    simp only [findLabel] at h
    split at h
    · rename_i rest hr
      cases h
      simp only [codeOk, Bool.and_eq_true]
      exact ⟨iha hc.1 hr, hc.2⟩
    · exact ihb hc.2 h
  | label l' =>
    intro l r hc h
    simp only [findLabel] at h
    split at h
    · cases h; rfl
    · exact absurd h (by simp)
  | _ => intro l r hc h; simp [findLabel] at h

/-- Where the code has come to. -/
def ExIs : Ex → Exit → Prop
  | .normal, .normal => True
  | .exit i, .exit j => i = j
  | .goto i, .goto j => i = j
  | .ret, .ret => True
  | _, _ => False

/-- The mark that a loop over a function leaves among the deferred calls. -/
def markOf (D : Nat) : Deferred := { target := .collected D, args := #[] }
/-- The marks among the deferred calls: no round has deferred anything; none of the blocks is one of ours. -/
def MarksOk (M0 : Nat) (γ : Place) (w : World) (ds : List Deferred) : Prop :=
  ∃ Ds : List Nat, ds = Ds.map markOf ∧ Ds.Nodup ∧ ∀ D, D ∈ Ds → M0 ≤ D ∧ w.heap[D]? = some (.deferred (some [])) ∧ ∀ b x, γ b = some x → x.1 ≠ D
theorem MarksOk.nil {M0 : Nat} {γ : Place} {w : World} : MarksOk M0 γ w [] := ⟨[], rfl, List.nodup_nil, fun D h => by simp at h⟩
theorem MarksOk.step {M0 N : Nat} {φ φ' : Froz} {γ γ' : Place} {H H' : Heap} {w w' : World} {T : Nat → Prop} {ds : List Deferred} (h : MarksOk M0 γ w ds) (hs : Step N φ γ H w φ' γ' H' w' T) : MarksOk M0 γ' w' ds := by
  obtain ⟨Ds, h1, h2, h3⟩ := h
  refine ⟨Ds, h1, h2, fun D hD => ?_⟩
  obtain ⟨h4, h5, h6⟩ := h3 D hD
  have hlt : D < w.heap.size := (Array.getElem?_eq_some_iff.1 h5).1
  refine ⟨h4, (hs.fr D hlt (fun b x hx _ => h6 b x hx)).trans h5, fun b x hx => ?_⟩
  rcases hs.dom b x hx with h7 | ⟨_, _, h7 | ⟨b0, y, _, hy, he⟩⟩
  · exact h6 b x h7
  · omega
  · rw [← he]; exact h6 b0 y hy

/-- One outcome among those that the interpreter told. -/
def OutIs (N M0 : Nat) (φ : Froz) (γ : Place) (ro : Option Nat) (nt : Nat) (st : St) (w : World) (L : List (Ex × St)) (e : Exit) (a' : Act) (w' : World) : Prop :=
  ∃ r, r ∈ L ∧ ExIs r.1 e ∧ ∃ φ' γ' T, Step N φ γ st.h w φ' γ' r.2.h w' T ∧ ∃ ds', MarksOk M0 γ' w' ds' ∧ Fr φ' γ' ro ds' nt r.2.env a'

section
variable {P : Program} {tb : Tb} (hok : tb.Ok P) {cl : CallFn} (hcl : CallOk P tb cl) (hkn : Known P cl) (hgr : Grows cl)
include hok hcl hkn hgr

theorem ops_ok {ro : Option Nat} {ds : List Deferred} {N Lim nt : Nat} (hnt : nt < 1048576) {ops : Array Oper} (hops : opsOk nt ops = true) {Q : Exit → Act → World → Prop} : ∀ (l : List Oper) (i : Nat) (hard : Marks) (st : St) (L : List (St × Marks)) (φ : Froz) (γ : Place) (w : World) (a : Act),
    ops.toList.drop i = l → execOps cl P tb ops l i hard st = some L → Rel N φ γ st.h w → GlobOk φ tb → Fr φ γ ro ds nt st.env a → st.h.base ≤ st.h.next → (∀ r, r ∈ L → r.1.h.next ≤ Lim) → Fresh Lim γ st.h →
    (∀ r, r ∈ L → ∀ φ' γ' a' w' T, Step N φ γ st.h w φ' γ' r.1.h w' T → Fr φ' γ' ro ds nt r.1.env a' → Q .normal a' w') → wpOpsIn (wide ro) 0 P ops Q (List.range' i l.length) a w
  | [], i, hard, st, L, φ, γ, w, a, hl, h, hr, hg, hfr, hb, hlim, hf, hQ => by
    simp only [execOps, Option.some.injEq] at h
    subst h
    exact hQ _ (List.mem_singleton_self _) φ γ a w _ (Step.refl hr) hfr
  | o :: l, i, hard, st, L, φ, γ, w, a, hl, h, hr, hg, hfr, hb, hlim, hf, hQ => by
    have ho : ops[i]? = some o := by
      rw [← Array.getElem?_toList]
      have : (ops.toList.drop i)[0]? = some o := by rw [hl]; rfl
      simpa using this
    have hl' : ops.toList.drop (i + 1) = l := by
      have : (ops.toList.drop i).drop 1 = l := by rw [hl]; rfl
      rw [List.drop_drop] at this
      exact this
    have hdst := opsOk_at hops ho
    simp only [execOps] at h
    show wpOpsIn (wide ro) 0 P ops Q (List.range' i (l.length + 1)) a w
    rw [List.range'_succ]
    unfold wpOpsIn
    rw [ho]
    simp only
    split at h
    · exact absurd h (by simp)
    · rename_i hgd
      rw [guard_ok hg.rho hfr.rel hgd]
      simp only [Bool.false_eq_true, if_false]
      exact ⟨fun _ _ => trivial, ops_ok hnt hops l (i + 1) _ _ _ φ γ w _ hl' h hr hg (hfr.put hnt hdst (.tuple rfl (fun j v hj => by simp at hj))) hb hlim hf hQ⟩
    · rename_i hgd
      rw [guard_ok hg.rho hfr.rel hgd]
      simp only [if_true]
      simp only [Option.bind_eq_some_iff] at h
      obtain ⟨M, hM, h⟩ := h
      refine op_ok hok hcl hkn (Lim := Lim) hr hg hfr.rel hb o hM (fun q hq => ?_) hf ?_
      · obtain ⟨Lq, hLq, hin⟩ := bindL_in h q hq
        cases Lq with
        | nil => exact absurd rfl (execOps_ne hgr hLq)
        | cons r Lq => exact Nat.le_trans (execOps_next hgr hLq r List.mem_cons_self) (hlim r (hin r List.mem_cons_self))
      · intro q hq φ' γ' cv w' T hs hv _
        obtain ⟨Lq, hLq, hin⟩ := bindL_in h q hq
        refine ops_ok hnt hops l (i + 1) _ _ _ φ' γ' w' _ hl' hLq hs.rel (hg.mono hs.fle) ((hfr.mono hs.fle hs.ple).put hnt hdst hv) (by rw [hs.base]; exact Nat.le_trans hb hs.next) (fun r hr2 => hlim r (hin r hr2)) (hs.fresh hf) ?_
        intro r hr2 φ2 γ2 a2 w2 T2 hs2 hfr2
        exact hQ r (hin r hr2) φ2 γ2 a2 w2 _ (hs.trans hs2) hfr2
end

/-! ### Code -/
/-- A loop that goes on. -/
def LoopWp (ro : Option Nat) (P : Program) (c : Code) (Q : Exit → Act → World → Prop) (a : Act) (w : World) : Prop :=
  ∀ (b : Frame) (k : List Item) (cs : List Frame), b.roundOf = ro → ∃ e a' w', Q e a' w' ∧ ArrivesIn (Machine.fenced P (wide ro)) P (lone (b.atR a (.inLoop c :: k)) cs w) b k cs e a' w'
/-- Code within a scope. -/
def Win (ro : Option Nat) (P : Program) (body c : Code) (Q : Exit → Act → World → Prop) (a : Act) (w : World) : Prop :=
  ∀ (b : Frame) (k : List Item) (cs : List Frame), b.roundOf = ro → ∃ e a' w', Q e a' w' ∧ ArrivesIn (Machine.fenced P (wide ro)) P (lone (b.atR a (.code c :: .inScope body :: k)) cs w) b k cs e a' w'

def TkWp (ro : Option Nat) (P : Program) : Tk → (Exit → Act → World → Prop) → Act → World → Prop
  | .code c, Q, a, w => c.wpIn (wide ro) 0 P Q a w ∧ ∀ d, c = .loop d → LoopWp ro P d Q a w
  | .within body c, Q, a, w => Win ro P body c Q a w

def tkOk (nt : Nat) : Tk → Bool
  | .code c => codeOk nt c
  | .within body c => codeOk nt body && codeOk nt c

theorem wide_room (ro : Option Nat) (n : Nat) : (wide ro).room n := fun _ h => by simp [Fence.wide] at h
theorem wide_fenced (ro : Option Nat) (P : Program) (m : Machine) : m.fenced P (wide ro) := fenced_wide P m
section
variable {P : Program} {b : Frame} {a : Act} {k : List Item} {cs : List Frame} {w : World}
theorem stepR_scope {c : Code} : step P (lone (b.atR a (.code (.scope c) :: k)) cs w) = .next (lone (b.atR a (.code c :: .inScope c :: k)) cs w) :=
  step_lone_go (by simp [stepG, stepG.exec, Frame.atR])
theorem stepR_inScope {c : Code} : step P (lone (b.atR a (.inScope c :: k)) cs w) = .next (lone (b.atR a k) cs w) :=
  step_lone_go (by simp [stepG, stepG.exec, Frame.atR])
end

theorem loop_both {ro : Option Nat} {P : Program} {c : Code} {Q : Exit → Act → World → Prop} {a : Act} {w : World} (h : c.wpIn (wide ro) 0 P (Exit.then (LoopWp ro P c Q) Q) a w) : (Code.loop c).wpIn (wide ro) 0 P Q a w ∧ LoopWp ro P c Q a w := by
  have key : ∀ (b : Frame) (k : List Item) (cs : List Frame), b.roundOf = ro → ∃ e a' w', Q e a' w' ∧ ArrivesIn (Machine.fenced P (wide ro)) P (lone (b.atR a (.code c :: .inLoop c :: k)) cs w) b k cs e a' w' := by
    intro b k cs hro
    obtain ⟨e, a₁, w₁, hq, harr⟩ := h b (.inLoop c :: k) cs hro trivial (wide_room ro _)
    cases e with
    | normal =>
      obtain ⟨e₂, a₂, w₂, hq₂, harr₂⟩ := hq b k cs hro
      exact ⟨e₂, a₂, w₂, hq₂, .of_steps harr harr₂⟩
    | exit id => exact ⟨_, a₁, w₁, hq, .pass (x := .inLoop c) rfl (fun _ _ => .inl (by simp)) harr⟩
    | goto l => exact ⟨_, a₁, w₁, hq, .pass (x := .inLoop c) rfl (fun _ _ => .inl (by simp)) harr⟩
    | ret => exact ⟨_, a₁, w₁, hq, .pass (x := .inLoop c) rfl (fun _ _ => .inl (by simp)) harr⟩
    | panic ch => exact ⟨_, a₁, w₁, hq, .pass (x := .inLoop c) rfl (fun _ _ => .inl (by simp)) harr⟩
    | outgrown => exact ⟨_, a₁, w₁, hq, .pass (x := .inLoop c) rfl (fun _ _ => .inl (by simp)) harr⟩
  refine ⟨fun b k cs hro _ _ => ?_, fun b k cs hro => ?_⟩
  · obtain ⟨e, a', w', hq, harr⟩ := key b k cs hro
    exact ⟨e, a', w', hq, .of_steps (.one (wide_fenced ro P _) stepR_loop) harr⟩
  · obtain ⟨e, a', w', hq, harr⟩ := key b k cs hro
    exact ⟨e, a', w', hq, .of_steps (.one (wide_fenced ro P _) stepR_inLoop) harr⟩

theorem win_of {ro : Option Nat} {P : Program} {body c : Code} {Q : Exit → Act → World → Prop} {a : Act} {w : World}
    (h : c.wpIn (wide ro) 0 P (fun e a w => match e with | .goto l => (match findLabel body l with | some rest => Win ro P body rest Q a w | none => Q (.goto l) a w) | e => Q e a w) a w) : Win ro P body c Q a w := by
  intro b k cs hro
  obtain ⟨e, a₁, w₁, hq, harr⟩ := h b (.inScope body :: k) cs hro trivial (wide_room ro _)
  cases e with
  | normal => exact ⟨.normal, a₁, w₁, hq, StepsIn.trans harr (.one (wide_fenced ro P _) stepR_inScope)⟩
  | exit id =>
    have hx : exitTo id (.inScope body :: k) = exitTo id k := by simp [exitTo]
    exact ⟨.exit id, a₁, w₁, hq, fun k' hk => harr.1 k' (by rw [hx]; exact hk), fun hr hk => harr.2 hr (by rw [hx]; exact hk)⟩
  | goto l =>
    simp only at hq
    cases hf : findLabel body l with
    | some rest =>
      rw [hf] at hq
      obtain ⟨e₂, a₂, w₂, hq₂, harr₂⟩ := hq b k cs hro
      exact ⟨e₂, a₂, w₂, hq₂, .of_steps (harr.1 _ (by simp [gotoIn, hf])) harr₂⟩
    | none =>
      rw [hf] at hq
      have hx : gotoIn l (.inScope body :: k) = gotoIn l k := by simp [gotoIn, hf]
      exact ⟨.goto l, a₁, w₁, hq, fun k' hk => harr.1 k' (by rw [hx]; exact hk), fun hr hk => harr.2 hr (by rw [hx]; exact hk)⟩
  | ret => exact ⟨_, a₁, w₁, hq, harr⟩
  | panic ch => exact ⟨_, a₁, w₁, hq, harr⟩
  | outgrown => exact ⟨_, a₁, w₁, hq, harr⟩

theorem scope_of {ro : Option Nat} {P : Program} {c : Code} {Q : Exit → Act → World → Prop} {a : Act} {w : World} (h : Win ro P c c Q a w) : (Code.scope c).wpIn (wide ro) 0 P Q a w := by
  intro b k cs hro _ _
  obtain ⟨e, a', w', hq, harr⟩ := h b k cs hro
  exact ⟨e, a', w', hq, .of_steps (.one (wide_fenced ro P _) stepR_scope) harr⟩

theorem LoopWp.mono {ro : Option Nat} {P : Program} {c : Code} {Q Q' : Exit → Act → World → Prop} {a : Act} {w : World} (h : LoopWp ro P c Q a w) (hq : ∀ e a w, Q e a w → Q' e a w) : LoopWp ro P c Q' a w :=
  fun b k cs hro => let ⟨e, a', w', q, r⟩ := h b k cs hro; ⟨e, a', w', hq _ _ _ q, r⟩
theorem Win.mono {ro : Option Nat} {P : Program} {body c : Code} {Q Q' : Exit → Act → World → Prop} {a : Act} {w : World} (h : Win ro P body c Q a w) (hq : ∀ e a w, Q e a w → Q' e a w) : Win ro P body c Q' a w :=
  fun b k cs hro => let ⟨e, a', w', q, r⟩ := h b k cs hro; ⟨e, a', w', hq _ _ _ q, r⟩

/-- What the interpreter tells of a piece of code at a state holds in the model. -/
def SoundAt (P : Program) (tb : Tb) (nt : Nat) (tk : Tk) (st : St) (L : List (Ex × St)) : Prop :=
  ∀ (N Lim M0 : Nat) (ro : Option Nat) (ds : List Deferred) (φ : Froz) (γ : Place) (w : World) (a : Act), Rel N φ γ st.h w → GlobOk φ tb → M0 ≤ w.heap.size → MarksOk M0 γ w ds → Fr φ γ ro ds nt st.env a → st.h.base ≤ st.h.next →
    (∀ r, r ∈ L → r.2.h.next ≤ Lim) → Fresh Lim γ st.h → TkWp ro P tk (OutIs N M0 φ γ ro nt st w L) a w
/-- A loop that the table knows. -/
def LoopGood (P : Program) (tb : Tb) (nt : Nat) (d : Code) : Prop :=
  ∀ st t, tb.loopT (loopK d) st = some t → SoundAt P tb nt (.code (.loop d)) st [t.eval tb.rho st.h]
theorem LoopGood.bare {P : Program} {tb : Tb} {nt : Nat} {d : Code} : LoopGood P tb.bare nt d := fun st t h => by simp [Tb.bare] at h
theorem findLabel_loops : ∀ {c : Code} {l : Nat} {r : Code}, findLabel c l = some r → ∀ d, d ∈ loopsOf r → d ∈ loopsOf c := by
  intro c
  induction c with
  | seq a b iha ihb =>
    intro l r h d hd
    simp only [findLabel] at h
    split at h
    · rename_i rest hr
      cases h
      simp only [loopsOf, List.mem_append] at hd ⊢
      exact hd.imp (iha hr d) id
    · exact List.mem_append_right _ (ihb h d hd)
  | label l' =>
    intro l r h d hd
    simp only [findLabel] at h
    split at h
    · cases h; simp [loopsOf] at hd
    · exact absurd h (by simp)
  | _ => intro l r h; simp [findLabel] at h

/-- What is asked of the interpreter's step for a piece of code. -/
def Sound (P : Program) (tb : Tb) (nt : Nat) (ih : Tk → St → Option (List (Ex × St))) : Prop :=
  ∀ (tk : Tk) (st : St) (L : List (Ex × St)), ih tk st = some L → tkOk nt tk = true → (∀ d, d ∈ tkLoops tk → LoopGood P tb nt d) → SoundAt P tb nt tk st L

theorem OutIs.sub {N M0 : Nat} {φ φ' : Froz} {γ γ' : Place} {ro : Option Nat} {nt : Nat} {st st' : St} {w w' : World} {L L' : List (Ex × St)} {T : Nat → Prop} (hs : Step N φ γ st.h w φ' γ' st'.h w' T) (hL : ∀ r, r ∈ L' → r ∈ L) {e : Exit} {a2 : Act} {w2 : World} (h : OutIs N M0 φ' γ' ro nt st' w' L' e a2 w2) : OutIs N M0 φ γ ro nt st w L e a2 w2 := by
  obtain ⟨r, hr, he, φ2, γ2, T2, hs2, hf2⟩ := h
  exact ⟨r, hL r hr, he, φ2, γ2, _, hs.trans hs2, hf2⟩

/-- Where a way out of a piece of code leads to. -/
theorem ExIs.of {e : Ex} : ∃ x : Exit, ExIs e x := by
  cases e with
  | normal => exact ⟨.normal, trivial⟩
  | exit i => exact ⟨.exit i, rfl⟩
  | goto l => exact ⟨.goto l, rfl⟩
  | ret => exact ⟨.ret, trivial⟩

section
variable {P : Program} {tb : Tb} (hok : tb.Ok P) {cl : CallFn} (hcl : CallOk P tb cl) (hkn : Known P cl) (hgr : Grows cl) (hsta : Stat cl)
include hok hcl hkn hgr hsta

omit hok hsta in
theorem rangeFunc_ok {nt : Nat} (hnt : nt < 1048576) {g : Operand} {ps : Array Tmp} {asg body : Code} (hc : codeOk nt (.rangeFunc g ps asg body) = true) {st : St} {L : List (Ex × St)} (h : rangeFuncV cl tb g ps asg body st = some L)
    {N Lim M0 : Nat} {ro : Option Nat} {ds : List Deferred} {φ : Froz} {γ : Place} {w : World} {a : Act} (hr : Rel N φ γ st.h w) (hg : GlobOk φ tb) (hM0 : M0 ≤ w.heap.size) (hmk : MarksOk M0 γ w ds) (hfr : Fr φ γ ro ds nt st.env a) (hb : st.h.base ≤ st.h.next)
    (hlim : ∀ r, r ∈ L → r.2.h.next ≤ Lim) (hf : Fresh Lim γ st.h) : (Code.rangeFunc g ps asg body).wpIn (wide ro) 0 P (OutIs N M0 φ γ ro nt st w L) a w := by
  have hne := rangeFuncV_next hgr h
  obtain ⟨hir, gf, first, captured, H1, M, hgv, hgb, hH1, hM, hL⟩ := rangeFuncV_out h
  have hro : ro = none := by
    cases ro with
    | none => rfl
    | some l => have := hfr.rnd rfl; rw [hir] at this; exact absurd this (by simp)
  subst hro
  have hgrel := ev_rel hfr.rel hg g
  rw [hgv] at hgrel
  generalize hge : a.eval g = gv at hgrel
  simp only [codeOk, Bool.and_eq_true, Array.all_eq_true_iff_forall_mem, decide_eq_true_eq] at hc
  obtain ⟨hc1, hc2, hc3⟩ := hc
  have hMlim : ∀ r, r ∈ M → r.2.next ≤ Lim := by
    intro r hrM
    obtain ⟨Lq, hLq, hin⟩ := bindL_in hL r hrM
    have h1 := endLoopV_next hLq
    cases Lq with
    | nil => exact absurd rfl h1.1
    | cons x Lq =>
      have h2 := h1.2 x List.mem_cons_self
      have h3 := hlim x (hin x List.mem_cons_self)
      rw [h2] at h3
      exact h3
  have hMne := hgr _ _ _ _ hM
  have hn1 := Heap.new_next hH1
  have hH1lim : H1.next ≤ Lim := by
    cases M with
    | nil => exact absurd rfl hMne.1
    | cons x M => exact Nat.le_trans (hMne.2 x List.mem_cons_self) (hMlim x List.mem_cons_self)
  have hfree : γ st.h.next = none := hf _ (Nat.le_refl _) (by omega)
  obtain ⟨fnn, hf1, hf2, hf3⟩ := hkn gf _ _ _ hgb hM
  have hf2' : ¬ fnn.name = "runtime.NumGoroutine" := by simpa using hf2
  have hf3' : ¬ fnn.body = none := by cases hb : fnn.body with | none => rw [hb] at hf3; simp at hf3 | some _ => simp
  cases hgrel with
  | @func _ _ _ fs cs h1 h2 h3 h4 =>
  refine wpIn_rangeFunc fun fn _ => ?_
  have hsD : Step N φ γ st.h w φ γ st.h (w.alloc (.deferred (some []))) (fun _ => False) := Step.alloc hr _ (FLe.refl _) (fun _ _ _ h => .inl h)
  have hrD := hsD.rel
  have hs1 : Step N φ γ st.h (w.alloc (.deferred (some []))) φ (PAdd γ st.h.next ((w.alloc (.deferred (some []))).heap.size, 0, 0)) H1 ((w.alloc (.deferred (some []))).alloc (.loop { state := .ready, pending := none, fn := fn, tmps := a.tmps, params := ps, assign := asg, body := body, defers := w.heap.size })) (fun _ => False) :=
    Step.new hrD _ (FLe.refl _) (fun _ _ _ h => .inl h) hH1 hfree 0 0
      ⟨rfl, { state := .ready, pending := none, fn := fn, tmps := a.tmps, params := ps, assign := asg, body := body, defers := w.heap.size }, Array.getElem?_push_size, { state := rfl, pending := rfl, params := rfl, assign := rfl, bodyIs := rfl, few := by simpa [hfr.size] using hnt, asgOk := by simpa [hfr.size] using hc2, bodyOk := by simpa [hfr.size] using hc3, psOk := fun p hp => by simpa [hfr.size] using hc1 p (Array.mem_toList_iff.1 hp), rel := fun t => (hfr.rel t).mono (FLe.refl _) (PLe.add _ hfree) }⟩
      (fun _ off _ => hrD.nofroz off)
  generalize hwD : w.alloc (.deferred (some [])) = wD at hsD hrD hs1
  have hl : wD.heap.size = w.heap.size + 1 := by rw [← hwD]; simp
  generalize hl0 : wD.heap.size = l at hs1
  generalize hw1 : wD.alloc (.loop { state := .ready, pending := none, fn := fn, tmps := a.tmps, params := ps, assign := asg, body := body, defers := w.heap.size }) = w1 at hs1
  have hargs : ArgsRel φ (PAdd γ st.h.next (l, 0, 0)) (first ++ [.yield st.h.next] ++ captured) (fs ++ #[.func (.yield l) #[] #[]] ++ cs) := by
    refine ⟨by simp [h1, h2]; omega, fun j v hj => ?_⟩
    rw [Array.getD_eq_getD_getElem?]
    have hl1 : (fs ++ #[Value.func (.yield l) #[] #[]]).size = first.length + 1 := by simp [h1]
    by_cases hj1 : j < first.length
    · rw [List.append_assoc, List.getElem?_append_left hj1] at hj
      rw [Array.append_assoc, Array.getElem?_append_left (by omega), ← Array.getD_eq_getD_getElem?]
      exact (h3 j v hj).mono (FLe.refl _) (PLe.add _ hfree)
    · by_cases hj2 : j < first.length + 1
      · have hje : j = first.length := by omega
        subst hje
        rw [List.append_assoc, List.getElem?_append_right (by omega), List.getElem?_append_left (by simp)] at hj
        rw [Array.append_assoc, Array.getElem?_append_right (by omega), Array.getElem?_append_left (by simp; omega)]
        simp [h1] at hj ⊢
        subst hj
        exact .yield (PAdd.self _ _ _)
      · rw [List.getElem?_append_right (by simp; omega)] at hj
        rw [Array.getElem?_append_right (by omega), ← Array.getD_eq_getD_getElem?, hl1]
        have e : j - (first ++ [V.yield st.h.next]).length = j - (first.length + 1) := by simp
        rw [e] at hj
        exact (h4 _ v hj).mono (FLe.refl _) (PLe.add _ hfree)
  refine ⟨l, [markOf w.heap.size], w1, { target := .fn (.func gf) cs, args := fs ++ #[.func (.yield l) #[] #[]] }, w1, gf, fs ++ #[.func (.yield l) #[] #[]] ++ cs, w1, ?_, ?_, fun _ _ => trivial, ?_, fun hd => by simp [Fence.wide] at hd, ?_⟩
  · subst hwD; subst hl0; subst hw1
    simp [Instr.enterLoop, markOf]
  · have hce : a.eval (.const (.func (.yield l) #[] #[])) = .func (.yield l) #[] #[] := rfl
    simp [resolve, rangeCall, hge, Deferred.ofValue, hce]
  · simp [invoke, callFunc, hf1, hf2', hf3', program, Sem.run]
  · have hb1 : H1.base ≤ H1.next := by rw [hs1.base]; exact Nat.le_trans hb hs1.next
    have hcall := hcl.1 gf _ _ _ hgb hM N Lim φ (PAdd γ st.h.next (l, 0, 0)) w1 _ (⟨hs1.rel.ge, hs1.rel.keys, hs1.rel.froz, hs1.rel.lt, hs1.rel.blk, hs1.rel.free, hs1.rel.inj⟩ : Rel N φ (PAdd γ st.h.next (l, 0, 0)) { H1 with base := H1.next, low := none } w1) (Nat.le_refl _) hg hMlim (show Fresh Lim _ { H1 with base := H1.next, low := none } from fun b hb hL => hs1.fresh hf b hb hL) hargs
    show CallsIn Fence.wide (0 - 1) P gf _ w1 _
    refine callsIn_wide.2 (hcall.mono fun e w3 hh => ?_)
    obtain ⟨r, hrM, φ', γ', cv, T, rfl, hs, hv⟩ := hh
    have hs2 : Step N φ (PAdd γ st.h.next (l, 0, 0)) H1 w1 φ' γ' (back H1 r.2) w3 T := Step.back hb1 hs
    have hs3 := (hsD.trans hs1).trans hs2
    obtain ⟨Lq, hLq, hin⟩ := bindL_in hL r hrM
    obtain ⟨env', ps', asg', body', s, pend, e, hk, hsb, he, rfl⟩ := endLoopV_out hLq
    have hkl : γ' st.h.next = some (l, 0, 0) := hs2.ple _ _ (PAdd.self _ _ _)
    obtain ⟨_, r0, hr0, hloop⟩ := hs3.rel.blk _ _ _ hkl hk
    have hr0 : w3.heap[l]? = some (.loop r0) := hr0
    have hend : (Instr.endLoop l).run P w3 = .ok pend { w3 with heap := w3.heap.setIfInBounds l (.loop { r0 with state := .exhausted }) } := by
      have hsb' : ¬ (r0.state == LoopState.busy) = true := by rw [hloop.state]; intro hx; exact hsb (by cases s <;> first | rfl | exact absurd hx (by decide))
      simp only [Instr.endLoop, Instr.getLoop, Sem.run_bind, run_getObj (P := P) hr0 (by simp), Result.andThen_ok, Sem.run_pure, if_neg hsb']
      rw [run_setObj (P := P) (o' := .loop { r0 with state := .exhausted }) hr0 (by simp)]
      simp only [Result.andThen_ok, hloop.pending]
    refine ⟨pend, _, hend, ?_⟩
    have hs4 := iter_put hs3.rel (k' := .tail false) (o' := .loop { r0 with state := .exhausted }) hkl hk rfl rfl rfl hr0 trivial
    have hmk1 : MarksOk M0 (PAdd γ st.h.next (l, 0, 0)) w1 (markOf w.heap.size :: ds) := by
      obtain ⟨Ds, hd1, hd2, hd3⟩ := (hmk.step (hsD.trans hs1))
      obtain ⟨Ds0, hd10, hd20, hd30⟩ := hmk
      have hsame : Ds = Ds0 := by
        have := hd1.symm.trans hd10
        have inj : ∀ x y, markOf x = markOf y → x = y := fun x y hxy => by simpa [markOf] using hxy
        exact (List.map_inj_right inj).1 this
      subst hsame
      refine ⟨w.heap.size :: Ds, by rw [hd1]; rfl, List.nodup_cons.2 ⟨fun hin => ?_, hd2⟩, fun D hD => ?_⟩
      · have := (Array.getElem?_eq_some_iff.1 (hd30 _ hin).2.1).1
        omega
      · rcases List.mem_cons.1 hD with rfl | hD
        · refine ⟨hM0, ?_, fun b x hx => ?_⟩
          · rw [← hw1]
            show (Array.push _ _)[_]? = _
            rw [Array.getElem?_push, if_neg (by omega), ← hwD]
            show (Array.push _ _)[_]? = _
            simp
          · unfold PAdd at hx
            split at hx
            · cases hx; simp only; omega
            · have := (hr.lt b x hx).1; omega
        · exact hd3 D hD
    have hout : ∀ x, ExIs e x → OutIs N M0 φ γ none nt st w L x { a with defers := [markOf w.heap.size] ++ a.defers } { w3 with heap := w3.heap.setIfInBounds l (.loop { r0 with state := .exhausted }) } := fun x hx =>
      ⟨_, hin _ (List.mem_singleton_self _), hx, φ', γ', _, hs3.trans hs4, markOf w.heap.size :: ds, (hmk1.step hs2).step hs4, hfr.rel.mono hs3.fle hs3.ple, hfr.size, by simp [hfr.defers], fun h => by simp at h⟩
    match pend, he with
    | none, he => simp only [exOf, Option.some.injEq] at he; subst he; exact hout .normal trivial
    | some .ret, he => simp only [exOf, Option.some.injEq] at he; subst he; exact wpIn_ret (hout .ret trivial)
    | some (.exit id), he => simp only [exOf, Option.some.injEq] at he; subst he; exact wpIn_exit (hout (.exit id) rfl)
    | some (.goto l), he => simp only [exOf, Option.some.injEq] at he; subst he; exact wpIn_goto (hout (.goto l) rfl)
    | some .skip, he | some (.region ..), he | some (.seq ..), he | some (.cond ..), he | some (.block ..), he | some (.loop _), he | some (.scope _), he | some (.label _), he | some (.rangeFunc ..), he | some (.refuse _), he => simp [exOf] at he

theorem step_sound {nt : Nat} (hnt : nt < 1048576) {ih : Tk → St → Option (List (Ex × St))} (hne : ∀ tk st L, ih tk st = some L → L ≠ []) (hnx : ∀ tk st L, ih tk st = some L → ∀ r, r ∈ L → st.h.next ≤ r.2.h.next) (hih : Sound P tb nt ih) : Sound P tb nt (stepC cl P tb ih) := by
  intro tk st L h htk hlg N Lim M0 ro ds φ γ w a hr hg hM0 hmk hfr hb hlim hf
  have one : ∀ {e : Ex} {e' : Exit}, L = [(e, st)] → ExIs e e' → OutIs N M0 φ γ ro nt st w L e' a w := fun hL he => by
    subst hL
    exact ⟨_, List.mem_singleton_self _, he, φ, γ, _, Step.refl hr, ds, hmk, hfr⟩
  have lim_of : ∀ {M Lq : List (Ex × St)} (q : Ex × St), (∀ r, r ∈ Lq → r ∈ L) → Lq ≠ [] → (∀ r, r ∈ Lq → q.2.h.next ≤ r.2.h.next) → q.2.h.next ≤ Lim := fun q hin hne2 hle => by
    rename_i M Lq
    cases Lq with
    | nil => exact absurd rfl hne2
    | cons r Lq => exact Nat.le_trans (hle r List.mem_cons_self) (hlim r (hin r List.mem_cons_self))
  have tailp : ∀ {tk2 : Tk} {q : Ex × St} {Lq : List (Ex × St)}, ih tk2 q.2 = some Lq → (∀ r, r ∈ Lq → r ∈ L) → q.2.h.next ≤ Lim := fun hLq hin => lim_of (M := []) _ hin (hne _ _ _ hLq) (hnx _ _ _ hLq)
  unfold stepC at h
  split at h
  · cases h; exact ⟨wpIn_skip (one rfl trivial), fun d hd => by cases hd⟩
  · cases h; exact ⟨wpIn_label (one rfl trivial), fun d hd => by cases hd⟩
  · rename_i id ops draw
    refine ⟨?_, fun d hd => by cases hd⟩
    simp only [Option.bind_eq_some_iff] at h
    obtain ⟨M, hM, h⟩ := h
    simp only [tkOk, codeOk, Bool.and_eq_true] at htk
    cases draw with
    | true =>
      simp only [if_true] at h
      split at h
      · rename_i hd
        cases h
        simp only [Bool.and_eq_true, beq_iff_eq] at hd
        obtain ⟨r, rfl⟩ := List.length_eq_one_iff.1 hd.1
        have hd2 : drawOk ops r.2 = true := by simpa using hd.2
        refine draw_wp hok hcl hkn hgr hsta hnt htk.1 (by simpa using htk.2) hM hd2 hr hg hfr hb (hlim (Ex.normal, r.1) (List.mem_singleton_self _)) hf ?_
        intro φ' γ' a' w' T hs hfr'
        exact ⟨(Ex.normal, r.1), List.mem_singleton_self _, trivial, φ', γ', T, hs, ds, hmk.step hs, hfr'⟩
      · exact absurd h (by simp)
    | false =>
      simp only [Bool.false_eq_true, if_false] at h
      cases h
      refine wpIn_region ?_
      rw [List.range_eq_range', show ops.size = ops.toList.length by simp]
      refine ops_ok hok hcl hkn hgr (ro := ro) (ds := ds) (N := N) (Lim := Lim) hnt htk.1 ops.toList 0 [] st M φ γ w a rfl hM hr hg hfr hb (fun r hr2 => hlim (Ex.normal, r.1) (List.mem_map.2 ⟨r, hr2, rfl⟩)) hf ?_
      intro r hr2 φ' γ' a' w' T hs hfr'
      exact ⟨(Ex.normal, r.1), List.mem_map.2 ⟨r, hr2, rfl⟩, trivial, φ', γ', T, hs, ds, hmk.step hs, hfr'⟩
  · rename_i x y
    refine ⟨?_, fun d hd => by cases hd⟩
    simp only [Option.bind_eq_some_iff] at h
    obtain ⟨M, hM, h⟩ := h
    simp only [tkOk, codeOk, Bool.and_eq_true] at htk
    have hx := (hih _ _ _ hM htk.1 (fun d hd => hlg d (List.mem_append_left _ hd)) N Lim M0 ro ds φ γ w a hr hg hM0 hmk hfr hb (fun q hq => by
      obtain ⟨Lq, hLq, hin⟩ := bindL_in h q hq
      split at hLq
      · have := tailp (q := (q.1, forget tb (loopKey y + 1048576) q.2)) hLq hin
        exact Nat.le_trans (forget_next tb (loopKey y + 1048576) q.2).1 this
      · cases hLq; exact hlim _ (hin _ (List.mem_singleton_self _))) hf).1
    refine wpIn_seq (wpIn_mono hx ?_)
    intro e a1 w1 ho
    obtain ⟨q, hq, he, φ1, γ1, T1, hs1, ds1, hm1, hf1⟩ := ho
    obtain ⟨Lq, hLq, hin⟩ := bindL_in h q hq
    cases e with
    | normal =>
      have hqn : q.1 = .normal := by cases hq1 : q.1 <;> rw [hq1] at he <;> first | rfl | exact he.elim
      rw [hqn] at hLq
      have hs1' := hs1.forget (tb := tb) (c := loopKey y + 1048576)
      have := (hih _ _ _ hLq htk.2 (fun d hd => hlg d (List.mem_append_right _ hd)) N Lim M0 ro ds1 φ1 γ1 w1 a1 hs1'.rel (hg.mono hs1.fle) (Nat.le_trans hM0 hs1.size) hm1 (hf1.forget (hg.mono hs1.fle).rho) (by rw [hs1'.base]; exact Nat.le_trans hb hs1'.next) (fun r hr2 => hlim r (hin r hr2)) (hs1'.fresh hf)).1
      exact wpIn_mono this (fun e a w ho => OutIs.sub hs1' hin ho)
    | _ =>
      simp only [Exit.then]
      cases hq1 : q.1 <;> rw [hq1] at he hLq <;> first | exact he.elim | skip
      all_goals
        cases hLq
        exact ⟨_, hin _ (List.mem_singleton_self _), he, φ1, γ1, T1, hs1, ds1, hm1, hf1⟩
  · rename_i c x y
    refine ⟨?_, fun d hd => by cases hd⟩
    simp only [tkOk, codeOk, Bool.and_eq_true] at htk
    split at h
    · rename_i t hc
      have hce : a.eval c = .bool t := condOf_ok hg.rho hc (ev_rel hfr.rel hg c)
      refine wpIn_cond hce ?_
      cases t with
      | true =>
        simp only [if_true] at h ⊢
        exact (hih _ _ _ h htk.1 (fun d hd => hlg d (List.mem_append_left _ hd)) N Lim M0 ro ds φ γ w a hr hg hM0 hmk hfr hb hlim hf).1
      | false =>
        simp only [Bool.false_eq_true, if_false] at h ⊢
        exact (hih _ _ _ h htk.2 (fun d hd => hlg d (List.mem_append_right _ hd)) N Lim M0 ro ds φ γ w a hr hg hM0 hmk hfr hb hlim hf).1
    · exact absurd h (by simp)
  · rename_i id c
    refine ⟨?_, fun d hd => by cases hd⟩
    obtain ⟨M, hM, rfl⟩ := Option.map_eq_some_iff.1 h
    have hx := (hih _ _ _ hM htk hlg N Lim M0 ro ds φ γ w a hr hg hM0 hmk hfr hb (fun q hq => by
      have := hlim _ (List.mem_map_of_mem (f := fun r : Ex × St => ((match r.1 with | .exit j => if j = id then .normal else .exit j | e => e : Ex), r.2)) hq)
      exact this) hf).1
    refine wpIn_block (wpIn_mono hx ?_)
    intro e a1 w1 ho
    obtain ⟨q, hq, he, φ1, γ1, T1, hs1, ds1, hm1, hf1⟩ := ho
    have hmem := List.mem_map_of_mem (f := fun r : Ex × St => ((match r.1 with | .exit j => if j = id then .normal else .exit j | e => e : Ex), r.2)) hq
    cases e <;> cases hq1 : q.1 <;> rw [hq1] at he <;> first | exact he.elim | skip
    all_goals simp only [hq1] at hmem
    · exact ⟨_, hmem, trivial, φ1, γ1, T1, hs1, ds1, hm1, hf1⟩
    · rename_i i j
      have hij : j = i := he
      subst hij
      simp only [Exit.inBlock]
      split
      · rename_i hid
        rw [if_pos hid] at hmem
        exact ⟨_, hmem, trivial, φ1, γ1, T1, hs1, ds1, hm1, hf1⟩
      · rename_i hid
        rw [if_neg hid] at hmem
        exact ⟨_, hmem, rfl, φ1, γ1, T1, hs1, ds1, hm1, hf1⟩
    · exact ⟨_, hmem, he, φ1, γ1, T1, hs1, ds1, hm1, hf1⟩
    · exact ⟨_, hmem, trivial, φ1, γ1, T1, hs1, ds1, hm1, hf1⟩
  · rename_i c
    split at h
    · rename_i t ht
      cases h
      exact hlg c List.mem_cons_self st t ht N Lim M0 ro ds φ γ w a hr hg hM0 hmk hfr hb hlim hf
    simp only [Option.bind_eq_some_iff] at h
    obtain ⟨M, hM, h⟩ := h
    have hx := (hih (.code c) _ _ hM htk (fun d hd => hlg d (List.mem_cons_of_mem _ hd)) N Lim M0 ro ds φ γ w a hr hg hM0 hmk hfr hb (fun q hq => by
      obtain ⟨Lq, hLq, hin⟩ := bindL_in h q hq
      split at hLq
      · have := tailp (q := (q.1, forget tb (loopKey c) q.2)) hLq hin
        exact Nat.le_trans (forget_next tb (loopKey c) q.2).1 this
      · cases hLq; exact hlim _ (hin _ (List.mem_singleton_self _))) hf).1
    have key : c.wpIn (wide ro) 0 P (Exit.then (LoopWp ro P c (OutIs N M0 φ γ ro nt st w L)) (OutIs N M0 φ γ ro nt st w L)) a w := by
      refine wpIn_mono hx ?_
      intro e a1 w1 ho
      obtain ⟨q, hq, he, φ1, γ1, T1, hs1, ds1, hm1, hf1⟩ := ho
      obtain ⟨Lq, hLq, hin⟩ := bindL_in h q hq
      cases e with
      | normal =>
        have hqn : q.1 = .normal := by cases hq1 : q.1 <;> rw [hq1] at he <;> first | rfl | exact he.elim
        rw [hqn] at hLq
        have hs1' : Step N φ γ st.h w φ1 γ1 (forget tb (loopKey c) q.2).h w1 T1 := hs1.forget
        have := (hih _ _ _ hLq htk hlg N Lim M0 ro ds1 φ1 γ1 w1 a1 hs1'.rel (hg.mono hs1.fle) (Nat.le_trans hM0 hs1.size) hm1 (hf1.forget (hg.mono hs1.fle).rho) (by rw [hs1'.base]; exact Nat.le_trans hb hs1'.next) (fun r hr2 => hlim r (hin r hr2)) (hs1'.fresh hf)).2 c rfl
        exact LoopWp.mono this (fun e a w ho => OutIs.sub hs1' hin ho)
      | _ =>
        simp only [Exit.then]
        cases hq1 : q.1 <;> rw [hq1] at he hLq <;> first | exact he.elim | skip
        all_goals
          cases hLq
          exact ⟨_, hin _ (List.mem_singleton_self _), he, φ1, γ1, T1, hs1, ds1, hm1, hf1⟩
    have := loop_both key
    exact ⟨this.1, fun d hd => by cases hd; exact this.2⟩
  · cases h; exact ⟨wpIn_exit (one rfl rfl), fun d hd => by cases hd⟩
  · cases h; exact ⟨wpIn_goto (one rfl rfl), fun d hd => by cases hd⟩
  · cases h; exact ⟨wpIn_ret (one rfl trivial), fun d hd => by cases hd⟩
  · exact ⟨rangeFunc_ok hcl hkn hgr hnt (by simpa [tkOk, codeOk, Bool.and_eq_true] using htk) h hr hg hM0 hmk hfr hb hlim hf, fun d hd => by cases hd⟩
  · rename_i c
    refine ⟨scope_of (hih _ _ _ h (by simp only [tkOk, codeOk, Bool.and_eq_true] at htk ⊢; exact ⟨htk, htk⟩) (fun d hd => (List.mem_append.1 hd).elim (hlg d) (hlg d)) N Lim M0 ro ds φ γ w a hr hg hM0 hmk hfr hb hlim hf), fun d hd => by cases hd⟩
  · rename_i body c
    simp only [Option.bind_eq_some_iff] at h
    obtain ⟨M, hM, h⟩ := h
    simp only [tkOk, Bool.and_eq_true] at htk
    have hx := (hih (.code c) _ _ hM htk.2 (fun d hd => hlg d (List.mem_append_right _ hd)) N Lim M0 ro ds φ γ w a hr hg hM0 hmk hfr hb (fun q hq => by
      obtain ⟨Lq, hLq, hin⟩ := bindL_in h q hq
      split at hLq
      · split at hLq
        · exact tailp (q := q) hLq hin
        · cases hLq; exact hlim (Ex.goto _, q.2) (hin _ (List.mem_singleton_self _))
      · cases hLq; exact hlim _ (hin _ (List.mem_singleton_self _))) hf).1
    refine win_of (wpIn_mono hx ?_)
    intro e a1 w1 ho
    obtain ⟨q, hq, he, φ1, γ1, T1, hs1, ds1, hm1, hf1⟩ := ho
    obtain ⟨Lq, hLq, hin⟩ := bindL_in h q hq
    cases e <;> cases hq1 : q.1 <;> rw [hq1] at he hLq <;> first | exact he.elim | skip
    · cases hLq
      exact ⟨_, hin _ (List.mem_singleton_self _), trivial, φ1, γ1, T1, hs1, ds1, hm1, hf1⟩
    · cases hLq
      exact ⟨_, hin _ (List.mem_singleton_self _), he, φ1, γ1, T1, hs1, ds1, hm1, hf1⟩
    · rename_i l l'
      have hll : l' = l := he
      subst hll
      simp only at hLq ⊢
      split at hLq
      · rename_i rest hrest
        rw [hrest]
        simp only
        have := hih _ _ _ hLq (by simp only [tkOk, Bool.and_eq_true]; exact ⟨htk.1, findLabel_ok htk.1 hrest⟩) (fun d hd => (List.mem_append.1 hd).elim (fun h => hlg d (List.mem_append_left _ h)) (fun h => hlg d (List.mem_append_left _ (findLabel_loops hrest d h)))) N Lim M0 ro ds1 φ1 γ1 w1 a1 hs1.rel (hg.mono hs1.fle) (Nat.le_trans hM0 hs1.size) hm1 hf1 (by rw [hs1.base]; exact Nat.le_trans hb hs1.next) (fun r hr2 => hlim r (hin r hr2)) (hs1.fresh hf)
        exact Win.mono this (fun e a w ho => OutIs.sub hs1 hin ho)
      · rename_i hrest
        rw [hrest]
        cases hLq
        exact ⟨_, hin _ (List.mem_singleton_self _), rfl, φ1, γ1, T1, hs1, ds1, hm1, hf1⟩
    · cases hLq
      exact ⟨_, hin _ (List.mem_singleton_self _), trivial, φ1, γ1, T1, hs1, ds1, hm1, hf1⟩
  · exact absurd h (by simp)

theorem exec_sound {nt : Nat} (hnt : nt < 1048576) : ∀ n, Sound P tb nt (exec cl P tb n)
  | 0 => by intro tk st L h; simp [exec] at h
  | n + 1 => step_sound hok hcl hkn hgr hsta hnt (exec_ne hgr n) (exec_next hgr n) (exec_sound hnt n)
end

end
end Go.Sx
