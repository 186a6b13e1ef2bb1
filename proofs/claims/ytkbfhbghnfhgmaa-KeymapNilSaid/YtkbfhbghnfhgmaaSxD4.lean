/- Regions that draw their order: one operation taken; all. -/
import Derived.Test.YtkbfhbghnfhgmaaSxD3
set_option linter.unusedVariables false
set_option linter.unusedSimpArgs false
namespace Go.Sx

theorem pure_flag {cl : CallFn} {P : Program} {tb : Tb} {env : Env} {H H' : Heap} {o : Op} {v : V} {f : Bool} (hp : isPure o = true) (h : evalOp cl P tb env H o = some [(v, H', f)]) : H' = H ∧ f = false ∧ ∀ H2, evalOp cl P tb env H2 o = some [(v, H2, false)] := by
  unfold evalOp at h
  rw [if_pos hp] at h
  obtain ⟨v', hv, he⟩ := Option.map_eq_some_iff.1 h
  simp only [List.cons.injEq, Prod.mk.injEq, and_true] at he
  obtain ⟨rfl, rfl, rfl⟩ := he
  refine ⟨rfl, rfl, fun H2 => ?_⟩
  unfold evalOp
  rw [if_pos hp, hv]
  rfl

theorem Act.put_def (a : Act) (dst : Option Tmp) (v : Value) : (a.put dst v).defers = a.defers ∧ (a.put dst v).tmps.size = a.tmps.size := by
  cases dst with
  | none => exact ⟨rfl, rfl⟩
  | some d => exact ⟨rfl, by simp [Act.put]⟩

section
variable {P : Program} {tb : Tb} (hok : tb.Ok P) {cl : CallFn} (hcl : CallOk P tb cl) (hkn : Known P cl)
  {ops : Array Oper} {E : Nat → Env} {Hp : Nat → Heap} {v : Nat → V} {fl on : Nat → Bool} {N Lim nt : Nat} (hnt : nt < 1048576) (hops : opsOk nt ops = true) (htmp : tempsOk ops = true)
  (hst : ∀ j, j < ops.size → ∃ o, Steps cl P tb ops E Hp v fl on j o) (hwf : ∀ j, j ≤ ops.size → Hwf (Hp j)) (hle : ∀ j, j < ops.size → fl j = false → HLe (Hp j) (Hp (j + 1))) (hnx : ∀ j, j < ops.size → (Hp j).next ≤ (Hp (j + 1)).next)
  (hhard : ∀ h, h < ops.size → fl h = true → ∀ j o, ops[j]? = some o → j ≠ h → isPure o.op = false → (h < j → Waits ops j h) ∧ (j < h → Waits ops h j))
  (hlim : (Hp ops.size).next ≤ Lim) {φ0 : Froz} {γ0 : Place} {w0 : World} (hg : GlobOk φ0 tb)

include hle in
theorem hle_range : ∀ (k i : Nat), i + k ≤ ops.size → (∀ j, i ≤ j → j < i + k → fl j = false) → HLe (Hp i) (Hp (i + k))
  | 0, i, _, _ => HLe.refl _
  | k + 1, i, h1, h2 => (hle_range k i (by omega) (fun j hj hj' => h2 j hj (by omega))).trans (hle (i + k) (by omega) (h2 (i + k) (by omega) (by omega)))

include hnx in
theorem next_mono : ∀ (k i : Nat), i + k ≤ ops.size → (Hp i).next ≤ (Hp (i + k)).next
  | 0, i, _ => Nat.le_refl _
  | k + 1, i, h1 => Nat.le_trans (next_mono k i (by omega)) (hnx (i + k) (by omega))

include hst in
theorem fl_nonpure {j : Nat} {o : Oper} (ho : ops[j]? = some o) (hf : fl j = true) : isPure o.op = false ∧ on j = true := by
  obtain ⟨o', h⟩ := hst j (Array.getElem?_eq_some_iff.1 ho).1
  have : o' = o := by have := h.at_; rw [ho] at this; exact (Option.some.inj this).symm
  subst this
  cases hon : on j with
  | false => rw [(h.off hon).2.2] at hf; exact absurd hf (by simp)
  | true =>
    refine ⟨?_, rfl⟩
    cases hp : isPure o'.op with
    | false => rfl
    | true => rw [(pure_flag hp (h.op hon)).2.1] at hf; exact absurd hf (by simp)

include hst in
theorem pure_heap {j : Nat} {o : Oper} (ho : ops[j]? = some o) (hp : isPure o.op = true) : Hp (j + 1) = Hp j := by
  obtain ⟨o', h⟩ := hst j (Array.getElem?_eq_some_iff.1 ho).1
  have : o' = o := by have := h.at_; rw [ho] at this; exact (Option.some.inj this).symm
  subst this
  cases hon : on j with
  | false => exact (h.off hon).2.1
  | true => exact (pure_flag hp (h.op hon)).1

include hnt hops htmp in
/-- What is left once an operation that wrote nothing has been taken. -/
theorem Inv.soft {listed : Array Bool} {a : Act} {w : World} {q : Nat} {φ : Froz} {γ : Place} {T : Nat → Prop} (h : Inv ops E Hp fl N Lim nt φ0 γ0 w0 listed a w q φ γ T) {i : Nat} (hi : i ∈ Region.ready .any ops listed) {o : Oper} (hs : Steps cl P tb ops E Hp v fl on i o) (hfl : fl i = false) (hpos : isPure o.op = true ∨ i < q)
    {φ' : Froz} {γ' : Place} {w' : World} {T' : Nat → Prop} {cv : Value} (hφ : FLe φ φ') (hγ : PLe γ γ') (hstep : Step N φ0 γ0 (Hp 0) w0 φ' γ' (Hp q) w' T') (hv : VRel φ' γ' (v i) cv)
    (hfree : ∀ j, j < q → listed.getD j false = false → j ≠ i → ∀ b, (Hp j).next ≤ b → b < (Hp (j + 1)).next → γ' b = none) (hfresh : Fresh Lim γ' (Hp q)) :
    Inv ops E Hp fl N Lim nt φ0 γ0 w0 (listed.setIfInBounds i true) (a.put o.dst cv) w' q φ' γ' T' := by
  have ho := hs.at_
  have hin : i < ops.size := (Array.getElem?_eq_some_iff.1 ho).1
  have hsz := h.size
  exact {
    size := by simp [h.size]
    down := h.down.set hi
    env := (h.env.mono hφ hγ).put htmp h.down ho hi hnt hops hs h.size h.tmps hv
    tmps := (Act.put_def a o.dst cv).2.trans h.tmps
    defers := (Act.put_def a o.dst cv).1.trans h.defers
    qle := h.qle
    before := fun j hj hf => by rw [set_getD (by omega), h.before j hj hf]; simp
    here := fun hq => by
      obtain ⟨h1, h2⟩ := h.here hq
      refine ⟨h1, ?_⟩
      have : q ≠ i := fun e => by subst e; rw [h1] at hfl; exact absurd hfl (by simp)
      rw [set_getD (by omega), h2]
      simp [this]
    after := fun j o' hj ho' hl => by
      rw [set_getD (by omega)] at hl
      by_cases e : j = i
      · subst e
        rw [ho] at ho'; cases ho'
        rcases hpos with hp | hp
        · exact hp
        · omega
      · exact h.after j o' hj ho' (by simpa [e] using hl)
    step := hstep
    free := fun j hj hl => by
      rw [set_getD (by omega)] at hl
      simp only [Bool.or_eq_false_iff, decide_eq_false_iff_not] at hl
      exact hfree j hj hl.2 hl.1
    fresh := hfresh }

include hok hcl hkn hnt hops htmp hst hwf hle hnx hhard hlim hg in
theorem Inv.take {Q : Exit → Act → World → Prop} {listed : Array Bool} {a : Act} {w : World} {q : Nat} {φ : Froz} {γ : Place} {T : Nat → Prop} (h : Inv ops E Hp fl N Lim nt φ0 γ0 w0 listed a w q φ γ T) {i : Nat} (hi : i ∈ Region.ready .any ops listed) {K : Act → World → Prop}
    (hK : ∀ a' w' q' φ' γ' T', Inv ops E Hp fl N Lim nt φ0 γ0 w0 (listed.setIfInBounds i true) a' w' q' φ' γ' T' → K a' w') : wpOp P ops Q i K a w := by
  have hun := getD_false (mem_ready.1 hi).1
  obtain ⟨_, o, ho, _⟩ := mem_ready.1 hi
  have hin : i < ops.size := (Array.getElem?_eq_some_iff.1 ho).1
  obtain ⟨o', hs⟩ := hst i hin
  have : o' = o := by have := hs.at_; rw [ho] at this; exact (Option.some.inj this).symm
  subst this
  obtain ⟨env', he, hagree⟩ := env_patch hnt h.tmps (o'.looksAt ops) (fun t ht => (tempsOk_at htmp ho).1 t (List.mem_append_right _ ht)) (fun t ht => h.env.look htmp h.down ho hi hnt hops hst ht)
  have hgd : guardOk ops env' o' = some (on i) := (guardOk_congr hagree).symm.trans hs.guard
  have hop : on i = true → evalOp cl P tb env' (Hp i) o'.op = some [(v i, Hp (i + 1), fl i)] := fun hon => (evalOp_congr o'.op (ev_congr hagree)).symm.trans (hs.op hon)
  have hgl : GlobOk φ tb := hg.mono h.step.fle
  have hlt : isPure o'.op = false → fl i = false → i < q := fun hp hf => by
    refine Nat.lt_of_not_le (fun hqi => ?_)
    obtain ⟨h1, h2⟩ := h.here (by omega)
    have hne : i ≠ q := fun e => by subst e; rw [h1] at hf; exact absurd hf (by simp)
    have := h.down.ready hi ((hhard q (by omega) h1 i o' ho hne hp).1 (by omega))
    rw [h2] at this
    exact absurd this (by simp)
  unfold wpOp
  rw [ho]
  simp only
  rw [guard_ok he hgd]
  have hsz := h.size
  have hqle := h.qle
  cases hon : on i with
  | false =>
    simp only [Bool.false_eq_true, if_false]
    obtain ⟨hv, hH, hf⟩ := hs.off hon
    refine hK _ _ q φ γ T (h.soft hnt hops htmp hi hs hf ?_ (FLe.refl _) (PLe.refl _) h.step ?_ (fun j hj hl _ => h.free j hj hl) h.fresh)
    · cases hp : isPure o'.op with
      | true => exact .inl rfl
      | false => exact .inr (hlt hp hf)
    · rw [hv]; exact .tuple rfl (fun j v hj => by simp at hj)
  | true =>
    simp only [if_true]
    refine .inl ?_
    have hev := hop hon
    cases hp : isPure o'.op with
    | true =>
      obtain ⟨hH, hf, hall⟩ := pure_flag hp hev
      refine op_ok hok hcl hkn (Lim := (Hp q).next) h.step.rel hgl he (hwf q h.qle).2.2 o' (hall (Hp q)) (fun r hr => by simp at hr; subst hr; exact Nat.le_refl _) (fun b h1 h2 => by omega) ?_
      intro r hr φ' γ' cv w' T' hs' hv' _
      simp only [List.mem_singleton] at hr
      subst hr
      refine hK _ _ q φ' γ' _ (h.soft hnt hops htmp hi hs hf (.inl hp) hs'.fle hs'.ple (h.step.trans hs') hv' (fun j hj hl _ b h1 h2 => ?_) (hs'.fresh h.fresh))
      cases hx : γ' b with
      | none => rfl
      | some x =>
        rcases hs'.dom b x hx with h3 | ⟨h3, _⟩
        · rw [h.free j hj hl b h1 h2] at h3; exact absurd h3 (by simp)
        · have := next_mono hnx (q - (j + 1)) (j + 1) (by omega)
          rw [show j + 1 + (q - (j + 1)) = q by omega] at this
          omega
    | false =>
      cases hf : fl i with
      | false =>
        have hiq := hlt hp hf
        have hin1 := next_mono hnx (q - (i + 1)) (i + 1) (by omega)
        rw [show i + 1 + (q - (i + 1)) = q by omega] at hin1
        -- between here and the next that wrote nobody wrote
        have hno : ∀ j, i ≤ j → j < q → fl j = false := fun j h1 h2 => by
          cases hfj : fl j with
          | false => rfl
          | true =>
            have hne : i ≠ j := fun e => by subst e; rw [hf] at hfj; exact absurd hfj (by simp)
            have hl := h.before j h2 hfj
            rw [h.down.waits ((hhard j (by omega) hfj i o' ho hne hp).2 (by omega)) hl] at hun
            exact absurd hun (by simp)
        have hsub : HLe (Hp i) (Hp q) := by
          have := hle_range hle (q - i) i (by omega) (fun j h1 h2 => hno j h1 (by omega))
          rwa [show i + (q - i) = q by omega] at this
        have hsub1 : HLe (Hp (i + 1)) (Hp q) := by
          have := hle_range hle (q - (i + 1)) (i + 1) (by omega) (fun j h1 h2 => hno j (by omega) (by omega))
          rwa [show i + 1 + (q - (i + 1)) = q by omega] at this
        rw [hf] at hev
        refine op_ok hok hcl hkn (Lim := (Hp (i + 1)).next) (h.step.rel.sub hsub (hwf i (by omega))) hgl he (hwf i (by omega)).2.2 o' hev (fun r hr => by simp at hr; subst hr; exact Nat.le_refl _) (fun b h1 h2 => h.free i hiq hun b h1 h2) ?_
        intro r hr φ' γ' cv w' T' hs' hv' hT
        simp only [List.mem_singleton] at hr
        subst hr
        have h0i := next_mono hnx i 0 (by omega)
        rw [Nat.zero_add] at h0i
        have hdom : ∀ b, ((Hp i).next ≤ b → b < (Hp (i + 1)).next → False) → γ b = none → γ' b = none := fun b h1 h2 => by
          cases hx : γ' b with
          | none => rfl
          | some x =>
            rcases hs'.dom b x hx with h3 | ⟨h3, h4, _⟩
            · rw [h2] at h3; exact absurd h3 (by simp)
            · exact (h1 h3 h4).elim
        refine hK _ _ q φ' γ' T (h.soft hnt hops htmp hi hs hf (.inr hiq) hs'.fle hs'.ple (h.step.lift hs' hsub1 (hT rfl) (h.free i hiq hun) h0i) hv' (fun j hj hl hne b h1 h2 => hdom b (fun h3 h4 => ?_) (h.free j hj hl b h1 h2)) (fun b h1 h2 => hdom b (fun h3 h4 => by omega) (h.fresh b h1 h2)))
        by_cases hji : j < i
        · have := next_mono hnx (i - (j + 1)) (j + 1) (by omega)
          rw [show j + 1 + (i - (j + 1)) = i by omega] at this
          omega
        · have := next_mono hnx (j - (i + 1)) (i + 1) (by omega)
          rw [show i + 1 + (j - (i + 1)) = j by omega] at this
          omega
      | true =>
        have hqi : i = q := by
          have h1 : ¬ i < q := fun hlt => by rw [h.before i hlt hf] at hun; exact absurd hun (by simp)
          refine Nat.le_antisymm (Nat.le_of_not_lt (fun hlt => ?_)) (by omega)
          obtain ⟨h2, h3⟩ := h.here (by omega)
          have := h.down.ready hi ((hhard q (by omega) h2 i o' ho (by omega) hp).1 hlt)
          rw [h3] at this
          exact absurd this (by simp)
        subst hqi
        rw [hf] at hev
        refine op_ok hok hcl hkn (Lim := (Hp (i + 1)).next) h.step.rel hgl he (hwf i (by omega)).2.2 o' hev (fun r hr => by simp at hr; subst hr; exact Nat.le_refl _) (fun b h1 h2 => h.fresh b h1 ?_) ?_
        · have := next_mono hnx (ops.size - (i + 1)) (i + 1) (by omega)
          rw [show i + 1 + (ops.size - (i + 1)) = ops.size by omega] at this
          omega
        intro r hr φ' γ' cv w' T' hs' hv' _
        simp only [List.mem_singleton] at hr
        subst hr
        obtain ⟨q', hq1, hq2, hq3, hq4⟩ := next_hard fl ops.size (ops.size - (i + 1)) (i + 1) (by omega)
        have hext : HLe (Hp (i + 1)) (Hp q') := by
          have := hle_range hle (q' - (i + 1)) (i + 1) (by omega) (fun j h1 h2 => hq3 j h1 (by omega))
          rwa [show i + 1 + (q' - (i + 1)) = q' by omega] at this
        have hq'n := next_mono hnx (ops.size - q') q' (by omega)
        rw [show q' + (ops.size - q') = ops.size by omega] at hq'n
        have hfr : Fresh Lim γ' (Hp (i + 1)) := hs'.fresh h.fresh
        refine hK _ _ q' φ' γ' _ {
          size := by simp [h.size]
          down := h.down.set hi
          env := (h.env.mono hs'.fle hs'.ple).put htmp h.down ho hi hnt hops hs h.size h.tmps hv'
          tmps := (Act.put_def a o'.dst cv).2.trans h.tmps
          defers := (Act.put_def a o'.dst cv).1.trans h.defers
          qle := hq2
          before := fun j hj hfj => ?_
          here := fun hq => ?_
          after := fun j o2 hj ho2 hl => ?_
          step := (h.step.trans hs').ext hext (hwf q' hq2) (fun b h1 h2 => hfr b h1 (by omega))
          free := fun j hj hl b h1 h2 => ?_
          fresh := fun b h1 h2 => hfr b (Nat.le_trans hext.next h1) h2 }
        · rw [set_getD (by omega)]
          by_cases e : j = i
          · simp [e]
          · by_cases e2 : j < i
            · rw [h.before j e2 hfj]; simp
            · rw [hq3 j (by omega) hj] at hfj; exact absurd hfj (by simp)
        · refine ⟨hq4 hq, ?_⟩
          rw [set_getD (by omega)]
          have hne : ¬ q' = i := by omega
          cases hl : listed.getD q' false with
          | false => simp [hne]
          | true =>
            obtain ⟨o3, ho3⟩ : ∃ o3, ops[q']? = some o3 := ⟨_, Array.getElem?_eq_getElem hq⟩
            have := h.after q' o3 (by omega) ho3 hl
            rw [(fl_nonpure hst ho3 (hq4 hq)).1] at this
            exact absurd this (by simp)
        · rw [set_getD (by omega)] at hl
          have hne : ¬ j = i := by omega
          exact h.after j o2 (by omega) ho2 (by simpa [hne] using hl)
        · rw [set_getD (by omega)] at hl
          simp only [Bool.or_eq_false_iff, decide_eq_false_iff_not] at hl
          by_cases e : j < i
          · obtain ⟨o3, ho3⟩ : ∃ o3, ops[j]? = some o3 := ⟨_, Array.getElem?_eq_getElem (by omega)⟩
            cases hp3 : isPure o3.op with
            | true => rw [pure_heap hst ho3 hp3] at h2; omega
            | false =>
              have := h.down.ready hi ((hhard i hin hf j o3 ho3 (by omega) hp3).2 e)
              rw [hl.2] at this
              exact absurd this (by simp)
          · have h3 := next_mono hnx (j - (i + 1)) (i + 1) (by omega)
            rw [show i + 1 + (j - (i + 1)) = j by omega] at h3
            have h4 := next_mono hnx (ops.size - (j + 1)) (j + 1) (by omega)
            rw [show j + 1 + (ops.size - (j + 1)) = ops.size by omega] at h4
            exact hfr b (by omega) (by omega)

include htmp in
theorem all_listed {listed : Array Bool} (hs : listed.size = ops.size) (h : Region.ready .any ops listed = []) : ∀ (n j : Nat), j ≤ n → j < ops.size → listed.getD j false = true
  | n, j, hn, hj => by
    obtain ⟨o, ho⟩ : ∃ o, ops[j]? = some o := ⟨_, Array.getElem?_eq_getElem hj⟩
    cases hl : listed.getD j false with
    | true => rfl
    | false =>
      have : j ∈ Region.ready .any ops listed := by
        refine mem_ready.2 ⟨?_, o, ho, fun e he hb => ?_⟩
        · rw [Array.getD_eq_getD_getElem?] at hl ⊢
          rw [Array.getElem?_eq_getElem (by omega)] at hl ⊢
          exact hl
        · have hlt := (tempsOk_at htmp ho).2.1 e he hb
          match n, hn with
          | 0, hn => omega
          | n + 1, hn => exact all_listed hs h n e.on (by omega) (by omega)
      rw [h] at this
      exact absurd this (by simp)

include hok hcl hkn hnt hops htmp hst hwf hle hnx hhard hlim hg in
theorem Inv.any {Q : Exit → Act → World → Prop} (hQ : ∀ φ' γ' a' w' T, Step N φ0 γ0 (Hp 0) w0 φ' γ' (Hp ops.size) w' T → Fr φ' γ' nt (E ops.size) a' → Q .normal a' w') : ∀ (fuel : Nat) (listed : Array Bool) (a : Act) (w : World) (rest : List Nat) (q : Nat) (φ : Froz) (γ : Place) (T : Nat → Prop), rest.length ≤ fuel →
    (∀ j, j < ops.size → listed.getD j false = false → j ∈ rest) → Inv ops E Hp fl N Lim nt φ0 γ0 w0 listed a w q φ γ T → wpAny P .any ops Q fuel listed a w := by
  have fin : ∀ (listed : Array Bool) (a : Act) (w : World) (q : Nat) (φ : Froz) (γ : Place) (T : Nat → Prop), Inv ops E Hp fl N Lim nt φ0 γ0 w0 listed a w q φ γ T → (∀ j, j < ops.size → listed.getD j false = true) → Q .normal a w := by
    intro listed a w q φ γ T h hall
    have hq : q = ops.size := by
      refine Nat.le_antisymm h.qle (Nat.le_of_not_lt (fun hlt => ?_))
      have := (h.here hlt).2
      rw [hall q hlt] at this
      exact absurd this (by simp)
    subst hq
    refine hQ φ γ a w T h.step ⟨fun t => ?_, h.tmps, h.defers⟩
    obtain ⟨m, h1, h2, h3, h4⟩ := h.env t
    have := env_same hnt hops hst t (ops.size - m) m (by omega) (fun j o hj hj' ho hd => by
      have e1 := h4 j o hj ho hd
      rw [hall j (by omega)] at e1
      exact absurd e1 (by simp))
    rw [show m + (ops.size - m) = ops.size by omega] at this
    rw [this]
    exact h2
  intro fuel
  induction fuel with
  | zero =>
    intro listed a w rest q φ γ T hr hrest h
    have hnil : rest = [] := List.length_eq_zero_iff.1 (by omega)
    subst hnil
    have hall : ∀ j, j < ops.size → listed.getD j false = true := fun j hj => by
      cases hl : listed.getD j false with
      | true => rfl
      | false => exact absurd (hrest j hj hl) (by simp)
    refine ⟨List.eq_nil_iff_forall_not_mem.2 (fun i hi => ?_), fin _ _ _ _ _ _ _ h hall⟩
    have h1 := getD_false (mem_ready.1 hi).1
    obtain ⟨_, o, ho, _⟩ := mem_ready.1 hi
    rw [hall i (Array.getElem?_eq_some_iff.1 ho).1] at h1
    exact absurd h1 (by simp)
  | succ fuel ih =>
    intro listed a w rest q φ γ T hr hrest h
    refine ⟨fun h0 => fin _ _ _ _ _ _ _ h (fun j hj => all_listed htmp h.size h0 j j (Nat.le_refl _) hj), fun i hi => ?_⟩
    obtain ⟨_, o, ho, _⟩ := mem_ready.1 hi
    have hin : i < ops.size := (Array.getElem?_eq_some_iff.1 ho).1
    have hm := hrest i hin (getD_false (mem_ready.1 hi).1)
    have hsz := h.size
    refine h.take hok hcl hkn hnt hops htmp hst hwf hle hnx hhard hlim hg hi (fun a' w' q' φ' γ' T' h' => ih _ a' w' (rest.erase i) q' φ' γ' T' ?_ (fun j hj hl => ?_) h')
    · rw [List.length_erase_of_mem hm]; omega
    · rw [set_getD (by omega)] at hl
      simp only [Bool.or_eq_false_iff, decide_eq_false_iff_not] at hl
      exact (List.mem_erase_of_ne hl.1).2 (hrest j hj hl.2)
end

section
variable {P : Program} {tb : Tb} (hok : tb.Ok P) {cl : CallFn} (hcl : CallOk P tb cl) (hkn : Known P cl) (hgr : Grows cl) (hsta : Stat cl)
include hok hcl hkn hgr hsta

theorem draw_wp {N Lim nt : Nat} (hnt : nt < 1048576) {id : Nat} {ops : Array Oper} (hops : opsOk nt ops = true) (htmp : tempsOk ops = true) {st : St} {r : St × List Nat} (hM : execOps cl P tb ops ops.toList 0 [] st = some [r]) (hd : drawOk ops r.2 = true)
    {φ : Froz} {γ : Place} {w : World} {a : Act} (hr : Rel N φ γ st.h w) (hg : GlobOk φ tb) (hfr : Fr φ γ nt st.env a) (hb : st.h.base ≤ st.h.next) (hlim : r.1.h.next ≤ Lim) (hf : Fresh Lim γ st.h) {Q : Exit → Act → World → Prop}
    (hQ : ∀ φ' γ' a' w' T, Step N φ γ st.h w φ' γ' r.1.h w' T → Fr φ' γ' nt r.1.env a' → Q .normal a' w') : (Code.region id ops true).wp P Q a w := by
  obtain ⟨E, Hp, v, fl, on, e1, e2, e3, e4, e5, e6, _⟩ := trace_of hgr ops.toList 0 [] st r rfl hM
  have hlen : 0 + ops.toList.length = ops.size := by simp
  rw [hlen] at e3 e4 e5 e6
  have hst : ∀ j, j < ops.size → ∃ o, Steps cl P tb ops E Hp v fl on j o := fun j hj => e5 j (Nat.zero_le _) hj
  have hw0 : Hwf (Hp 0) := by rw [e2]; exact hr.hwf hb
  have hstep : ∀ j, j < ops.size → Hwf (Hp j) → HS (!fl j) (Hp j) (Hp (j + 1)) := fun j hj hw => by
    obtain ⟨o, hs⟩ := hst j hj
    cases hon : on j with
    | false => rw [(hs.off hon).2.1]; exact HS.refl hw
    | true => exact evalOp_hs hsta hw (hs.op hon) _ (List.mem_singleton_self _)
  have hwf : ∀ j, j ≤ ops.size → Hwf (Hp j) := by
    intro j
    induction j with
    | zero => exact fun _ => hw0
    | succ j ih => exact fun hj => (hstep j (by omega) (ih (by omega))).1.wf
  have hle : ∀ j, j < ops.size → fl j = false → HLe (Hp j) (Hp (j + 1)) := fun j hj hf => (hstep j hj (hwf j (by omega))).2 (by rw [hf]; rfl)
  have hnx : ∀ j, j < ops.size → (Hp j).next ≤ (Hp (j + 1)).next := fun j hj => (hstep j hj (hwf j (by omega))).1.next
  have hhard : ∀ h, h < ops.size → fl h = true → ∀ j o, ops[j]? = some o → j ≠ h → isPure o.op = false → (h < j → Waits ops j h) ∧ (j < h → Waits ops h j) := fun h hh hfh j o ho hne hp => by
    have hm := e6 h (Nat.zero_le _) hh hfh
    unfold drawOk at hd
    rw [Bool.or_eq_true] at hd
    rcases hd with hd | hd
    · have : r.2 = [] := by simpa using hd
      rw [this] at hm; exact absurd hm (by simp)
    · have := List.all_eq_true.1 (List.all_eq_true.1 hd h hm) j (List.mem_range.2 (Array.getElem?_eq_some_iff.1 ho).1)
      rw [getD_op ho, hp] at this
      simp only [Bool.or_eq_true, beq_iff_eq, Bool.false_eq_true, or_false] at this
      rcases this with h1 | h1
      · exact absurd h1 hne
      · exact ordered_waits h1
  refine wp_region_any hok.mixed ?_
  obtain ⟨q, hq1, hq2, hq3, hq4⟩ := next_hard fl ops.size ops.size 0 (by omega)
  have hlim' : (Hp ops.size).next ≤ Lim := by rw [e4]; exact hlim
  have hext : HLe (Hp 0) (Hp q) := by
    have := hle_range hle q 0 (by omega) (fun j h1 h2 => hq3 j h1 (by omega))
    rwa [Nat.zero_add] at this
  have hqn := next_mono hnx (ops.size - q) q (by omega)
  rw [show q + (ops.size - q) = ops.size by omega] at hqn
  have hf0 : Fresh Lim γ (Hp 0) := by rw [e2]; exact hf
  have hno : ∀ j, (Array.replicate ops.size false).getD j false = false := fun j => by
    rw [Array.getD_eq_getD_getElem?, Array.getElem?_replicate]
    split <;> rfl
  have hstep0 : Step N φ γ (Hp 0) w φ γ (Hp 0) { w with drawn := w.drawn + 1 } (fun _ => False) := (Step.refl (by rw [e2]; exact hr)).heap rfl rfl rfl rfl
  refine Inv.any hok hcl hkn hnt hops htmp hst hwf hle hnx hhard hlim' (φ0 := φ) (γ0 := γ) (w0 := w) (N := N) hg (fun φ' γ' a' w' T hs hfr' => hQ φ' γ' a' w' T (by rw [← e2, ← e4]; exact hs) (by rw [← e3]; exact hfr')) ops.size _ a _ (List.range ops.size) q φ γ _ (by simp) (fun j hj _ => List.mem_range.2 hj) {
    size := by simp
    down := fun j o _ hj => by rw [hno j] at hj; exact absurd hj (by simp)
    env := fun t => ⟨0, Nat.zero_le _, by rw [e1]; exact hfr.rel t, fun i o hi => by omega, fun i o _ _ _ => hno i⟩
    tmps := hfr.size
    defers := hfr.defers
    qle := hq2
    before := fun j hj hfj => by rw [hq3 j (Nat.zero_le _) hj] at hfj; exact absurd hfj (by simp)
    here := fun hq => ⟨hq4 hq, hno q⟩
    after := fun j o _ _ hj => by rw [hno j] at hj; exact absurd hj (by simp)
    step := hstep0.ext hext (hwf q hq2) (fun b h1 h2 => hf0 b h1 (by omega))
    free := fun j hj _ b h1 h2 => by
      have h3 := next_mono hnx j 0 (by omega)
      rw [Nat.zero_add] at h3
      have h4 := next_mono hnx (ops.size - (j + 1)) (j + 1) (by omega)
      rw [show j + 1 + (ops.size - (j + 1)) = ops.size by omega] at h4
      exact hf0 b (by omega) (by omega)
    fresh := fun b h1 h2 => hf0 b (Nat.le_trans hext.next h1) h2 }
end

end Go.Sx
