/- Regions that draw their order: one operation taken; all. -/
import Derived.Test.YtaidiaiedhbaoaaSxD3
import Derived.OrdersIn
/- Regions that draw their order: one operation taken; all. -/
set_option linter.unusedVariables false
set_option linter.unusedSimpArgs false
namespace Go.Sx
noncomputable section

theorem pure_flag {cl : CallFn} {P : Program} {tb : Tb} {env : Env} {H H' : Heap} {o : Op} {v : V} {f : Bool} (hp : isPure o = true) (h : evalOp cl P tb env H o = some [(v, H', f)]) : H' = H ∧ f = false ∧ ∀ H2, evalOp cl P tb env H2 o = some [(v, H2, false)] := by
  unfold evalOp at h
  rw [if_pos hp] at h
  obtain ⟨v', hv, he⟩ := Option.map_eq_some_iff.1 h
  simp only [List.cons.injEq, Prod.mk.injEq, and_true] at he
  obtain ⟨rfl, rfl, rfl⟩ := he
  refine ⟨rfl, rfl, fun H2 => ?_⟩
  unfold evalOp
  rw [if_pos hp, hv]
  rfl

/-- An operation that wrote to one block, and a load of another. -/
def Aside (tb : Tb) (ops : Array Oper) (E : Nat → Env) (Hp : Nat → Heap) (on : Nat → Bool) (h j : Nat) (o : Oper) : Prop :=
  isLoad o.op = true ∧ (on j = true → ∀ T a b off, o.op = .load T a → ev tb (E j) a = .ptr b off → (Hp (h + 1)).get b = (Hp h).get b)

theorem load_eq {cl : CallFn} {P : Program} {tb : Tb} {env : Env} {H H' : Heap} {T : TypeId} {a : Operand} {v : V} {f : Bool} (h : evalOp cl P tb env H (.load T a) = some [(v, H', f)]) : H' = H ∧ f = false ∧
    ∀ H2, (∀ b off, ev tb env a = .ptr b off → H2.get b = H.get b) → evalOp cl P tb env H2 (.load T a) = some [(v, H2, false)] := by
  simp only [evalOp, isPure, Bool.false_eq_true, if_false, evalMem, softOp, Option.map_map] at h ⊢
  obtain ⟨u, hu, he⟩ := Option.map_eq_some_iff.1 h
  simp only [Function.comp, List.map_cons, List.map_nil, List.cons.injEq, Prod.mk.injEq, and_true, Bool.not_true] at he
  obtain ⟨rfl, rfl, rfl⟩ := he
  refine ⟨rfl, rfl, fun H2 h2 => ?_⟩
  have : evalLoad tb H2 T (ev tb env a) = evalLoad tb H T (ev tb env a) := by
    unfold evalLoad loadCellsV
    cases hx : ev tb env a with
    | ptr b off => simp only [h2 b off hx]
    | _ => rfl
  rw [this, hu]
  rfl

theorem load_some {cl : CallFn} {P : Program} {tb : Tb} {env : Env} {H H' : Heap} {T : TypeId} {a : Operand} {v : V} {f : Bool} (h : evalOp cl P tb env H (.load T a) = some [(v, H', f)]) {b off : Nat} (hb : ev tb env a = .ptr b off) : ∃ k, H.get b = some k := by
  simp only [evalOp, isPure, Bool.false_eq_true, if_false, evalMem, softOp, Option.map_map] at h
  obtain ⟨u, hu, _⟩ := Option.map_eq_some_iff.1 h
  rw [hb] at hu
  unfold evalLoad loadCellsV at hu
  simp only [Option.bind_eq_bind, Option.bind_eq_some_iff] at hu
  obtain ⟨n, _, g, _, cs, hcs, _⟩ := hu
  cases hx : H.get b with
  | none => rw [hx] at hcs; exact absurd hcs (by simp)
  | some k => exact ⟨k, rfl⟩

theorem store_foot {cl : CallFn} {P : Program} {tb : Tb} {env : Env} {H H' : Heap} {T : TypeId} {a x : Operand} {v : V} {f : Bool} {b off : Nat} (h : evalOp cl P tb env H (.store T a x) = some [(v, H', f)]) (ha : ev tb env a = .ptr b off) : ∀ i, i ≠ b → H'.get i = H.get i := by
  simp only [evalOp, isPure, Bool.false_eq_true, if_false, evalMem, softOp, Option.map_map] at h
  obtain ⟨u, hu, he⟩ := Option.map_eq_some_iff.1 h
  simp only [Function.comp, List.map_cons, List.map_nil, List.cons.injEq, Prod.mk.injEq, and_true] at he
  obtain ⟨rfl, rfl, rfl⟩ := he
  rw [ha] at hu
  unfold evalStore at hu
  simp only [Option.bind_eq_bind, Option.bind_eq_some_iff] at hu
  obtain ⟨n, _, hu⟩ := hu
  intro i hi
  repeat' split at hu
  all_goals first
    | (cases hu; done)
    | (cases hu; rw [Heap.put_get, if_neg hi])

theorem Act.put_def (a : Act) (dst : Option Tmp) (v : Value) : (a.put dst v).defers = a.defers ∧ (a.put dst v).tmps.size = a.tmps.size := by
  cases dst with
  | none => exact ⟨rfl, rfl⟩
  | some d => exact ⟨rfl, by simp [Act.put]⟩

section
variable {P : Program} {tb : Tb} (hok : tb.Ok P) {cl : CallFn} (hcl : CallOk P tb cl) (hkn : Known P cl)
  {ops : Array Oper} {E : Nat → Env} {Hp : Nat → Heap} {v : Nat → V} {fl on : Nat → Bool} {N Lim nt : Nat} {ro : Option Nat} {ds : List Deferred} (hnt : nt < 1048576) (hops : opsOk nt ops = true) (htmp : tempsOk ops = true)
  (hst : ∀ j, j < ops.size → ∃ o, Steps cl P tb ops E Hp v fl on j o) (hwf : ∀ j, j ≤ ops.size → Hwf (Hp j)) (hle : ∀ j, j < ops.size → fl j = false → HLe (Hp j) (Hp (j + 1))) (hnx : ∀ j, j < ops.size → (Hp j).next ≤ (Hp (j + 1)).next)
  (hhard : ∀ h, h < ops.size → fl h = true → ∀ j o, ops[j]? = some o → j ≠ h → isPure o.op = false → ((h < j → Waits ops j h) ∧ (j < h → Waits ops h j)) ∨ Aside tb ops E Hp on h j o)
  (hlim : (Hp ops.size).next ≤ Lim) {φ0 : Froz} {γ0 : Place} {w0 : World} (hg : GlobOk φ0 tb)

include hle in
theorem hle_range : ∀ (k i : Nat), i + k ≤ ops.size → (∀ j, i ≤ j → j < i + k → fl j = false) → HLe (Hp i) (Hp (i + k))
  | 0, i, _, _ => HLe.refl _
  | k + 1, i, h1, h2 => (hle_range k i (by omega) (fun j hj hj' => h2 j hj (by omega))).trans (hle (i + k) (by omega) (h2 (i + k) (by omega) (by omega)))

include hnx in
theorem next_mono : ∀ (k i : Nat), i + k ≤ ops.size → (Hp i).next ≤ (Hp (i + k)).next
  | 0, i, _ => Nat.le_refl _
  | k + 1, i, h1 => Nat.le_trans (next_mono k i (by omega)) (hnx (i + k) (by omega))

include hst in
theorem fl_nonpure {j : Nat} {o : Oper} (ho : ops[j]? = some o) (hf : fl j = true) : isPure o.op = false ∧ on j = true := by
  obtain ⟨o', h⟩ := hst j (Array.getElem?_eq_some_iff.1 ho).1
  have : o' = o := by have := h.at_; rw [ho] at this; exact (Option.some.inj this).symm
  subst this
  cases hon : on j with
  | false => rw [(h.off hon).2.2] at hf; exact absurd hf (by simp)
  | true =>
    refine ⟨?_, rfl⟩
    cases hp : isPure o'.op with
    | false => rfl
    | true => rw [(pure_flag hp (h.op hon)).2.1] at hf; exact absurd hf (by simp)

include hst in
theorem pure_heap {j : Nat} {o : Oper} (ho : ops[j]? = some o) (hp : isPure o.op = true) : Hp (j + 1) = Hp j := by
  obtain ⟨o', h⟩ := hst j (Array.getElem?_eq_some_iff.1 ho).1
  have : o' = o := by have := h.at_; rw [ho] at this; exact (Option.some.inj this).symm
  subst this
  cases hon : on j with
  | false => exact (h.off hon).2.1
  | true => exact (pure_flag hp (h.op hon)).1

include hst in
theorem load_flag {j : Nat} {o : Oper} (ho : ops[j]? = some o) (hl : isLoad o.op = true) : Hp (j + 1) = Hp j ∧ fl j = false := by
  obtain ⟨o', h⟩ := hst j (Array.getElem?_eq_some_iff.1 ho).1
  have : o' = o := by have := h.at_; rw [ho] at this; exact (Option.some.inj this).symm
  subst this
  cases hon : on j with
  | false => exact ⟨(h.off hon).2.1, (h.off hon).2.2⟩
  | true =>
    have hop := h.op hon
    cases hx : o'.op <;> rw [hx] at hl hop <;> first | (simp [isLoad] at hl; done) | skip
    exact ⟨(load_eq hop).1, (load_eq hop).2.1⟩

include hnt hops htmp in
/-- What is left once an operation that wrote nothing has been taken. -/
theorem Inv.soft {listed : Array Bool} {a : Act} {w : World} {q : Nat} {φ : Froz} {γ : Place} {T : Nat → Prop} (h : Inv ops E Hp fl N Lim nt ds φ0 γ0 w0 listed a w q φ γ T) {i : Nat} (hi : i ∈ Region.ready .any ops listed) {o : Oper} (hs : Steps cl P tb ops E Hp v fl on i o) (hfl : fl i = false) (hpos : isPure o.op = true ∨ isLoad o.op = true ∨ i < q)
    {φ' : Froz} {γ' : Place} {w' : World} {T' : Nat → Prop} {cv : Value} (hφ : FLe φ φ') (hγ : PLe γ γ') (hstep : Step N φ0 γ0 (Hp 0) w0 φ' γ' (Hp q) w' T') (hv : VRel φ' γ' (v i) cv)
    (hfree : ∀ j, j < q → listed.getD j false = false → j ≠ i → ∀ b, (Hp j).next ≤ b → b < (Hp (j + 1)).next → γ' b = none) (hfresh : Fresh Lim γ' (Hp q)) :
    Inv ops E Hp fl N Lim nt ds φ0 γ0 w0 (listed.setIfInBounds i true) (a.put o.dst cv) w' q φ' γ' T' := by
  have ho := hs.at_
  have hin : i < ops.size := (Array.getElem?_eq_some_iff.1 ho).1
  have hsz := h.size
  exact {
    size := by simp [h.size]
    down := h.down.set hi
    env := (h.env.mono hφ hγ).put htmp h.down ho hi hnt hops hs h.size h.tmps hv
    tmps := (Act.put_def a o.dst cv).2.trans h.tmps
    defers := (Act.put_def a o.dst cv).1.trans h.defers
    qle := h.qle
    before := fun j hj hf => by rw [set_getD (by omega), h.before j hj hf]; simp
    here := fun hq => by
      obtain ⟨h1, h2⟩ := h.here hq
      refine ⟨h1, ?_⟩
      have : q ≠ i := fun e => by subst e; rw [h1] at hfl; exact absurd hfl (by simp)
      rw [set_getD (by omega), h2]
      simp [this]
    after := fun j o' hj ho' hl => by
      rw [set_getD (by omega)] at hl
      by_cases e : j = i
      · subst e
        rw [ho] at ho'; cases ho'
        rcases hpos with hp | hp | hp
        · exact .inl hp
        · exact .inr hp
        · omega
      · exact h.after j o' hj ho' (by simpa [e] using hl)
    step := hstep
    free := fun j hj hl => by
      rw [set_getD (by omega)] at hl
      simp only [Bool.or_eq_false_iff, decide_eq_false_iff_not] at hl
      exact hfree j hj hl.2 hl.1
    fresh := hfresh }

include hok hcl hkn hnt hops htmp hst hwf hle hnx hhard hlim hg in
theorem Inv.take {Q : Exit → Act → World → Prop} {listed : Array Bool} {a : Act} {w : World} {q : Nat} {φ : Froz} {γ : Place} {T : Nat → Prop} (h : Inv ops E Hp fl N Lim nt ds φ0 γ0 w0 listed a w q φ γ T) {i : Nat} (hi : i ∈ Region.ready .any ops listed) {K : Act → World → Prop}
    (hK : ∀ a' w' q' φ' γ' T', Inv ops E Hp fl N Lim nt ds φ0 γ0 w0 (listed.setIfInBounds i true) a' w' q' φ' γ' T' → K a' w') : wpOpIn (wide ro) 0 P ops Q i K a w := by
  have hun := getD_false (mem_ready.1 hi).1
  obtain ⟨_, o, ho, _⟩ := mem_ready.1 hi
  have hin : i < ops.size := (Array.getElem?_eq_some_iff.1 ho).1
  obtain ⟨o', hs⟩ := hst i hin
  have : o' = o := by have := hs.at_; rw [ho] at this; exact (Option.some.inj this).symm
  subst this
  obtain ⟨env', he, hagree⟩ := env_patch hnt h.tmps (o'.looksAt ops) (fun t ht => (tempsOk_at htmp ho).1 t (List.mem_append_right _ ht)) (fun t ht => h.env.look htmp h.down ho hi hnt hops hst ht)
  have hgd : guardOk tb ops env' o' = some (on i) := (guardOk_congr hagree).symm.trans hs.guard
  have hop : on i = true → evalOp cl P tb env' (Hp i) o'.op = some [(v i, Hp (i + 1), fl i)] := fun hon => (evalOp_congr o'.op (ev_congr hagree)).symm.trans (hs.op hon)
  have hgl : GlobOk φ tb := hg.mono h.step.fle
  have hlt : isPure o'.op = false → isLoad o'.op = false → fl i = false → i < q := fun hp hld hf => by
    refine Nat.lt_of_not_le (fun hqi => ?_)
    obtain ⟨h1, h2⟩ := h.here (by omega)
    have hne : i ≠ q := fun e => by subst e; rw [h1] at hf; exact absurd hf (by simp)
    have := h.down.ready hi (((hhard q (by omega) h1 i o' ho hne hp).resolve_right (fun ha => by rw [ha.1] at hld; exact absurd hld (by simp))).1 (by omega))
    rw [h2] at this
    exact absurd this (by simp)
  unfold wpOpIn
  rw [ho]
  simp only
  rw [guard_ok (hg.mono h.step.fle).rho he hgd]
  have hsz := h.size
  have hqle := h.qle
  cases hon : on i with
  | false =>
    simp only [Bool.false_eq_true, if_false]
    obtain ⟨hv, hH, hf⟩ := hs.off hon
    refine ⟨fun _ _ => trivial, hK _ _ q φ γ T (h.soft hnt hops htmp hi hs hf ?_ (FLe.refl _) (PLe.refl _) h.step ?_ (fun j hj hl _ => h.free j hj hl) h.fresh)⟩
    · cases hp : isPure o'.op with
      | true => exact .inl rfl
      | false =>
        cases hld : isLoad o'.op with
        | true => exact .inr (.inl rfl)
        | false => exact .inr (.inr (hlt hp hld hf))
    · rw [hv]; exact .tuple rfl (fun j v hj => by simp at hj)
  | true =>
    simp only [if_true]
    have hev := hop hon
    cases hp : isPure o'.op with
    | true =>
      obtain ⟨hH, hf, hall⟩ := pure_flag hp hev
      refine op_ok hok hcl hkn (Lim := (Hp q).next) h.step.rel hgl he (hwf q h.qle).2.2 o' (hall (Hp q)) (fun r hr => by simp at hr; subst hr; exact Nat.le_refl _) (fun b h1 h2 => by omega) ?_
      intro r hr φ' γ' cv w' T' hs' hv' _
      simp only [List.mem_singleton] at hr
      subst hr
      refine hK _ _ q φ' γ' _ (h.soft hnt hops htmp hi hs hf (.inl hp) hs'.fle hs'.ple (h.step.trans hs') hv' (fun j hj hl _ b h1 h2 => ?_) (hs'.fresh h.fresh))
      cases hx : γ' b with
      | none => rfl
      | some x =>
        rcases hs'.dom b x hx with h3 | ⟨h3, _⟩
        · rw [h.free j hj hl b h1 h2] at h3; exact absurd h3 (by simp)
        · have := next_mono hnx (q - (j + 1)) (j + 1) (by omega)
          rw [show j + 1 + (q - (j + 1)) = q by omega] at this
          omega
    | false =>
      cases hld : isLoad o'.op with
      | true =>
        have hfl := (load_flag hst ho hld).2
        have hHi := (load_flag hst ho hld).1
        obtain ⟨T, ad, hopx⟩ : ∃ T ad, o'.op = .load T ad := by
          cases hx : o'.op <;> rw [hx] at hld <;> first | (simp [isLoad] at hld; done) | exact ⟨_, _, rfl⟩
        have hevi := hop hon
        rw [hopx, hHi, hfl] at hevi
        have hsame : ∀ b off, ev tb env' ad = .ptr b off → (Hp q).get b = (Hp i).get b := by
          intro b off hb
          have hEi : ev tb (E i) ad = .ptr b off := by
            rw [← hb]
            exact ev_congr (o := o') hagree ad (by rw [hopx]; simp [Op.operands])
          have hvr := ev_rel he hgl ad
          rw [hb] at hvr
          obtain ⟨xg, hxg⟩ : ∃ xg, γ b = some xg := by
            generalize a.eval ad = cv at hvr
            cases hvr with
            | ptr h => exact ⟨_, h⟩
          obtain ⟨kb, hkb⟩ := load_some hevi hb
          have hbi := (hwf i (by omega)).2.1 b kb hkb
          have hin0 := next_mono hnx (ops.size - i) i (by omega)
          rw [show i + (ops.size - i) = ops.size by omega] at hin0
          have hbq : b < (Hp q).next := by
            refine Nat.lt_of_not_le (fun hge => ?_)
            have := h.fresh b hge (by omega)
            rw [hxg] at this
            exact absurd this (by simp)
          have one : ∀ k, k < ops.size → b < (Hp k).next → (fl k = true → k ≠ i → ¬ ((k < i → Waits ops i k) ∧ (i < k → Waits ops k i))) → k ≠ i → (Hp (k + 1)).get b = (Hp k).get b := by
            intro k hk hbk hno hki
            cases hfk : fl k with
            | false => exact (hle k hk hfk).same b hbk
            | true =>
              rcases hhard k hk hfk i o' ho (Ne.symm hki) hp with hord | ⟨_, hx2⟩
              · exact absurd hord (hno hfk hki)
              · exact hx2 hon T ad b off hopx hEi
          by_cases hiq : i ≤ q
          · have : ∀ n, i + n ≤ q → (Hp (i + n)).get b = (Hp i).get b := by
              intro n
              induction n with
              | zero => exact fun _ => rfl
              | succ n ih =>
                intro hn
                rw [← ih (by omega)]
                by_cases hn0 : n = 0
                · subst hn0
                  show (Hp (i + 1)).get b = (Hp i).get b
                  rw [hHi]
                · have hm := next_mono hnx n i (by omega)
                  refine one (i + n) (by omega) (by omega) (fun hfk hki hord => ?_) (by omega)
                  have hl := h.before (i + n) (by omega) hfk
                  rw [h.down.waits (hord.2 (by omega)) hl] at hun
                  exact absurd hun (by simp)
            have := this (q - i) (by omega)
            rwa [show i + (q - i) = q by omega] at this
          · have : ∀ n, q + n ≤ i → (Hp (q + n)).get b = (Hp q).get b := by
              intro n
              induction n with
              | zero => exact fun _ => rfl
              | succ n ih =>
                intro hn
                rw [← ih (by omega)]
                have hm := next_mono hnx n q (by omega)
                refine one (q + n) (by omega) (by omega) (fun hfk hki hord => ?_) (by omega)
                have hl := h.down.ready hi (hord.1 (by omega))
                obtain ⟨o3, ho3⟩ : ∃ o3, ops[q + n]? = some o3 := ⟨_, Array.getElem?_eq_getElem (by omega)⟩
                rcases h.after (q + n) o3 (by omega) ho3 hl with h3 | h3
                · rw [(fl_nonpure hst ho3 hfk).1] at h3; exact absurd h3 (by simp)
                · rw [(load_flag hst ho3 h3).2] at hfk; exact absurd hfk (by simp)
            have := this (i - q) (by omega)
            rw [show q + (i - q) = i by omega] at this
            exact this.symm
        have hevq := (load_eq hevi).2.2 (Hp q) hsame
        refine op_ok hok hcl hkn (Lim := (Hp q).next) h.step.rel hgl he (hwf q h.qle).2.2 o' (by rw [hopx]; exact hevq) (fun r hr => by simp at hr; subst hr; exact Nat.le_refl _) (fun b h1 h2 => by omega) ?_
        intro r hr φ' γ' cv w' T' hs' hv' _
        simp only [List.mem_singleton] at hr
        subst hr
        refine hK _ _ q φ' γ' _ (h.soft hnt hops htmp hi hs hfl (.inr (.inl hld)) hs'.fle hs'.ple (h.step.trans hs') hv' (fun j hj hl _ b h1 h2 => ?_) (hs'.fresh h.fresh))
        cases hx : γ' b with
        | none => rfl
        | some x =>
          rcases hs'.dom b x hx with h3 | ⟨h3, _⟩
          · rw [h.free j hj hl b h1 h2] at h3; exact absurd h3 (by simp)
          · have := next_mono hnx (q - (j + 1)) (j + 1) (by omega)
            rw [show j + 1 + (q - (j + 1)) = q by omega] at this
            omega
      | false =>
      have hnold : ∀ k j, ¬ Aside tb ops E Hp on k j o' := fun k j ha => by rw [ha.1] at hld; exact absurd hld (by simp)
      cases hf : fl i with
      | false =>
        have hiq := hlt hp hld hf
        have hin1 := next_mono hnx (q - (i + 1)) (i + 1) (by omega)
        rw [show i + 1 + (q - (i + 1)) = q by omega] at hin1
        -- between here and the next that wrote nobody wrote
        have hno : ∀ j, i ≤ j → j < q → fl j = false := fun j h1 h2 => by
          cases hfj : fl j with
          | false => rfl
          | true =>
            have hne : i ≠ j := fun e => by subst e; rw [hf] at hfj; exact absurd hfj (by simp)
            have hl := h.before j h2 hfj
            rw [h.down.waits (((hhard j (by omega) hfj i o' ho hne hp).resolve_right (hnold j i)).2 (by omega)) hl] at hun
            exact absurd hun (by simp)
        have hsub : HLe (Hp i) (Hp q) := by
          have := hle_range hle (q - i) i (by omega) (fun j h1 h2 => hno j h1 (by omega))
          rwa [show i + (q - i) = q by omega] at this
        have hsub1 : HLe (Hp (i + 1)) (Hp q) := by
          have := hle_range hle (q - (i + 1)) (i + 1) (by omega) (fun j h1 h2 => hno j (by omega) (by omega))
          rwa [show i + 1 + (q - (i + 1)) = q by omega] at this
        rw [hf] at hev
        refine op_ok hok hcl hkn (Lim := (Hp (i + 1)).next) (h.step.rel.sub hsub (hwf i (by omega))) hgl he (hwf i (by omega)).2.2 o' hev (fun r hr => by simp at hr; subst hr; exact Nat.le_refl _) (fun b h1 h2 => h.free i hiq hun b h1 h2) ?_
        intro r hr φ' γ' cv w' T' hs' hv' hT
        simp only [List.mem_singleton] at hr
        subst hr
        have h0i := next_mono hnx i 0 (by omega)
        rw [Nat.zero_add] at h0i
        have hdom : ∀ b, ((Hp i).next ≤ b → b < (Hp (i + 1)).next → False) → γ b = none → γ' b = none := fun b h1 h2 => by
          cases hx : γ' b with
          | none => rfl
          | some x =>
            rcases hs'.dom b x hx with h3 | ⟨h3, h4, _⟩
            · rw [h2] at h3; exact absurd h3 (by simp)
            · exact (h1 h3 h4).elim
        refine hK _ _ q φ' γ' T (h.soft hnt hops htmp hi hs hf (.inr (.inr hiq)) hs'.fle hs'.ple (h.step.lift hs' hsub1 (hT rfl) (h.free i hiq hun) h0i) hv' (fun j hj hl hne b h1 h2 => hdom b (fun h3 h4 => ?_) (h.free j hj hl b h1 h2)) (fun b h1 h2 => hdom b (fun h3 h4 => by omega) (h.fresh b h1 h2)))
        by_cases hji : j < i
        · have := next_mono hnx (i - (j + 1)) (j + 1) (by omega)
          rw [show j + 1 + (i - (j + 1)) = i by omega] at this
          omega
        · have := next_mono hnx (j - (i + 1)) (i + 1) (by omega)
          rw [show i + 1 + (j - (i + 1)) = j by omega] at this
          omega
      | true =>
        have hqi : i = q := by
          have h1 : ¬ i < q := fun hlt => by rw [h.before i hlt hf] at hun; exact absurd hun (by simp)
          refine Nat.le_antisymm (Nat.le_of_not_lt (fun hlt => ?_)) (by omega)
          obtain ⟨h2, h3⟩ := h.here (by omega)
          have := h.down.ready hi (((hhard q (by omega) h2 i o' ho (by omega) hp).resolve_right (hnold q i)).1 hlt)
          rw [h3] at this
          exact absurd this (by simp)
        subst hqi
        rw [hf] at hev
        refine op_ok hok hcl hkn (Lim := (Hp (i + 1)).next) h.step.rel hgl he (hwf i (by omega)).2.2 o' hev (fun r hr => by simp at hr; subst hr; exact Nat.le_refl _) (fun b h1 h2 => h.fresh b h1 ?_) ?_
        · have := next_mono hnx (ops.size - (i + 1)) (i + 1) (by omega)
          rw [show i + 1 + (ops.size - (i + 1)) = ops.size by omega] at this
          omega
        intro r hr φ' γ' cv w' T' hs' hv' _
        simp only [List.mem_singleton] at hr
        subst hr
        obtain ⟨q', hq1, hq2, hq3, hq4⟩ := next_hard fl ops.size (ops.size - (i + 1)) (i + 1) (by omega)
        have hext : HLe (Hp (i + 1)) (Hp q') := by
          have := hle_range hle (q' - (i + 1)) (i + 1) (by omega) (fun j h1 h2 => hq3 j h1 (by omega))
          rwa [show i + 1 + (q' - (i + 1)) = q' by omega] at this
        have hq'n := next_mono hnx (ops.size - q') q' (by omega)
        rw [show q' + (ops.size - q') = ops.size by omega] at hq'n
        have hfr : Fresh Lim γ' (Hp (i + 1)) := hs'.fresh h.fresh
        refine hK _ _ q' φ' γ' _ {
          size := by simp [h.size]
          down := h.down.set hi
          env := (h.env.mono hs'.fle hs'.ple).put htmp h.down ho hi hnt hops hs h.size h.tmps hv'
          tmps := (Act.put_def a o'.dst cv).2.trans h.tmps
          defers := (Act.put_def a o'.dst cv).1.trans h.defers
          qle := hq2
          before := fun j hj hfj => ?_
          here := fun hq => ?_
          after := fun j o2 hj ho2 hl => ?_
          step := (h.step.trans hs').ext hext (hwf q' hq2) (fun b h1 h2 => hfr b h1 (by omega))
          free := fun j hj hl b h1 h2 => ?_
          fresh := fun b h1 h2 => hfr b (Nat.le_trans hext.next h1) h2 }
        · rw [set_getD (by omega)]
          by_cases e : j = i
          · simp [e]
          · by_cases e2 : j < i
            · rw [h.before j e2 hfj]; simp
            · rw [hq3 j (by omega) hj] at hfj; exact absurd hfj (by simp)
        · refine ⟨hq4 hq, ?_⟩
          rw [set_getD (by omega)]
          have hne : ¬ q' = i := by omega
          cases hl : listed.getD q' false with
          | false => simp [hne]
          | true =>
            obtain ⟨o3, ho3⟩ : ∃ o3, ops[q']? = some o3 := ⟨_, Array.getElem?_eq_getElem hq⟩
            rcases h.after q' o3 (by omega) ho3 hl with h3 | h3
            · rw [(fl_nonpure hst ho3 (hq4 hq)).1] at h3; exact absurd h3 (by simp)
            · have := hq4 hq
              rw [(load_flag hst ho3 h3).2] at this; exact absurd this (by simp)
        · rw [set_getD (by omega)] at hl
          have hne : ¬ j = i := by omega
          exact h.after j o2 (by omega) ho2 (by simpa [hne] using hl)
        · rw [set_getD (by omega)] at hl
          simp only [Bool.or_eq_false_iff, decide_eq_false_iff_not] at hl
          by_cases e : j < i
          · obtain ⟨o3, ho3⟩ : ∃ o3, ops[j]? = some o3 := ⟨_, Array.getElem?_eq_getElem (by omega)⟩
            cases hp3 : isPure o3.op with
            | true => rw [pure_heap hst ho3 hp3] at h2; omega
            | false =>
              rcases hhard i hin hf j o3 ho3 (by omega) hp3 with hord | ha
              · have := h.down.ready hi (hord.2 e)
                rw [hl.2] at this
                exact absurd this (by simp)
              · rw [(load_flag hst ho3 ha.1).1] at h2; omega
          · have h3 := next_mono hnx (j - (i + 1)) (i + 1) (by omega)
            rw [show i + 1 + (j - (i + 1)) = j by omega] at h3
            have h4 := next_mono hnx (ops.size - (j + 1)) (j + 1) (by omega)
            rw [show j + 1 + (ops.size - (j + 1)) = ops.size by omega] at h4
            exact hfr b (by omega) (by omega)

include htmp in
theorem all_listed {listed : Array Bool} (hs : listed.size = ops.size) (h : Region.ready .any ops listed = []) : ∀ (n j : Nat), j ≤ n → j < ops.size → listed.getD j false = true
  | n, j, hn, hj => by
    obtain ⟨o, ho⟩ : ∃ o, ops[j]? = some o := ⟨_, Array.getElem?_eq_getElem hj⟩
    cases hl : listed.getD j false with
    | true => rfl
    | false =>
      have : j ∈ Region.ready .any ops listed := by
        refine mem_ready.2 ⟨?_, o, ho, fun e he hb => ?_⟩
        · rw [Array.getD_eq_getD_getElem?] at hl ⊢
          rw [Array.getElem?_eq_getElem (by omega)] at hl ⊢
          exact hl
        · have hlt := (tempsOk_at htmp ho).2.1 e he hb
          match n, hn with
          | 0, hn => omega
          | n + 1, hn => exact all_listed hs h n e.on (by omega) (by omega)
      rw [h] at this
      exact absurd this (by simp)

include hok hcl hkn hnt hops htmp hst hwf hle hnx hhard hlim hg in
theorem Inv.any (hrnd : ro.isSome = true → inRound (E ops.size) = true) {Q : Exit → Act → World → Prop} (hQ : ∀ φ' γ' a' w' T, Step N φ0 γ0 (Hp 0) w0 φ' γ' (Hp ops.size) w' T → Fr φ' γ' ro ds nt (E ops.size) a' → Q .normal a' w') : ∀ (fuel : Nat) (listed : Array Bool) (a : Act) (w : World) (rest : List Nat) (q : Nat) (φ : Froz) (γ : Place) (T : Nat → Prop), rest.length ≤ fuel →
    (∀ j, j < ops.size → listed.getD j false = false → j ∈ rest) → Inv ops E Hp fl N Lim nt ds φ0 γ0 w0 listed a w q φ γ T → wpAnyIn (wide ro) 0 P .any ops Q fuel listed a w := by
  have fin : ∀ (listed : Array Bool) (a : Act) (w : World) (q : Nat) (φ : Froz) (γ : Place) (T : Nat → Prop), Inv ops E Hp fl N Lim nt ds φ0 γ0 w0 listed a w q φ γ T → (∀ j, j < ops.size → listed.getD j false = true) → Q .normal a w := by
    intro listed a w q φ γ T h hall
    have hq : q = ops.size := by
      refine Nat.le_antisymm h.qle (Nat.le_of_not_lt (fun hlt => ?_))
      have := (h.here hlt).2
      rw [hall q hlt] at this
      exact absurd this (by simp)
    subst hq
    refine hQ φ γ a w T h.step ⟨fun t => ?_, h.tmps, h.defers, hrnd⟩
    obtain ⟨m, h1, h2, h3, h4⟩ := h.env t
    have := env_same hnt hops hst t (ops.size - m) m (by omega) (fun j o hj hj' ho hd => by
      have e1 := h4 j o hj ho hd
      rw [hall j (by omega)] at e1
      exact absurd e1 (by simp))
    rw [show m + (ops.size - m) = ops.size by omega] at this
    rw [this]
    exact h2
  intro fuel
  induction fuel with
  | zero =>
    intro listed a w rest q φ γ T hr hrest h
    have hnil : rest = [] := List.length_eq_zero_iff.1 (by omega)
    subst hnil
    have hall : ∀ j, j < ops.size → listed.getD j false = true := fun j hj => by
      cases hl : listed.getD j false with
      | true => rfl
      | false => exact absurd (hrest j hj hl) (by simp)
    refine ⟨List.eq_nil_iff_forall_not_mem.2 (fun i hi => ?_), fin _ _ _ _ _ _ _ h hall⟩
    have h1 := getD_false (mem_ready.1 hi).1
    obtain ⟨_, o, ho, _⟩ := mem_ready.1 hi
    rw [hall i (Array.getElem?_eq_some_iff.1 ho).1] at h1
    exact absurd h1 (by simp)
  | succ fuel ih =>
    intro listed a w rest q φ γ T hr hrest h
    refine ⟨fun h0 => fin _ _ _ _ _ _ _ h (fun j hj => all_listed htmp h.size h0 j j (Nat.le_refl _) hj), fun i hi => ?_⟩
    obtain ⟨_, o, ho, _⟩ := mem_ready.1 hi
    have hin : i < ops.size := (Array.getElem?_eq_some_iff.1 ho).1
    have hm := hrest i hin (getD_false (mem_ready.1 hi).1)
    have hsz := h.size
    refine h.take hok hcl hkn hnt hops htmp hst hwf hle hnx hhard hlim hg hi (fun a' w' q' φ' γ' T' h' => ih _ a' w' (rest.erase i) q' φ' γ' T' ?_ (fun j hj hl => ?_) h')
    · rw [List.length_erase_of_mem hm]; omega
    · rw [set_getD (by omega)] at hl
      simp only [Bool.or_eq_false_iff, decide_eq_false_iff_not] at hl
      exact (List.mem_erase_of_ne hl.1).2 (hrest j hj hl.2)
end

section
variable {P : Program} {tb : Tb} (hok : tb.Ok P) {cl : CallFn} (hcl : CallOk P tb cl) (hkn : Known P cl) (hgr : Grows cl) (hsta : Stat cl)
include hok hcl hkn hgr hsta

omit hok hcl hkn hgr hsta in
theorem execOps_rnd {ops : Array Oper} : ∀ {l : List Oper} {i : Nat} {hard : Marks} {st : St} {L : List (St × Marks)}, execOps cl P tb ops l i hard st = some L → inRound st.env = true → ∀ r, r ∈ L → inRound r.1.env = true
  | [], i, hard, st, L, h, hi => by
    simp only [execOps, Option.some.injEq] at h
    subst h
    intro r hr; simp at hr; subst hr; exact hi
  | o :: l, i, hard, st, L, h, hi => by
    simp only [execOps] at h
    split at h
    · exact absurd h (by simp)
    · exact execOps_rnd h (inRound_put hi)
    · simp only [Option.bind_eq_some_iff] at h
      obtain ⟨M, hM, h⟩ := h
      intro r hr
      obtain ⟨q, hq, Lq, hLq, hrq⟩ := bindL_out h r hr
      exact execOps_rnd hLq (inRound_put hi) r hrq

theorem draw_wp {ro : Option Nat} {ds : List Deferred} {N Lim nt : Nat} (hnt : nt < 1048576) {id : Nat} {ops : Array Oper} (hops : opsOk nt ops = true) (htmp : tempsOk ops = true) {st : St} {r : St × Marks} (hM : execOps cl P tb ops ops.toList 0 [] st = some [r]) (hd : drawOk ops r.2 = true)
    {φ : Froz} {γ : Place} {w : World} {a : Act} (hr : Rel N φ γ st.h w) (hg : GlobOk φ tb) (hfr : Fr φ γ ro ds nt st.env a) (hb : st.h.base ≤ st.h.next) (hlim : r.1.h.next ≤ Lim) (hf : Fresh Lim γ st.h) {Q : Exit → Act → World → Prop}
    (hQ : ∀ φ' γ' a' w' T, Step N φ γ st.h w φ' γ' r.1.h w' T → Fr φ' γ' ro ds nt r.1.env a' → Q .normal a' w') : (Code.region id ops true).wpIn (wide ro) 0 P Q a w := by
  obtain ⟨E, Hp, v, fl, on, e1, e2, e3, e4, e5, e6, _⟩ := trace_of hgr ops.toList 0 [] st r rfl hM
  have hlen : 0 + ops.toList.length = ops.size := by simp
  rw [hlen] at e3 e4 e5 e6
  have hst : ∀ j, j < ops.size → ∃ o, Steps cl P tb ops E Hp v fl on j o := fun j hj => e5 j (Nat.zero_le _) hj
  have hw0 : Hwf (Hp 0) := by rw [e2]; exact hr.hwf hb
  have hstep : ∀ j, j < ops.size → Hwf (Hp j) → HS (!fl j) (Hp j) (Hp (j + 1)) := fun j hj hw => by
    obtain ⟨o, hs⟩ := hst j hj
    cases hon : on j with
    | false => rw [(hs.off hon).2.1]; exact HS.refl hw
    | true => exact evalOp_hs hsta hw (hs.op hon) _ (List.mem_singleton_self _)
  have hwf : ∀ j, j ≤ ops.size → Hwf (Hp j) := by
    intro j
    induction j with
    | zero => exact fun _ => hw0
    | succ j ih => exact fun hj => (hstep j (by omega) (ih (by omega))).1.wf
  have hle : ∀ j, j < ops.size → fl j = false → HLe (Hp j) (Hp (j + 1)) := fun j hj hf => (hstep j hj (hwf j (by omega))).2 (by rw [hf]; rfl)
  have hnx : ∀ j, j < ops.size → (Hp j).next ≤ (Hp (j + 1)).next := fun j hj => (hstep j hj (hwf j (by omega))).1.next
  have hhard : ∀ h, h < ops.size → fl h = true → ∀ j o, ops[j]? = some o → j ≠ h → isPure o.op = false → ((h < j → Waits ops j h) ∧ (j < h → Waits ops h j)) ∨ Aside tb ops E Hp on h j o := fun h hh hfh j o ho hne hp => by
    obtain ⟨oh, hsh⟩ := hst h hh
    have hjs := (Array.getElem?_eq_some_iff.1 ho).1
    have honh : on h = true := by
      cases hx : on h with
      | true => rfl
      | false => rw [(hsh.off hx).2.2] at hfh; exact absurd hfh (by simp)
    have hmk := e6 h oh (Nat.zero_le _) hh hsh.at_ honh
    have kinds : (∃ w, (h, Mark.wrote w) ∈ r.2 ∧ ∀ x, w = some x → ∀ b, b ≠ x → (Hp (h + 1)).get b = (Hp h).get b) ∨ (h, Mark.moved (Hp h) (Hp (h + 1))) ∈ r.2 := by
      rw [hfh] at hmk
      have hop := hsh.op honh
      cases hx : oh.op
      case store T ad x =>
        rw [hx] at hmk hop
        cases hb : ev tb (E h) ad with
        | ptr b off => exact .inl ⟨some b, hmk _ (by simp [addMark, hb]), fun y hy => by cases hy; exact store_foot hop hb⟩
        | _ => exact .inl ⟨none, hmk _ (by simp [addMark, hb]), fun y hy => by cases hy⟩
      case call c =>
        rw [hx] at hmk
        exact .inr (hmk _ (by simp [addMark]))
      all_goals
        rw [hx] at hmk
        exact .inl ⟨none, hmk _ (by simp [addMark]), fun y hy => by cases hy⟩
    have loads : ∀ (p : Nat → Bool), isLoad o.op = true → (r.2.all fun k => k.1 != j || (match k.2 with | .read y => p y | _ => false)) = true → on j = true → ∀ T ad b off, o.op = .load T ad → ev tb (E j) ad = .ptr b off → p b = true := by
      intro p hl hall honj T ad b off hopj hb
      have hm := e6 j o (Nat.zero_le _) hjs ho honj
      have hflj := (load_flag hst ho hl).2
      rw [hopj, hflj] at hm
      have h3 := List.all_eq_true.1 hall _ (hm (j, .read b) (by simp [addMark, hb]))
      simpa using h3
    unfold drawOk at hd
    rw [Bool.or_eq_true] at hd
    rcases kinds with ⟨w, hw, hfoot⟩ | hw
    · rcases hd with hd | hd
      · have := List.all_eq_true.1 hd _ hw
        simp at this
      · have h1 := List.all_eq_true.1 hd _ hw
        simp only at h1
        have h2 := List.all_eq_true.1 h1 j (List.mem_range.2 hjs)
        rw [getD_op ho, hp] at h2
        simp only [Bool.or_eq_true, beq_iff_eq, Bool.false_eq_true, or_false] at h2
        rcases h2 with (h2 | h2) | h2
        · exact absurd h2 hne
        · exact .inl (ordered_waits h2)
        · cases w with
          | none => simp at h2
          | some x =>
            simp only [Bool.and_eq_true] at h2
            refine .inr ⟨h2.1, fun honj T ad b off hopj hb => hfoot x rfl b ?_⟩
            have := loads (fun y => y != x) h2.1 h2.2 honj T ad b off hopj hb
            simpa using this
    · rcases hd with hd | hd
      · have := List.all_eq_true.1 hd _ hw
        simp at this
      · have h1 := List.all_eq_true.1 hd _ hw
        simp only at h1
        have h2 := List.all_eq_true.1 h1 j (List.mem_range.2 hjs)
        rw [getD_op ho, hp] at h2
        simp only [Bool.or_eq_true, beq_iff_eq, Bool.false_eq_true, or_false] at h2
        rcases h2 with (h2 | h2) | h2
        · exact absurd h2 hne
        · exact .inl (ordered_waits h2)
        · simp only [Bool.and_eq_true] at h2
          refine .inr ⟨h2.1, fun honj T ad b off hopj hb => ?_⟩
          have := loads (fun y => sameO Blk.same ((Hp h).get y) ((Hp (h + 1)).get y)) h2.1 h2.2 honj T ad b off hopj hb
          exact (sameO_eq this).symm
  refine wpIn_region_any hok.mixed ?_
  obtain ⟨q, hq1, hq2, hq3, hq4⟩ := next_hard fl ops.size ops.size 0 (by omega)
  have hlim' : (Hp ops.size).next ≤ Lim := by rw [e4]; exact hlim
  have hext : HLe (Hp 0) (Hp q) := by
    have := hle_range hle q 0 (by omega) (fun j h1 h2 => hq3 j h1 (by omega))
    rwa [Nat.zero_add] at this
  have hqn := next_mono hnx (ops.size - q) q (by omega)
  rw [show q + (ops.size - q) = ops.size by omega] at hqn
  have hf0 : Fresh Lim γ (Hp 0) := by rw [e2]; exact hf
  have hno : ∀ j, (Array.replicate ops.size false).getD j false = false := fun j => by
    rw [Array.getD_eq_getD_getElem?, Array.getElem?_replicate]
    split <;> rfl
  have hstep0 : Step N φ γ (Hp 0) w φ γ (Hp 0) { w with drawn := w.drawn + 1 } (fun _ => False) := (Step.refl (by rw [e2]; exact hr)).heap rfl rfl rfl rfl
  refine Inv.any hok hcl hkn hnt hops htmp hst hwf hle hnx hhard hlim' (φ0 := φ) (γ0 := γ) (w0 := w) (N := N) hg (fun hro => by rw [e3]; exact execOps_rnd hM (hfr.rnd hro) _ (List.mem_singleton_self _)) (fun φ' γ' a' w' T hs hfr' => hQ φ' γ' a' w' T (by rw [← e2, ← e4]; exact hs) (by rw [← e3]; exact hfr')) ops.size _ a _ (List.range ops.size) q φ γ _ (by simp) (fun j hj _ => List.mem_range.2 hj) {
    size := by simp
    down := fun j o _ hj => by rw [hno j] at hj; exact absurd hj (by simp)
    env := fun t => ⟨0, Nat.zero_le _, by rw [e1]; exact hfr.rel t, fun i o hi => by omega, fun i o _ _ _ => hno i⟩
    tmps := hfr.size
    defers := hfr.defers
    qle := hq2
    before := fun j hj hfj => by rw [hq3 j (Nat.zero_le _) hj] at hfj; exact absurd hfj (by simp)
    here := fun hq => ⟨hq4 hq, hno q⟩
    after := fun j o _ _ hj => by rw [hno j] at hj; exact absurd hj (by simp)
    step := hstep0.ext hext (hwf q hq2) (fun b h1 h2 => hf0 b h1 (by omega))
    free := fun j hj _ b h1 h2 => by
      have h3 := next_mono hnx j 0 (by omega)
      rw [Nat.zero_add] at h3
      have h4 := next_mono hnx (ops.size - (j + 1)) (j + 1) (by omega)
      rw [show j + 1 + (ops.size - (j + 1)) = ops.size by omega] at h4
      exact hf0 b (by omega) (by omega)
    fresh := fun b h1 h2 => hf0 b (Nat.le_trans hext.next h1) h2 }
end

end
end Go.Sx
