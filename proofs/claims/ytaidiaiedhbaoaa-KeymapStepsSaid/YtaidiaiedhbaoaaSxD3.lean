/- Regions that draw their order: whatever order is taken, what the order of the text told holds. -/
import Derived.Test.YtaidiaiedhbaoaaSxD2
/- Regions that draw their order: whatever order is taken, what the order of the text told holds. -/
set_option linter.unusedVariables false
set_option linter.unusedSimpArgs false
namespace Go.Sx
noncomputable section

theorem opsOk_at {nt : Nat} {ops : Array Oper} (h : opsOk nt ops = true) {i : Nat} {o : Oper} (ho : ops[i]? = some o) : ∀ d, o.dst = some d → d < nt := by
  intro d hd
  unfold opsOk at h
  rw [Array.all_eq_true] at h
  obtain ⟨hi, he⟩ := Array.getElem?_eq_some_iff.1 ho
  have := h i hi
  rw [he, hd] at this
  simpa using this

/-- The order of the text, written out: what stands before each operation, what it told. -/
structure Steps (cl : CallFn) (P : Program) (tb : Tb) (ops : Array Oper) (E : Nat → Env) (Hp : Nat → Heap) (v : Nat → V) (fl on : Nat → Bool) (j : Nat) (o : Oper) : Prop where
  at_ : ops[j]? = some o
  guard : guardOk tb ops (E j) o = some (on j)
  env : E (j + 1) = putT (E j) o.dst (v j)
  off : on j = false → v j = V.undef ∧ Hp (j + 1) = Hp j ∧ fl j = false
  op : on j = true → evalOp cl P tb (E j) (Hp j) o.op = some [(v j, Hp (j + 1), fl j)]

theorem bindL_single {α β : Type} {f : α → Option (List β)} {M : List α} {r : β} (h : bindL M f = some [r]) (hM : M ≠ []) (hf : ∀ x, x ∈ M → ∀ Lx, f x = some Lx → Lx ≠ []) : ∃ q, M = [q] ∧ f q = some [r] := by
  cases M with
  | nil => exact absurd rfl hM
  | cons q M =>
    simp only [bindL, Option.bind_eq_some_iff, Option.map_eq_some_iff] at h
    obtain ⟨A, hA, B, hB, hAB⟩ := h
    have hAne := hf q List.mem_cons_self A hA
    cases A with
    | nil => exact absurd rfl hAne
    | cons a A =>
      simp only [List.cons_append, List.cons.injEq, List.append_eq_nil_iff] at hAB
      obtain ⟨rfl, rfl, rfl⟩ := hAB
      cases M with
      | nil => exact ⟨q, rfl, hA⟩
      | cons q2 M =>
        exact absurd rfl (bindL_ne hB (by simp) (fun x hx => hf x (List.mem_cons_of_mem _ hx)))

theorem addMark_eq (tb : Tb) (env : Env) (A B : Heap) (o : Op) (f : Bool) (i : Nat) (hard : Marks) : addMark tb env A B o f i hard = addMark tb env A B o f i [] ++ hard := by
  unfold addMark
  repeat' split
  all_goals rfl

theorem trace_of {cl : CallFn} (hgr : Grows cl) {P : Program} {tb : Tb} {ops : Array Oper} : ∀ (l : List Oper) (i : Nat) (hard : Marks) (st : St) (r : St × Marks), ops.toList.drop i = l → execOps cl P tb ops l i hard st = some [r] →
    ∃ (E : Nat → Env) (Hp : Nat → Heap) (v : Nat → V) (fl on : Nat → Bool), E i = st.env ∧ Hp i = st.h ∧ E (i + l.length) = r.1.env ∧ Hp (i + l.length) = r.1.h ∧
      (∀ j, i ≤ j → j < i + l.length → ∃ o, Steps cl P tb ops E Hp v fl on j o) ∧ (∀ j o, i ≤ j → j < i + l.length → ops[j]? = some o → on j = true → ∀ m, m ∈ addMark tb (E j) (Hp j) (Hp (j + 1)) o.op (fl j) j [] → m ∈ r.2) ∧ (∀ m, m ∈ hard → m ∈ r.2)
  | [], i, hard, st, r, hl, h => by
    simp only [execOps, Option.some.injEq, List.cons.injEq, and_true] at h
    subst h
    exact ⟨fun _ => st.env, fun _ => st.h, fun _ => V.undef, fun _ => false, fun _ => false, rfl, rfl, rfl, rfl, fun j h1 h2 => by simp at h2; omega, fun j o h1 h2 => by simp at h2; omega, fun j hj => hj⟩
  | o :: l, i, hard, st, r, hl, h => by
    have ho : ops[i]? = some o := by
      rw [← Array.getElem?_toList]
      have : (ops.toList.drop i)[0]? = some o := by rw [hl]; rfl
      simpa using this
    have hl' : ops.toList.drop (i + 1) = l := by
      have : (ops.toList.drop i).drop 1 = l := by rw [hl]; rfl
      rw [List.drop_drop] at this
      exact this
    have hlen : i + (o :: l).length = i + 1 + l.length := by simp; omega
    rw [hlen]
    have glue : ∀ (hard' : Marks) (env' : Env) (h' : Heap) (v0 : V) (f0 on0 : Bool), (∀ m, m ∈ hard → m ∈ hard') → (on0 = true → ∀ m, m ∈ addMark tb st.env st.h h' o.op f0 i [] → m ∈ hard') → execOps cl P tb ops l (i + 1) hard' { env := env', h := h' } = some [r] →
        guardOk tb ops st.env o = some on0 → env' = putT st.env o.dst v0 → (on0 = false → v0 = V.undef ∧ h' = st.h ∧ f0 = false) → (on0 = true → evalOp cl P tb st.env st.h o.op = some [(v0, h', f0)]) →
        ∃ (E : Nat → Env) (Hp : Nat → Heap) (v : Nat → V) (fl on : Nat → Bool), E i = st.env ∧ Hp i = st.h ∧ E (i + 1 + l.length) = r.1.env ∧ Hp (i + 1 + l.length) = r.1.h ∧
          (∀ j, i ≤ j → j < i + 1 + l.length → ∃ o, Steps cl P tb ops E Hp v fl on j o) ∧ (∀ j o, i ≤ j → j < i + 1 + l.length → ops[j]? = some o → on j = true → ∀ m, m ∈ addMark tb (E j) (Hp j) (Hp (j + 1)) o.op (fl j) j [] → m ∈ r.2) ∧ (∀ m, m ∈ hard → m ∈ r.2) := by
      intro hard' env' h' v0 f0 on0 hh hf0 hx hg henv hoff hon
      obtain ⟨E, Hp, v, fl, on, e1, e2, e3, e4, e5, e6, e7⟩ := trace_of hgr l (i + 1) hard' _ r hl' hx
      refine ⟨fun j => if j = i then st.env else E j, fun j => if j = i then st.h else Hp j, fun j => if j = i then v0 else v j, fun j => if j = i then f0 else fl j, fun j => if j = i then on0 else on j, ?_, ?_, ?_, ?_, ?_, ?_, ?_⟩
      · simp
      · simp
      · simp only [show ¬ i + 1 + l.length = i by omega, if_false]; exact e3
      · simp only [show ¬ i + 1 + l.length = i by omega, if_false]; exact e4
      · intro j h1 h2
        by_cases e : j = i
        · subst e
          refine ⟨o, ho, ?_, ?_, ?_, ?_⟩
          · simpa using hg
          · simp only [if_true, show ¬ j + 1 = j by omega, if_false]; rw [e1]; exact henv
          · simp only [if_true, show ¬ j + 1 = j by omega, if_false]; rw [e2]; exact hoff
          · simp only [if_true, show ¬ j + 1 = j by omega, if_false]; rw [e2]; exact hon
        · obtain ⟨o', s1, s2, s3, s4, s5⟩ := e5 j (by omega) h2
          refine ⟨o', s1, ?_, ?_, ?_, ?_⟩
          · simp only [if_neg e]; exact s2
          · simp only [if_neg e, show ¬ j + 1 = i by omega, if_false]; exact s3
          · simp only [if_neg e, show ¬ j + 1 = i by omega, if_false]; exact s4
          · simp only [if_neg e, show ¬ j + 1 = i by omega, if_false]; exact s5
      · intro j o' h1 h2 ho' h3 m hm
        by_cases e : j = i
        · subst e
          simp only [if_true, show ¬ j + 1 = j by omega, if_false] at h3 hm
          rw [e2] at hm
          rw [ho] at ho'; cases ho'
          exact e7 _ (hf0 h3 m hm)
        · simp only [if_neg e, show ¬ j + 1 = i by omega, if_false] at h3 hm
          exact e6 j o' (by omega) h2 ho' h3 m hm
      · exact fun j hj => e7 j (hh j hj)
    simp only [execOps] at h
    split at h
    · exact absurd h (by simp)
    · rename_i hg
      exact glue hard _ st.h V.undef false false (fun _ h => h) (fun h => by simp at h) h hg rfl (fun _ => ⟨rfl, rfl, rfl⟩) (fun h => by simp at h)
    · rename_i hg
      simp only [Option.bind_eq_some_iff] at h
      obtain ⟨M, hM, h⟩ := h
      obtain ⟨q, rfl, hq⟩ := bindL_single h (evalOp_ne hgr hM) (fun x _ Lx hLx => execOps_ne hgr hLx)
      refine glue _ _ q.2.1 q.1 q.2.2 true (fun m hm => ?_) (fun _ m hm => ?_) hq hg rfl (fun h => by simp at h) (fun _ => hM)
      · rw [addMark_eq]; exact List.mem_append_right _ hm
      · rw [addMark_eq]; exact List.mem_append_left _ hm

/-- The next operation that wrote. -/
theorem next_hard (fl : Nat → Bool) (n : Nat) : ∀ (k q : Nat), q + k = n → ∃ q', q ≤ q' ∧ q' ≤ n ∧ (∀ j, q ≤ j → j < q' → fl j = false) ∧ (q' < n → fl q' = true)
  | 0, q, h => ⟨q, Nat.le_refl _, by omega, fun j h1 h2 => by omega, fun h => by omega⟩
  | k + 1, q, h => by
    by_cases hq : fl q = true
    · exact ⟨q, Nat.le_refl _, by omega, fun j h1 h2 => by omega, fun _ => hq⟩
    · obtain ⟨q', h1, h2, h3, h4⟩ := next_hard fl n k (q + 1) (by omega)
      refine ⟨q', by omega, h2, fun j hj hj' => ?_, h4⟩
      by_cases e : j = q
      · subst e; simpa using hq
      · exact h3 j (by omega) hj'

/-- A temporary that nobody writes between. -/
theorem env_same {cl : CallFn} {P : Program} {tb : Tb} {ops : Array Oper} {E : Nat → Env} {Hp : Nat → Heap} {v : Nat → V} {fl on : Nat → Bool} {n nt : Nat} (hnt : nt < 1048576) (hops : opsOk nt ops = true) (hst : ∀ j, j < n → ∃ o, Steps cl P tb ops E Hp v fl on j o) (t : Tmp) : ∀ (k m : Nat), m + k ≤ n →
    (∀ j o, m ≤ j → j < m + k → ops[j]? = some o → o.dst ≠ some t) → evT (E (m + k)) t = evT (E m) t
  | 0, m, _, _ => rfl
  | k + 1, m, hn, h => by
    have ih := env_same hnt hops hst t k m (by omega) (fun j o h1 h2 => h j o h1 (by omega))
    obtain ⟨o, ho, _, he, _, _⟩ := hst (m + k) (by omega)
    rw [← ih, ← Nat.add_assoc, he]
    have hne := h (m + k) o (by omega) (by omega) ho
    cases hd : o.dst with
    | none => rfl
    | some d =>
      have hdn := opsOk_at hops ho d hd
      simp only [putT]
      rw [evT_set, if_neg (fun e => hne (by rw [hd, e]))]

/-- What the temporaries hold: of each, what the last that was taken wrote. -/
def EnvInv (ops : Array Oper) (E : Nat → Env) (φ : Froz) (γ : Place) (listed : Array Bool) (a : Act) : Prop :=
  ∀ t, ∃ m, m ≤ ops.size ∧ VRel φ γ (evT (E m) t) (a.tmps.getD t undef) ∧ (∀ i o, i < m → ops[i]? = some o → o.dst = some t → listed.getD i false = true) ∧ (∀ i o, m ≤ i → ops[i]? = some o → o.dst = some t → listed.getD i false = false)

/-- What holds on the way. -/
structure Inv (ops : Array Oper) (E : Nat → Env) (Hp : Nat → Heap) (fl : Nat → Bool) (N Lim nt : Nat) (ds : List Deferred) (φ0 : Froz) (γ0 : Place) (w0 : World) (listed : Array Bool) (a : Act) (w : World) (q : Nat) (φ : Froz) (γ : Place) (T : Nat → Prop) : Prop where
  size : listed.size = ops.size
  down : Down ops listed
  env : EnvInv ops E φ γ listed a
  tmps : a.tmps.size = nt
  defers : a.defers = ds
  qle : q ≤ ops.size
  before : ∀ i, i < q → fl i = true → listed.getD i false = true
  here : q < ops.size → fl q = true ∧ listed.getD q false = false
  after : ∀ i o, q ≤ i → ops[i]? = some o → listed.getD i false = true → isPure o.op = true ∨ isLoad o.op = true
  step : Step N φ0 γ0 (Hp 0) w0 φ γ (Hp q) w T
  free : ∀ i, i < q → listed.getD i false = false → ∀ b, (Hp i).next ≤ b → b < (Hp (i + 1)).next → γ b = none
  fresh : Fresh Lim γ (Hp q)

theorem getD_false {listed : Array Bool} {i : Nat} (h : listed.getD i true = false) : listed.getD i false = false := by
  rw [Array.getD_eq_getD_getElem?] at *
  cases hx : listed[i]? with
  | none => rfl
  | some b => rw [hx] at h; exact h

theorem set_getD {listed : Array Bool} {i j : Nat} (hi : i < listed.size) : (listed.setIfInBounds i true).getD j false = (decide (j = i) || listed.getD j false) := by
  by_cases e : j = i
  · subst e
    simp [hi]
  · rw [getD_set_ne false (Ne.symm e)]
    simp [e]

theorem EnvInv.mono {ops : Array Oper} {E : Nat → Env} {φ φ' : Froz} {γ γ' : Place} {listed : Array Bool} {a : Act} (h : EnvInv ops E φ γ listed a) (hφ : FLe φ φ') (hγ : PLe γ γ') : EnvInv ops E φ' γ' listed a :=
  fun t => let ⟨m, h1, h2, h3⟩ := h t; ⟨m, h1, h2.mono hφ hγ, h3⟩

theorem getD_op {ops : Array Oper} {i : Nat} {o : Oper} (h : ops[i]? = some o) : ops.getD i default = o := by rw [Array.getD_eq_getD_getElem?, h]; rfl

theorem tempsOk_at {ops : Array Oper} (h : tempsOk ops = true) {i : Nat} {o : Oper} (ho : ops[i]? = some o) :
    (∀ t, t ∈ namesOf ops o → t < 1048576) ∧ (∀ e, e ∈ o.after → Region.binds .any e = true → e.on < i) ∧
    (∀ d, o.dst = some d → ∀ j o', ops[j]? = some o' → d ∈ namesOf ops o' → j ≠ i → (i < j → Waits ops j i) ∧ (j < i → Waits ops i j)) := by
  have hi : i < ops.size := (Array.getElem?_eq_some_iff.1 ho).1
  unfold tempsOk at h
  have h := List.all_eq_true.1 h i (List.mem_range.2 hi)
  rw [getD_op ho] at h
  simp only [Bool.and_eq_true] at h
  obtain ⟨⟨h1, h2⟩, h3⟩ := h
  refine ⟨fun t ht => by simpa using List.all_eq_true.1 h1 t ht, fun e he hb => ?_, fun d hd j o' ho' hm hne => ?_⟩
  · have := Array.all_eq_true_iff_forall_mem.1 h2 e he
    rw [hb] at this
    simpa using this
  · rw [hd] at h3
    have hj : j < ops.size := (Array.getElem?_eq_some_iff.1 ho').1
    have := List.all_eq_true.1 h3 j (List.mem_range.2 hj)
    rw [getD_op ho'] at this
    simp only [Bool.or_eq_true, beq_iff_eq, Bool.not_eq_true'] at this
    rcases this with (h4 | h4) | h4
    · exact absurd h4 hne
    · have : (namesOf ops o').contains d = true := by simpa using hm
      rw [this] at h4; exact absurd h4 (by simp)
    · exact ordered_waits h4

section
variable {ops : Array Oper} {listed : Array Bool} (htmp : tempsOk ops = true) (hdown : Down ops listed) {i : Nat} {o : Oper} (ho : ops[i]? = some o) (hi : i ∈ Region.ready .any ops listed)
include htmp hdown ho hi

/-- Who writes to what an operation that may come up names: each before it has come up, none behind it. -/
theorem writers {d : Tmp} (hd : d ∈ namesOf ops o) {j : Nat} {o' : Oper} (ho' : ops[j]? = some o') (hj : o'.dst = some d) (hne : j ≠ i) : (j < i → listed.getD j false = true) ∧ (i < j → listed.getD j false = false) := by
  have hw := (tempsOk_at htmp ho').2.2 d hj i o ho hd (Ne.symm hne)
  have hun := getD_false (mem_ready.1 hi).1
  refine ⟨fun h => hdown.ready hi (hw.1 h), fun h => ?_⟩
  cases hl : listed.getD j false with
  | false => rfl
  | true => rw [hdown.waits (hw.2 h) hl] at hun; exact absurd hun (by simp)

theorem EnvInv.put {cl : CallFn} {P : Program} {tb : Tb} {E : Nat → Env} {Hp : Nat → Heap} {v : Nat → V} {fl on : Nat → Bool} {nt : Nat} (hnt : nt < 1048576) (hops : opsOk nt ops = true) (hst : Steps cl P tb ops E Hp v fl on i o) {φ : Froz} {γ : Place} {a : Act} (hs : listed.size = ops.size) (ha : a.tmps.size = nt) (h : EnvInv ops E φ γ listed a) {cv : Value} (hv : VRel φ γ (v i) cv) : EnvInv ops E φ γ (listed.setIfInBounds i true) (a.put o.dst cv) := by
  have hin : i < ops.size := (Array.getElem?_eq_some_iff.1 ho).1
  intro t
  by_cases e : o.dst = some t
  · have hdn := opsOk_at hops ho t e
    have hname : t ∈ namesOf ops o := by simp [namesOf, e]
    refine ⟨i + 1, hin, ?_, fun j o' hj ho' hd => ?_, fun j o' hj ho' hd => ?_⟩
    · rw [hst.env, e]
      simp only [putT, Act.put]
      rw [evT_set, if_pos rfl]
      have : (a.tmps.setIfInBounds t cv).getD t undef = cv := by
        simp [Array.getD_eq_getD_getElem?, show t < a.tmps.size by rw [ha]; exact hdn]
      rw [this]
      exact hv
    · rw [set_getD (by omega)]
      by_cases hji : j = i
      · simp [hji]
      · rw [(writers htmp hdown ho hi hname ho' hd hji).1 (by omega)]; simp
    · rw [set_getD (by omega)]
      rw [(writers htmp hdown ho hi hname ho' hd (by omega)).2 (by omega)]
      simp; omega
  · obtain ⟨m, h1, h2, h3, h4⟩ := h t
    refine ⟨m, h1, ?_, fun j o' hj ho' hd => ?_, fun j o' hj ho' hd => ?_⟩
    · have : (a.put o.dst cv).tmps.getD t undef = a.tmps.getD t undef := by
        cases hd : o.dst with
        | none => rfl
        | some d =>
          have hne : d ≠ t := fun he => e (by rw [hd, he])
          simp only [Act.put]
          rw [Array.getD_eq_getD_getElem?, Array.getD_eq_getD_getElem?, Array.getElem?_setIfInBounds_ne hne]
      rw [this]
      exact h2
    · rw [set_getD (by omega), h3 j o' hj ho' hd]; simp
    · rw [set_getD (by omega), h4 j o' hj ho' hd]
      have : j ≠ i := fun he => by subst he; rw [ho] at ho'; cases ho'; exact e hd
      simp [this]

/-- What an operation that may come up looks at. -/
theorem EnvInv.look {cl : CallFn} {P : Program} {tb : Tb} {E : Nat → Env} {Hp : Nat → Heap} {v : Nat → V} {fl on : Nat → Bool} {nt : Nat} (hnt : nt < 1048576) (hops : opsOk nt ops = true) (hst : ∀ j, j < ops.size → ∃ o, Steps cl P tb ops E Hp v fl on j o) {φ : Froz} {γ : Place} {a : Act} (h : EnvInv ops E φ γ listed a) {t : Tmp} (ht : t ∈ o.looksAt ops) : VRel φ γ (evT (E i) t) (a.tmps.getD t undef) := by
  have hin : i < ops.size := (Array.getElem?_eq_some_iff.1 ho).1
  have hname : t ∈ namesOf ops o := List.mem_append_right _ ht
  have hun := getD_false (mem_ready.1 hi).1
  obtain ⟨m, h1, h2, h3, h4⟩ := h t
  by_cases hmi : m ≤ i
  · have := env_same hnt hops hst t (i - m) m (by omega) (fun j o' hj1 hj2 ho' hd => by
      have e1 := h4 j o' hj1 ho' hd
      have e2 := (writers htmp hdown ho hi hname ho' hd (by omega)).1 (by omega)
      rw [e1] at e2; exact absurd e2 (by simp))
    rw [show m + (i - m) = i by omega] at this
    rw [this]; exact h2
  · have := env_same hnt hops hst t (m - i) i (by omega) (fun j o' hj1 hj2 ho' hd => by
      have e1 := h3 j o' (by omega) ho' hd
      by_cases hji : j = i
      · subst hji; rw [hun] at e1; exact absurd e1 (by simp)
      · have e2 := (writers htmp hdown ho hi hname ho' hd hji).2 (by omega)
        rw [e1] at e2; exact absurd e2 (by simp))
    rw [show i + (m - i) = m by omega] at this
    rw [← this]; exact h2
end

end
end Go.Sx
