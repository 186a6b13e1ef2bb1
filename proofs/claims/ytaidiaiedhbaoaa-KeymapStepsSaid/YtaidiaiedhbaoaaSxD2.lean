/- Regions that draw their order: the heaps on the way. -/
import Derived.Test.YtaidiaiedhbaoaaSxD1
/- Regions that draw their order: the heaps on the way. -/
set_option linter.unusedVariables false
set_option linter.unusedSimpArgs false
namespace Go.Sx
noncomputable section

theorem HLe.get {H H' : Heap} (h : HLe H H') (hw : Hwf H) {b : Nat} {k : Blk} (hk : H.get b = some k) : H'.get b = some k := (h.same b (hw.2.1 b k hk)).trans hk

theorem Rel.hwf {N : Nat} {φ : Froz} {γ : Place} {H : Heap} {w : World} (h : Rel N φ γ H w) (hb : H.base ≤ H.next) : Hwf H := ⟨trivial, h.keys, hb⟩

theorem Rel.sub {N : Nat} {φ : Froz} {γ : Place} {H H' : Heap} {w : World} (h : Rel N φ γ H' w) (hle : HLe H H') (hw : Hwf H) : Rel N φ γ H w :=
  ⟨h.ge, hw.2.1, h.froz, h.lt, fun b x k hx hk => h.blk b x k hx (hle.get hw hk), fun b x k hx hk => h.free b x k hx (hle.get hw hk), fun b x k b' x' k' hx hx' hk hk' => h.inj b x k b' x' k' hx hx' (hle.get hw hk) (hle.get hw hk')⟩

theorem HLe.old {H H' : Heap} (hle : HLe H H') (hw' : Hwf H') {γ : Place} (hf : ∀ b, H.next ≤ b → b < H'.next → γ b = none) {b : Nat} {x : Nat × Nat × Nat} {k : Blk} (hx : γ b = some x) (hk : H'.get b = some k) : H.get b = some k := by
  have hb := hw'.2.1 b k hk
  by_cases h : b < H.next
  · rw [← hle.same b h]; exact hk
  · rw [hf b (by omega) hb] at hx; exact absurd hx (by simp)

theorem Rel.ext {N : Nat} {φ : Froz} {γ : Place} {H H' : Heap} {w : World} (h : Rel N φ γ H w) (hle : HLe H H') (hw' : Hwf H') (hf : ∀ b, H.next ≤ b → b < H'.next → γ b = none) : Rel N φ γ H' w :=
  ⟨h.ge, hw'.2.1, h.froz, h.lt, fun b x k hx hk => h.blk b x k hx (hle.old hw' hf hx hk), fun b x k hx hk => h.free b x k hx (hle.old hw' hf hx hk), fun b x k b' x' k' hx hx' hk hk' => h.inj b x k b' x' k' hx hx' (hle.old hw' hf hx hk) (hle.old hw' hf hx' hk')⟩

theorem Step.ext {N : Nat} {φ φ' : Froz} {γ γ' : Place} {H H1 H2 : Heap} {w w' : World} {T : Nat → Prop} (h : Step N φ γ H w φ' γ' H1 w' T) (hle : HLe H1 H2) (hw : Hwf H2) (hf : ∀ b, H1.next ≤ b → b < H2.next → γ' b = none) : Step N φ γ H w φ' γ' H2 w' T :=
  { h with
    rel := h.rel.ext hle hw hf
    next := Nat.le_trans h.next hle.next
    base := hle.base.trans h.base
    dom := fun b x hx => (h.dom b x hx).imp id (fun k => ⟨k.1, Nat.lt_of_lt_of_le k.2.1 hle.next, k.2.2⟩)
    tlt := fun b hb => Nat.lt_of_lt_of_le (h.tlt b hb) hle.next
    low := fun b hb ht => by rw [hle.low]; exact h.low b hb ht
    mono := fun b hb => by rw [hle.low]; exact h.mono b hb }

/-- An operation that leaves what was there alone, seen in the heap of the whole phase. -/
theorem Step.lift {N : Nat} {φ0 φ φ' : Froz} {γ0 γ γ' : Place} {H0 Hq Hi Hi1 : Heap} {w0 w w' : World} {T Ti : Nat → Prop} (h : Step N φ0 γ0 H0 w0 φ γ Hq w T) (k : Step N φ γ Hi w φ' γ' Hi1 w' Ti) (hle : HLe Hi1 Hq)
    (hT : ∀ b, b < Hi.next → ¬ Ti b) (hfree : ∀ b, Hi.next ≤ b → b < Hi1.next → γ b = none) (h0 : H0.next ≤ Hi.next) : Step N φ0 γ0 H0 w0 φ' γ' Hq w' T := by
  have hno : ∀ b x, γ b = some x → ¬ Ti b := fun b x hx ht => by
    have := k.tlt b ht
    by_cases hb : b < Hi.next
    · exact hT b hb ht
    · rw [hfree b (by omega) this] at hx; exact absurd hx (by simp)
  have full : ∀ i, i < w.heap.size → w'.heap[i]? = w.heap[i]? := fun i hi => k.fr i hi (fun b x hx ht => absurd ht (hno b x hx))
  have old : ∀ b x, γ' b = some x → ¬ b < Hi1.next → γ b = some x := fun b x hx hb => (k.dom b x hx).resolve_right (fun hh => hb hh.2.1)
  have new : ∀ b x, γ' b = some x → γ b = some x ∨ (Hi.next ≤ b ∧ b < Hi1.next ∧ w.heap.size ≤ x.1) := fun b x hx => (k.dom b x hx).imp id (fun hh => ⟨hh.1, hh.2.1, hh.2.2.elim id (fun ⟨b0, y, hb0, hy, _⟩ => absurd hb0 (hno b0 y hy))⟩)
  exact {
    fle := h.fle.trans k.fle
    ple := h.ple.trans k.ple
    rel := {
      ge := k.rel.ge
      keys := h.rel.keys
      froz := k.rel.froz
      lt := k.rel.lt
      blk := fun b x j hx hj => by
        by_cases hb : b < Hi1.next
        · rw [hle.same b hb] at hj; exact k.rel.blk b x j hx hj
        · have ho := old b x hx hb
          exact (h.rel.blk b x j ho hj).mono k.fle k.ple (fun _ => full _ (h.rel.lt b x ho).1)
      free := fun b x j hx hj hs o hm => by
        by_cases hb : b < Hi1.next
        · rw [hle.same b hb] at hj; exact k.rel.free b x j hx hj hs o hm
        · have ho := old b x hx hb
          cases hv : φ' x.1 o with
          | none => rfl
          | some v =>
            rcases k.fdom _ _ _ hv with h1 | h1 | ⟨b0, y, hb0, hy, _⟩
            · rw [h.rel.free b x j ho hj hs o hm] at h1; exact absurd h1 (by simp)
            · have := (h.rel.lt b x ho).1; omega
            · exact absurd hb0 (hno b0 y hy)
      inj := fun b x j b' x' j' hx hx' hj hj' hs hs' hne => by
        by_cases hb : b < Hi1.next
        · by_cases hb' : b' < Hi1.next
          · rw [hle.same b hb] at hj; rw [hle.same b' hb'] at hj'
            exact k.rel.inj b x j b' x' j' hx hx' hj hj' hs hs' hne
          · have ho' := old b' x' hx' hb'
            rcases new b x hx with ho | ⟨_, _, hz⟩
            · exact h.rel.inj b x j b' x' j' ho ho' hj hj' hs hs' hne
            · have := (h.rel.lt b' x' ho').1; omega
        · have ho := old b x hx hb
          rcases new b' x' hx' with ho' | ⟨_, _, hz⟩
          · exact h.rel.inj b x j b' x' j' ho ho' hj hj' hs hs' hne
          · have := (h.rel.lt b x ho).1; omega }
    os := k.os.trans h.os
    tape := k.tape.trans h.tape
    output := k.output.trans h.output
    size := Nat.le_trans h.size k.size
    next := h.next
    base := h.base
    fr := fun i hi ht => (full i (Nat.lt_of_lt_of_le hi h.size)).trans (h.fr i hi ht)
    dom := fun b x hx => by
      rcases new b x hx with h1 | ⟨h1, h2, h3⟩
      · exact h.dom b x h1
      · exact .inr ⟨Nat.le_trans h0 h1, Nat.lt_of_lt_of_le h2 hle.next, .inl (Nat.le_trans h.size h3)⟩
    tlt := h.tlt
    low := h.low
    mono := h.mono
    fdom := fun c o v hv => by
      rcases k.fdom c o v hv with h1 | h1 | ⟨b0, y, hb0, hy, _⟩
      · exact h.fdom c o v h1
      · exact .inr (.inl (Nat.le_trans h.size h1))
      · exact absurd hb0 (hno b0 y hy) }

/-! ### What an operation looks at -/
theorem evalOp_congr {cl : CallFn} {P : Program} {tb : Tb} {env env' : Env} {H : Heap} (o : Op) (h : ∀ x ∈ o.operands, ev tb env x = ev tb env' x) : evalOp cl P tb env H o = evalOp cl P tb env' H o := by
  have pairs : ∀ ps : Array (Nat × Operand), (∀ x ∈ ps.map (·.2), ev tb env x = ev tb env' x) → (ps.toList.map fun p => (p.1, ev tb env p.2)) = (ps.toList.map fun p => (p.1, ev tb env' p.2)) := fun ps hp =>
    List.map_congr_left fun p hm => by
      obtain ⟨i, x⟩ := p
      simp only [hp x (Array.mem_map.2 ⟨(i, x), Array.mem_toList_iff.1 hm, rfl⟩)]
  have lists : ∀ ps : Array Operand, (∀ x ∈ ps, ev tb env x = ev tb env' x) → ps.toList.map (ev tb env) = ps.toList.map (ev tb env') := fun ps hp =>
    List.map_congr_left fun x hm => hp x (Array.mem_toList_iff.1 hm)
  cases o
  case build t ps => simp only [Op.operands] at h; simp only [evalOp, isPure, evalPure, if_true]; rw [pairs ps (by simpa using h)]
  case buildSlice t n ps => simp only [Op.operands] at h; simp only [evalOp, isPure, evalPure, if_true]; rw [pairs ps (by simpa using h)]
  case makeFunc fn first captured =>
    simp only [Op.operands] at h
    simp only [evalOp, isPure, evalPure, if_true]
    rw [lists first (fun x hx => h x (by simp [hx])), lists captured (fun x hx => h x (by simp [hx]))]
  case call c =>
    obtain ⟨callee, args, ats⟩ := c
    have ha : ∀ x ∈ args, ev tb env x = ev tb env' x := fun x hx => h x (by simp [Op.operands, Call.operands, hx])
    have hl := lists args ha
    cases callee with
    | value f =>
      have hf : ev tb env f = ev tb env' f := h f (by simp [Op.operands, Call.operands])
      simp only [evalOp, isPure, evalCall, hf, hl, Bool.false_eq_true, if_false]
    | invoke r m => simp [evalOp, isPure, evalMem]
    | builtin b =>
      have ha' : ∀ x ∈ args.toList, ev tb env x = ev tb env' x := fun x hx => ha x (Array.mem_toList_iff.1 hx)
      revert ha'
      cases b <;> simp only [evalOp, isPure, evalPure, evalMem, softOp, hl, if_true, Bool.false_eq_true, if_false] <;> try (intro _; trivial)
      all_goals
        generalize args.toList = l
        intro ha'
        generalize ats.toList = l2
        rcases l with _ | ⟨x, l⟩
        · rcases l2 with _ | ⟨t1, _ | ⟨t2, _ | ⟨t3, l2⟩⟩⟩ <;> simp
        · have hx := ha' x (by simp)
          rcases l with _ | ⟨y, l⟩
          · rcases l2 with _ | ⟨t1, _ | ⟨t2, _ | ⟨t3, l2⟩⟩⟩ <;> simp [hx]
          · have hy := ha' y (by simp)
            rcases l with _ | ⟨z, l⟩
            · rcases l2 with _ | ⟨t1, _ | ⟨t2, _ | ⟨t3, l2⟩⟩⟩ <;> simp [hx, hy]
            · rcases l2 with _ | ⟨t1, _ | ⟨t2, _ | ⟨t3, l2⟩⟩⟩ <;> simp [hx, hy]
  case makeMap t r => cases r <;> simp_all [Op.operands, evalOp, isPure, evalPure, evalMem, softOp]
  case slice t x lo hi mx => cases lo <;> cases hi <;> cases mx <;> simp_all [Op.operands, evalOp, isPure, evalPure, evalMem, softOp]
  all_goals (first | rfl | (simp_all [Op.operands, evalOp, isPure, evalPure, evalMem, softOp]; done))

theorem guardOk_congr {tb : Tb} {ops : Array Oper} {env env' : Env} {o : Oper} (h : ∀ t, t ∈ o.looksAt ops → evT env t = evT env' t) : guardOk tb ops env o = guardOk tb ops env' o := by
  unfold guardOk
  cases hg : o.guard with
  | none => rfl
  | some p =>
    obtain ⟨j, want⟩ := p
    simp only
    cases hd : (ops[j]?).bind (·.dst) with
    | none => rfl
    | some d =>
      simp only
      rw [h d (by simp [Oper.looksAt, hg, hd])]

theorem ev_congr {ops : Array Oper} {tb : Tb} {env env' : Env} {o : Oper} (h : ∀ t, t ∈ o.looksAt ops → evT env t = evT env' t) : ∀ x ∈ o.op.operands, ev tb env x = ev tb env' x := by
  intro x hx
  cases x with
  | tmp t => exact h t (List.mem_append_left _ (List.mem_filterMap.2 ⟨.tmp t, by simpa using hx, rfl⟩))
  | _ => rfl

/-- Temporaries set one by one. -/
theorem env_of (f : Nat → V) : ∀ (l : List Nat) (env : Env), (∀ t, t ∈ l → t < 1048576) → ∃ env' : Env, ∀ t, evT env' t = if t ∈ l then f t else evT env t
  | [], env, _ => ⟨env, fun t => by simp⟩
  | d :: l, env, h => by
    obtain ⟨env', he⟩ := env_of f l env (fun t ht => h t (List.mem_cons_of_mem _ ht))
    refine ⟨env'.set d (f d), fun t => ?_⟩
    have hd := h d List.mem_cons_self
    rw [evT_set]
    by_cases e : t = d
    · subst e; simp
    · rw [if_neg e, he]
      simp [e]

/-- What stands in a frame, of what is looked at alone. -/
theorem env_patch {φ : Froz} {γ : Place} {nt : Nat} (hnt : nt < 1048576) {env : Env} {a : Act} (hs : a.tmps.size = nt) (l : List Nat) (hl : ∀ t, t ∈ l → t < 1048576) (h : ∀ t, t ∈ l → VRel φ γ (evT env t) (a.tmps.getD t undef)) :
    ∃ env' : Env, ERel φ γ env' a ∧ ∀ t, t ∈ l → evT env t = evT env' t := by
  obtain ⟨e1, h1⟩ := env_of (fun _ => V.top) (List.range nt) .leaf (fun t ht => by have := List.mem_range.1 ht; omega)
  obtain ⟨e2, h2⟩ := env_of (evT env) l e1 hl
  refine ⟨e2, fun t => ?_, fun t ht => by rw [h2, if_pos ht]⟩
  rw [h2]
  split
  · exact h t ‹_›
  · rw [h1]
    split
    · exact .top
    · rename_i hn
      have : ¬ t < a.tmps.size := by rw [hs]; simpa using hn
      rw [Array.getD_eq_getD_getElem?, Array.getElem?_eq_none (by omega)]
      exact .tuple rfl (fun j v hj => by simp at hj)

end
end Go.Sx
