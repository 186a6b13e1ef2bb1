/- Each operation that asks no memory of ours does in the model what the abstract interpreter says. -/
import Derived.Test.YtaidiaiedhbaoaaSxA
/- Each operation that asks no memory of ours does in the model what the abstract interpreter says. -/
set_option linter.unusedVariables false
set_option linter.unusedSimpArgs false
namespace Go.Sx
noncomputable section

theorem pureRun_run {α : Type} {P : Program} {e : Sem α} {a : α} (h : pureRun P e = some a) (w : World) : e.run P w = .ok a w := by
  induction e with
  | pure b => simp [pureRun] at h; subst h; rfl
  | program k ih => simp only [pureRun] at h; exact ih P h
  | _ => simp [pureRun] at h

theorem pureRun_bind {α β : Type} {P : Program} {e : Sem α} {f : α → Sem β} {b : β} (h : pureRun P (e >>= f) = some b) : ∃ a, pureRun P e = some a ∧ pureRun P (f a) = some b := by
  induction e with
  | pure a => exact ⟨a, rfl, h⟩
  | program k ih => exact ih P h
  | _ => exact absurd h (by simp [Bind.bind, Sem.bind, pureRun])

/-- The frame's slots. -/
def ERel (φ : Froz) (γ : Place) (env : Env) (a : Act) : Prop := ∀ t, VRel φ γ (evT env t) (a.tmps.getD t undef)
theorem ERel.mono {φ φ' : Froz} {γ γ' : Place} {env : Env} {a : Act} (h : ERel φ γ env a) (hφ : FLe φ φ') (hγ : PLe γ γ') : ERel φ' γ' env a := fun t => (h t).mono hφ hγ

/-- The package's tables lie where they were laid. -/
structure GlobOk (φ : Froz) (tb : Tb) : Prop where
  at_ : ∀ g l, tb.glob g = some l → ∀ j v, l[j]? = some v → φ g j = some v
  rho : φ.rho = tb.rho
theorem GlobOk.mono {φ φ' : Froz} {tb : Tb} (h : GlobOk φ tb) (hφ : FLe φ φ') : GlobOk φ' tb := ⟨fun g l hg j v hv => hφ _ _ _ (h.at_ g l hg j v hv), hφ.rho.trans h.rho⟩

theorem ofCell_rel {φ : Froz} {γ : Place} {v : Value} {u : V} (h : ofCell v = some u) : VRel φ γ u v ∧ u.one = true := by
  unfold ofCell at h
  split at h
  · cases h; exact ⟨.lnil, rfl⟩
  · split at h
    · cases h; exact ⟨.val ‹_›, rfl⟩
    · exact absurd h (by simp)

theorem mapM_some {α β : Type} {f : α → Option β} : ∀ {l : List α} {r : List β}, l.mapM f = some r → r.length = l.length ∧ ∀ (j : Nat) (b : β), r[j]? = some b → ∃ a, l[j]? = some a ∧ f a = some b
  | [], r, h => by simp at h; subst h; exact ⟨rfl, fun j b hb => by simp at hb⟩
  | x :: l, r, h => by
    rw [List.mapM_cons] at h
    simp only [Option.bind_eq_bind, Option.bind_eq_some_iff, Option.pure_def, Option.some.injEq] at h
    obtain ⟨y, hy, s, hs, rfl⟩ := h
    have ih := mapM_some hs
    refine ⟨by simp [ih.1], fun j b hb => ?_⟩
    match j, hb with
    | 0, hb => simp at hb; subst hb; exact ⟨x, rfl, hy⟩
    | j + 1, hb => simpa using ih.2 j b (by simpa using hb)

theorem ofValue_rel {φ : Froz} {γ : Place} {v : Value} {u : V} (h : ofValue v = some u) : VRel φ γ u v := by
  unfold ofValue at h
  split at h
  · rename_i cs
    simp only [Option.map_eq_some_iff] at h
    obtain ⟨l, hl, rfl⟩ := h
    have hm := mapM_some hl
    have key : ∀ j u, l[j]? = some u → VRel φ γ u (cs.getD j undef) ∧ u.one = true := fun j u hu => by
      obtain ⟨a, ha, hf⟩ := hm.2 j u hu
      have : cs.getD j undef = a := by
        rw [Array.getElem?_toList] at ha
        simp [Array.getD_eq_getD_getElem?, ha]
      rw [this]
      exact ofCell_rel hf
    exact .agg (by rw [hm.1]; simp) (fun j u hu => (key j u hu).2) (fun j u hu => (key j u hu).1)
  · exact (ofCell_rel h).1

theorem toCell_eq {φ : Froz} {γ : Place} {u : V} {v x : Value} (h : toCell u = some v) (hr : VRel φ γ u x) : x = v := by
  unfold toCell at h
  split at h
  · split at h
    · cases h; cases hr; rfl
    · exact absurd h (by simp)
  · split at h
    · cases h
      cases hr with
      | iface hr => cases hr; rfl
    · exact absurd h (by simp)
  · exact absurd h (by simp)

theorem toValue_eq {φ : Froz} {γ : Place} {u : V} {v x : Value} (h : toValue u = some v) (hr : VRel φ γ u x) : x = v := by
  unfold toValue at h
  split at h
  · rename_i cs
    simp only [Option.map_eq_some_iff] at h
    obtain ⟨l, hl, rfl⟩ := h
    cases hr with
    | @agg _ cs' h1 h2 h3 =>
      have hm := mapM_some hl
      congr 1
      apply Array.ext'
      apply List.ext_getElem?
      intro j
      by_cases hj : j < cs.length
      · have hjl : j < l.length := by omega
        obtain ⟨a, ha, hf⟩ := hm.2 j l[j] (by simp [hjl])
        have := toCell_eq hf (h3 j a ha)
        have hj' : j < cs'.size := by omega
        simp only [List.getElem?_eq_getElem hjl]
        rw [← this]
        simp [Array.getD_eq_getD_getElem?, hj']
      · have hjl : ¬ j < l.length := by omega
        have hj' : ¬ j < cs'.size := by omega
        simp [hjl, hj']
  · exact toCell_eq h hr

theorem ev_rel {φ : Froz} {γ : Place} {tb : Tb} {env : Env} {a : Act} (he : ERel φ γ env a) (hg : GlobOk φ tb) (x : Operand) : VRel φ γ (ev tb env x) (a.eval x) := by
  cases x with
  | tmp t => exact he t
  | const v =>
    simp only [ev, Act.eval]
    cases h : ofValue v with
    | none => exact .top
    | some u => exact ofValue_rel h
  | global g =>
    simp only [ev, Act.eval]
    cases h : tb.glob g with
    | none => exact .top
    | some l =>
      simp only []
      cases hm : l.mapM ofCell with
      | none => exact .top
      | some cs =>
        have hms := mapM_some hm
        have key : ∀ j v, cs[j]? = some v → ∃ c, l[j]? = some c ∧ ofCell c = some v := fun j v hv => hms.2 j v hv
        refine .cptr (fun j => l.getD j undef) rfl (fun j v hv => ?_) (fun j v hv => ?_)
        · obtain ⟨c, hc, ho⟩ := key j v hv
          refine ⟨(ofCell_rel (φ := φ) (γ := γ) ho).2, ?_⟩
          have := hg.at_ g l h j c hc
          simpa [List.getD_eq_getElem?_getD, hc] using this
        · obtain ⟨c, hc, ho⟩ := key j v hv
          have := (ofCell_rel (φ := φ) (γ := γ) ho).1
          simpa [List.getD_eq_getElem?_getD, hc] using this
  | func f => exact .func rfl rfl (fun j v hv => by simp at hv) (fun j v hv => by simp at hv)

/-! ### Arithmetic and comparisons -/
theorem intBin_ok {P : Program} {op : BinOp} {T : TypeId} {k k' : IntKind} {a b : Int} {r : Value} (h : intBin op k a k' b = some r) (w : World) :
    (binOp op T (.int k a) (.int k' b)).run P w = .ok r w ∧ plain r = true := by
  cases op <;> simp only [intBin] at h <;> (repeat' split at h) <;> cases h <;> (refine ⟨?_, rfl⟩; try subst_vars) <;>
    simp [binOp, Op.intArith, Op.intDiv, Op.intBits, Op.intCmp, Op.shift, bits, *]

theorem eqGuard_int {P : Program} {op : BinOp} {T : TypeId} {x y : Operand} {k k' : IntKind} {a b : Int} (w : World) : (eqGuard op T x y (.int k a) (.int k' b)).run P w = .ok () w := by
  cases op <;> simp [eqGuard]

theorem eqGuard_any {P : Program} {op : BinOp} {T : TypeId} {x y : Operand} {a b : Value} (h : pureRun P (eqGuard op T (.tmp 0) (.tmp 0) a b) = some ()) (w : World) : (eqGuard op T x y a b).run P w = .ok () w := by
  have h1 := pureRun_run h w
  by_cases hn : a = .nilIface ∧ b = .nilIface
  · obtain ⟨rfl, rfl⟩ := hn
    unfold eqGuard at h1 ⊢
    cases op <;> first | exact h1 | skip
    all_goals
      cases x <;> cases y <;> first | exact h1 | (simp; done)
  · unfold eqGuard at h1 ⊢
    cases op <;> first | exact h1 | skip
    all_goals
      cases a <;> cases b <;> first | exact h1 | exact absurd ⟨rfl, rfl⟩ hn

theorem maxDepth_eq : Op.maxDepth = 9999 + 1 := rfl

theorem nilCmp_ok {op : BinOp} {n : Bool} {v : V} (h : nilCmp op n = some v) : (op = .eql ∧ v = .bool n) ∨ (op = .neq ∧ v = .bool !n) := by
  unfold nilCmp at h
  split at h
  · cases h; exact .inl ⟨rfl, rfl⟩
  · cases h; exact .inr ⟨rfl, rfl⟩
  · exact absurd h (by simp)

theorem cmp_ok {P : Program} {φ : Froz} {γ : Place} {op : BinOp} {T : TypeId} {n : Bool} {v : V} {x' y' : Value} (ox oy : Operand) (h : nilCmp op n = some v) (w : World)
    (hg : (eqGuard op T ox oy x' y').run P w = .ok () w) (hb1 : binOp .eql T x' y' = (do pure (.bool (← Op.equal T x' y')))) (hb2 : binOp .neq T x' y' = (do pure (.bool (!(← Op.equal T x' y'))))) (he : (Op.equal T x' y').run P w = .ok n w) :
    ∃ cv, (do eqGuard op T ox oy x' y'; binOp op T x' y').run P w = .ok cv w ∧ VRel φ γ v cv := by
  rcases nilCmp_ok h with ⟨rfl, rfl⟩ | ⟨rfl, rfl⟩
  · exact ⟨.bool n, by simp [hg, hb1, he], .val rfl⟩
  · exact ⟨.bool !n, by simp [hg, hb2, he], .val rfl⟩

theorem mkNot_truth (ρ : Nat → Value) (a : SE) : (SE.mkNot a).truth ρ = !a.truth ρ := by
  unfold SE.mkNot
  split
  · simp [SE.truth, SE.all]
  · rfl
  · rfl
theorem cmpS_ok {P : Program} {φ : Froz} {γ : Place} {op : BinOp} {T : TypeId} {nl : SE} {v : V} {x' y' : Value} (ox oy : Operand) (h : nilCmpS op nl = some v) (w : World)
    (hg : (eqGuard op T ox oy x' y').run P w = .ok () w) (hb1 : binOp .eql T x' y' = (do pure (.bool (← Op.equal T x' y')))) (hb2 : binOp .neq T x' y' = (do pure (.bool (!(← Op.equal T x' y'))))) (he : (Op.equal T x' y').run P w = .ok (nl.truth φ.rho) w) :
    ∃ cv, (do eqGuard op T ox oy x' y'; binOp op T x' y').run P w = .ok cv w ∧ VRel φ γ v cv := by
  unfold nilCmpS at h
  split at h
  · cases h
    exact ⟨.bool (nl.truth φ.rho), by simp [hg, hb1, he], boolV_rel nl⟩
  · cases h
    refine ⟨.bool (!nl.truth φ.rho), by simp [hg, hb2, he], ?_⟩
    rw [← mkNot_truth]
    exact boolV_rel nl.mkNot
  · exact absurd h (by simp)

theorem equal_open {P : Program} {T : TypeId} {d : TypeDesc} (hd : P.underlying T = some d) (x y : Value) (w : World) : (Op.equal T x y).run P w = (Op.equalIn (9999 + 1) T x y).run P w := rfl

theorem guard_not {P : Program} {op : BinOp} {T : TypeId} {ox oy : Operand} {x y : Value} (h : ∀ cs ds, ¬ (x = .agg cs ∧ y = .agg ds)) (h2 : ¬ (x = .nilIface ∧ y = .nilIface)) (w : World) : (eqGuard op T ox oy x y).run P w = .ok () w := by
  unfold eqGuard
  cases op <;> first | rfl | skip
  all_goals
    cases x <;> cases y <;> first | rfl | exact absurd ⟨rfl, rfl⟩ h2 | exact absurd ⟨rfl, rfl⟩ (h _ _)

theorem bin00_ok {P : Program} {tb : Tb} (hok : tb.Ok P) {φ : Froz} {γ : Place} {op : BinOp} {T : TypeId} {x y v : V} {x' y' : Value} (ox oy : Operand) (h : evalBin00 P tb op T x y = some v) (hx : VRel φ γ x x') (hy : VRel φ γ y y') (w : World) :
    ∃ cv, (do eqGuard op T ox oy x' y'; binOp op T x' y').run P w = .ok cv w ∧ VRel φ γ v cv := by
  unfold evalBin00 at h
  split at h
  · rename_i k a k' b
    simp only [Option.map_eq_some_iff] at h
    obtain ⟨r, hr, rfl⟩ := h
    cases hx; cases hy
    have hb := intBin_ok (P := P) (T := T) hr w
    exact ⟨r, by simp [eqGuard_int, hb.1], .val hb.2⟩
  all_goals
    try (split at h <;> (try (cases h; done)))
  · rename_i hd
    cases hx; cases hy
    exact cmp_ok ox oy h w (guard_not (by simp) (by simp) w) rfl rfl (by rw [equal_open (hok.desc _ _ hd), Op.equalIn]; simp [run_underlying (hok.desc _ _ hd)])
  · rename_i hd
    cases hx; cases hy
    exact cmp_ok ox oy h w (guard_not (by simp) (by simp) w) rfl rfl (by rw [equal_open (hok.desc _ _ hd), Op.equalIn]; simp [run_underlying (hok.desc _ _ hd)])
  · rename_i hd
    cases hx; cases hy
    exact cmp_ok ox oy h w (guard_not (by simp) (by simp) w) rfl rfl (by rw [equal_open (hok.desc _ _ hd), Op.equalIn]; simp [run_underlying (hok.desc _ _ hd)])
  · rename_i hd
    cases hx; cases hy
    exact cmp_ok ox oy h w (guard_not (by simp) (by simp) w) rfl rfl (by rw [equal_open (hok.desc _ _ hd), Op.equalIn]; simp [run_underlying (hok.desc _ _ hd)])
  · rename_i hd
    cases hy
    cases hx <;> exact cmp_ok ox oy h w (guard_not (by simp) (by simp) w) rfl rfl (by rw [equal_open (hok.desc _ _ hd), Op.equalIn]; simp [run_underlying (hok.desc _ _ hd)])
  · rename_i hd
    cases hx
    cases hy <;> exact cmp_ok ox oy h w (guard_not (by simp) (by simp) w) rfl rfl (by rw [equal_open (hok.desc _ _ hd), Op.equalIn]; simp [run_underlying (hok.desc _ _ hd)])
  · rename_i hd
    cases hx; cases hy
    exact cmp_ok ox oy h w (guard_not (by simp) (by simp) w) rfl rfl (by rw [equal_open (hok.desc _ _ hd), Op.equalIn]; simp [run_underlying (hok.desc _ _ hd)])
  · rename_i hd
    cases hx; cases hy
    exact cmp_ok ox oy h w (guard_not (by simp) (by simp) w) rfl rfl (by rw [equal_open (hok.desc _ _ hd), Op.equalIn]; simp [run_underlying (hok.desc _ _ hd)])
  · rename_i hd
    cases hx; cases hy
    exact cmp_ok ox oy h w (guard_not (by simp) (by simp) w) rfl rfl (by rw [equal_open (hok.desc _ _ hd), Op.equalIn]; simp [run_underlying (hok.desc _ _ hd)])
  · rename_i hd
    cases hx; cases hy
    exact cmp_ok ox oy h w (guard_not (by simp) (by simp) w) rfl rfl (by rw [equal_open (hok.desc _ _ hd), Op.equalIn]; simp [run_underlying (hok.desc _ _ hd)])
  · rename_i hd
    cases hx; cases hy
    exact cmp_ok ox oy h w (guard_not (by simp) (by simp) w) rfl rfl (by rw [equal_open (hok.desc _ _ hd), Op.equalIn]; simp [run_underlying (hok.desc _ _ hd)])
  · rename_i hd
    cases hx; cases hy
    exact cmp_ok ox oy h w (guard_not (by simp) (by simp) w) rfl rfl (by rw [equal_open (hok.desc _ _ hd), Op.equalIn]; simp [run_underlying (hok.desc _ _ hd)])
  · rename_i hd
    cases hx; cases hy
    exact cmp_ok ox oy h w (guard_not (by simp) (by simp) w) rfl rfl (by rw [equal_open (hok.desc _ _ hd), Op.equalIn]; simp [run_underlying (hok.desc _ _ hd)])
  · rename_i hd
    cases hx; cases hy
    exact cmp_ok ox oy h w (guard_not (by simp) (by simp) w) rfl rfl (by rw [equal_open (hok.desc _ _ hd), Op.equalIn]; simp [run_underlying (hok.desc _ _ hd)])
  · rename_i hd
    cases hx; cases hy
    exact cmp_ok ox oy h w (guard_not (by simp) (by simp) w) rfl rfl (by rw [equal_open (hok.desc _ _ hd), Op.equalIn]; simp [run_underlying (hok.desc _ _ hd)])
  · rename_i hd
    cases hx; cases hy
    exact cmp_ok ox oy h w (guard_not (by simp) (by simp) w) rfl rfl (by rw [equal_open (hok.desc _ _ hd), Op.equalIn]; simp [run_underlying (hok.desc _ _ hd)])
  · simp only [Option.bind_eq_bind, Option.bind_eq_some_iff] at h
    obtain ⟨a, ha, b, hb, r, hr, hc⟩ := h
    have ex := toValue_eq ha hx
    have ey := toValue_eq hb hy
    subst ex ey
    obtain ⟨u, hu, hr⟩ := pureRun_bind hr
    have h1 := eqGuard_any (x := ox) (y := oy) hu w
    have h2 := pureRun_run hr w
    exact ⟨r, by simp [h1, h2], (ofCell_rel hc).1⟩

theorem sliNil_ok {P : Program} {tb : Tb} (hok : tb.Ok P) {φ : Froz} {γ : Place} {op : BinOp} {T : TypeId} {x y v : V} {x' y' : Value} (ox oy : Operand) {nl : SE} {e : TypeId} (hs : sliNil x y = some nl) (hd : tb.desc T = some (.slice e)) (h : nilCmpS op nl = some v) (hx : VRel φ γ x x') (hy : VRel φ γ y y') (w : World) :
    ∃ cv, (do eqGuard op T ox oy x' y'; binOp op T x' y').run P w = .ok cv w ∧ VRel φ γ v cv := by
  have key : ∀ (k : Sh) (e2 : SE) (tok : Tok) (z : Value), VRel φ γ (.list (nl.truth φ.rho) (rowsOf φ.rho k e2) tok) z → ∃ a l c, z = .slice a l c ∧ (Op.equal T z (.slice none 0 0)).run P w = .ok (nl.truth φ.rho) w ∧ (Op.equal T (.slice none 0 0) z).run P w = .ok (nl.truth φ.rho) w := by
    intro k e2 tok z hz
    generalize SE.truth φ.rho nl = b at hz ⊢
    generalize rowsOf φ.rho k e2 = rs at hz
    cases hz with
    | lnil => exact ⟨_, _, _, rfl, by rw [equal_open (hok.desc _ _ hd), Op.equalIn]; simp [run_underlying (hok.desc _ _ hd)], by rw [equal_open (hok.desc _ _ hd), Op.equalIn]; simp [run_underlying (hok.desc _ _ hd)]⟩
    | list => exact ⟨_, _, _, rfl, by rw [equal_open (hok.desc _ _ hd), Op.equalIn]; simp [run_underlying (hok.desc _ _ hd)], by rw [equal_open (hok.desc _ _ hd), Op.equalIn]; simp [run_underlying (hok.desc _ _ hd)]⟩
  unfold sliNil at hs
  split at hs
  · cases hs
    cases hy
    cases hx with
    | sli h1 =>
      obtain ⟨a, l, c, rfl, h2, h3⟩ := key _ _ _ _ h1
      exact cmpS_ok ox oy h w (guard_not (by simp) (by simp) w) rfl rfl h2
  · cases hs
    cases hx
    cases hy with
    | sli h1 =>
      obtain ⟨a, l, c, rfl, h2, h3⟩ := key _ _ _ _ h1
      exact cmpS_ok ox oy h w (guard_not (by simp) (by simp) w) rfl rfl h3
  · exact absurd hs (by simp)
theorem bin0_ok {P : Program} {tb : Tb} (hok : tb.Ok P) {φ : Froz} {γ : Place} {op : BinOp} {T : TypeId} {x y v : V} {x' y' : Value} (ox oy : Operand) (h : evalBin0 P tb op T x y = some v) (hx : VRel φ γ x x') (hy : VRel φ γ y y') (w : World) :
    ∃ cv, (do eqGuard op T ox oy x' y'; binOp op T x' y').run P w = .ok cv w ∧ VRel φ γ v cv := by
  unfold evalBin0 at h
  split at h
  · rename_i nl hs
    split at h
    · exact sliNil_ok hok ox oy hs ‹_› h hx hy w
    · exact absurd h (by simp)
  · exact bin00_ok hok ox oy h hx hy w

end
end Go.Sx
