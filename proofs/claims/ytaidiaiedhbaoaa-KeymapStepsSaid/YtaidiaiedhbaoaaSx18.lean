/- A law that returns true: from the interpreter's word to the row's form. -/
import Derived.Test.YtaidiaiedhbaoaaSx17
/- A law that returns true: from the interpreter's word to the row's form. -/
set_option linter.unusedVariables false
set_option linter.unusedSimpArgs false
namespace Go.Sx
noncomputable section
open Go.ChangeShapes Go.WideShapes Go.ChangeAt Go.RowKit

def TyV (tb : Tb) (n : Nat) (t : TypeId) (x : V) : Prop :=
  match tb.agg t with
  | some true => ∃ cs, x = .agg cs ∧ Ty tb n t cs
  | some false => Ty tb n t [x]
  | none => False

/-- Arguments of their types. -/
def TyArgs (tb : Tb) (n : Nat) : List TypeId → List V → Prop
  | [], xs => xs = []
  | t :: ts, xs => ∃ x xs', xs = x :: xs' ∧ TyV tb n t x ∧ TyArgs tb n ts xs'

section
variable {P : Program} {tb : Tb} (hok : tb.Ok P) {H : Type} {enc : TypeId × Value → H} {w : World}

include hok in
theorem argV_of {n : Nat} {t : TypeId} (h : argTy tb n t = true) {r : Reach} {b : Nat} {v : Value} {d : DataW H} {ps : List MemPlace} (hv : Value.okWide P w r b t v) (ht : DataW.Trod enc P w 0 (fun _ => true) true t v d ps) :
    ∃ x, TyV tb n t x ∧ ∀ ρ, VRel (allFroz ρ w) (fun _ => none) x v := by
  obtain ⟨fuel, hf⟩ := ht
  obtain ⟨vs, h1, h2⟩ := cells_of hok n fuel t _ _ h hf
  match n, h with
  | n + 1, h =>
    unfold TyV Tb.agg
    unfold argTy at h
    unfold Value.okWide at hv
    have single : ∀ {d : TypeDesc}, tb.desc t = some d → (∀ fs, d ≠ .struct fs) → (∀ m e, d ≠ .array m e) → (∀ cs, v ≠ .agg cs) → ∃ x, Ty tb (n + 1) t [x] ∧ ∀ ρ, VRel (allFroz ρ w) (fun _ => none) x v := by
      intro d hd hs ha hna
      have hc : v.cells.toList = [v] := by cases v <;> first | rfl | exact absurd rfl (hna _)
      rw [hc] at h2
      match vs, h1, h2 with
      | [x], h1, h2 => exact ⟨x, h1, by have := (h2.2 0 x rfl).2; simpa using this⟩
      | [], h1, h2 => have := h2.1; simp at this
      | _ :: _ :: _, h1, h2 => have := h2.1; simp at this
    have nagg : ∀ {d : TypeDesc}, tb.desc t = some d → (∀ fs, d ≠ .struct fs) → (∀ m e, d ≠ .array m e) → ∀ cs, v ≠ .agg cs := by
      intro d hd hs ha cs e
      subst e
      rw [hok.desc _ _ hd] at hv
      split at hv
      · rename_i heq; cases heq; exact hs _ rfl
      · rename_i heq; cases heq; exact ha _ _ rfl
      · unfold Cell.okWide at hv
        rw [hok.desc _ _ hd] at hv
        cases d <;> simp [Cell.ok, hok.desc _ _ hd] at hv
    have agg : ∀ {d : TypeDesc}, tb.desc t = some d → (∃ cs, v = .agg cs) → ∃ x, (∃ cs, x = V.agg cs ∧ Ty tb (n + 1) t cs) ∧ ∀ ρ, VRel (allFroz ρ w) (fun _ => none) x v := by
      rintro d hd ⟨cs, rfl⟩
      exact ⟨.agg vs, ⟨vs, rfl, h1⟩, fun ρ => .agg (by have := h2.1; simp [Value.cells] at this; omega) (fun j u hj => (h2.2 j u hj).1) (fun j u hj => by
        have := (h2.2 j u hj).2 ρ
        simpa [Value.cells, List.getD_eq_getElem?_getD, Array.getD_eq_getD_getElem?] using this)⟩
    split at h
    all_goals first
      | (rename_i hd; simp only [hd, Option.map_some]; exact single hd (by simp) (by simp) (nagg hd (by simp) (by simp)))
      | (rename_i k hd; simp only [hd, Option.map_some]; exact single hd (by simp) (by simp) (nagg hd (by simp) (by simp)))
      | skip
    · rename_i fs hd
      simp only [hd, Option.map_some]
      rw [hok.desc _ _ hd] at hv
      obtain ⟨cs, hc, _⟩ := hv
      exact agg hd ⟨cs, hc⟩
    · rename_i m e hd
      simp only [hd, Option.map_some]
      rw [hok.desc _ _ hd] at hv
      obtain ⟨cs, hc, _⟩ := hv
      exact agg hd ⟨cs, hc⟩
    · exact absurd h (by simp)

include hok in
theorem args_of {n : Nat} {r : Reach} {b : Nat} : ∀ (ts : List TypeId) (vs : List Value) (ds : List (DataW H)) (ps : List MemPlace), ts.all (argTy tb n) = true → (∀ (j : Nat) t v, ts[j]? = some t → vs[j]? = some v → Value.okWide P w r b t v) →
    DataW.TrodAll enc P w 0 (fun _ => true) true ts vs ds ps → ∃ xs, TyArgs tb n ts xs ∧ vs.length = xs.length ∧ ∀ (j : Nat) x, xs[j]? = some x → ∀ ρ, VRel (allFroz ρ w) (fun _ => none) x (vs.getD j undef)
  | [], vs, ds, ps, _, _, h => by
    obtain ⟨rfl, _⟩ := trodAll_nil h
    exact ⟨[], rfl, rfl, fun j x hj => by simp at hj⟩
  | t :: ts, vs, ds, ps, ha, hv, h => by
    obtain ⟨v, vs', d, ds', p, q, rfl, rfl, _, h1, h2⟩ := trodAll_cons h
    simp only [List.all_cons, Bool.and_eq_true] at ha
    obtain ⟨x, hx1, hx2⟩ := argV_of hok ha.1 (hv 0 t v rfl rfl) h1
    obtain ⟨xs, h3, h4, h5⟩ := args_of ts vs' ds' q ha.2 (fun j t v ht hv' => hv (j + 1) t v (by simpa using ht) (by simpa using hv')) h2
    refine ⟨x :: xs, ⟨x, xs, rfl, hx1, h3⟩, by simp [h4], fun j u hj => ?_⟩
    cases j with
    | zero => simp at hj; subst hj; simpa using hx2
    | succ j => simp at hj; simpa using h5 j u hj
end

theorem rel0 (ρ : Nat → Value) (w : World) : Rel w.heap.size (allFroz ρ w) (fun _ => none) H0 w where
  ge := Nat.le_refl _
  keys := fun b k h => by simp [H0, Heap.get] at h
  froz := fun b o v h => h
  lt := fun b x h => by simp at h
  blk := fun b x k h => by simp at h
  free := fun b x k h => by simp at h
  inj := fun b x k b' x' k' h => by simp at h

theorem top_of (L : List (V × Heap)) : ∃ Lim, ∀ r, r ∈ L → r.2.next ≤ Lim := by
  induction L with
  | nil => exact ⟨0, fun r hr => by simp at hr⟩
  | cons x L ih =>
    obtain ⟨n, hn⟩ := ih
    refine ⟨max n x.2.next, fun r hr => ?_⟩
    rcases List.mem_cons.1 hr with rfl | hr
    · exact Nat.le_max_right _ _
    · exact Nat.le_trans (hn r hr) (Nat.le_max_left _ _)

/-- A value that is true. -/
def TrueV (ρ : Nat → Value) (v : V) : Prop := v = .val (.bool true) ∨ ∃ e, v = .sym .bool e ∧ e.truth ρ = true
theorem TrueV.rel {ρ : Nat → Value} {φ : Froz} {γ : Place} {v : V} {x : Value} (h : TrueV ρ v) (hρ : φ.rho = ρ) (hr : VRel φ γ v x) : x = .bool true := by
  rcases h with rfl | ⟨e, rfl, he⟩
  · cases hr; rfl
  · cases hr with
    | sym h1 => rw [h1, hρ, SE.val, he]

/-- The tables, with values for the unknown scalars. -/
def Tb.at (tb : Tb) (ρ : Nat → Value) : Tb := { tb with rho := ρ }
theorem Tb.Ok.at {P : Program} {tb : Tb} (h : tb.Ok P) (ρ : Nat → Value) : (tb.at ρ).Ok P := ⟨h.func, h.desc, h.info, h.mixed⟩
theorem Tb.Wf.at {tb : Tb} (h : tb.Wf) (ρ : Nat → Value) : (tb.at ρ).Wf := h

/-- The tables, with values for the unknown scalars, known functions and known loops. -/
def Tb.atS (tb : Tb) (ρ : Nat → Value) (sp : Nat → List V → Heap → Option (V × List (SE × Bool))) (lp : Nat → St → Option OTree) : Tb := { tb with rho := ρ, spec := sp, loopT := lp }
theorem Tb.Ok.atS {P : Program} {tb : Tb} (h : tb.Ok P) (ρ : Nat → Value) (sp lp) : (tb.atS ρ sp lp).Ok P := ⟨h.func, h.desc, h.info, h.mixed⟩
theorem LoopGood.none {P : Program} {tb : Tb} {nt : Nat} {d : Code} (h : ∀ k st, tb.loopT k st = none) : LoopGood P tb nt d := fun st t ht => by rw [h] at ht; exact absurd ht (by simp)
theorem SpecOk.none {P : Program} {tb : Tb} (h : ∀ f args H, tb.spec f args H = none) (h2 : ∀ k st, tb.loopT k st = none) : SpecOk P tb :=
  ⟨fun f args H r hr => by rw [h] at hr; exact absurd hr (by simp), fun _ _ _ _ _ _ _ => LoopGood.none h2⟩

/-- A value with unknown scalars in the place of what they are. -/
def SymOf (ρ : Nat → Value) (x y : V) : Prop := ∀ w v, VRel (allFroz ρ w) (fun _ => none) x v → VRel (allFroz ρ w) (fun _ => none) y v
theorem SymOf.refl (ρ : Nat → Value) (x : V) : SymOf ρ x x := fun _ _ h => h
theorem SymOf.int {ρ : Nat → Value} {k : IntKind} {i : Int} {e : SE} (h : e.num ρ = i) : SymOf ρ (.val (.int k i)) (.sym (.int k) e) := fun _ _ hv => by
  cases hv; exact .sym (by rw [← h]; rfl)
theorem SymOf.bool {ρ : Nat → Value} {b : Bool} {e : SE} (h : e.truth ρ = b) : SymOf ρ (.val (.bool b)) (.sym .bool e) := fun _ _ hv => by
  cases hv; exact .sym (by rw [← h]; rfl)
theorem SymOf.str {ρ : Nat → Value} {b : ByteArray} {e : SE} (h : e.text ρ = b) : SymOf ρ (.val (.string b)) (.sym .str e) := fun _ _ hv => by
  cases hv; exact .sym (by rw [← h]; rfl)
/-- Lists of values, one by one. -/
def SymAll (ρ : Nat → Value) : List V → List V → Prop
  | [], [] => True
  | x :: xs, y :: ys => (SymOf ρ x y ∧ (x.one = true → y.one = true)) ∧ SymAll ρ xs ys
  | _, _ => False
theorem SymAll.get {ρ : Nat → Value} : ∀ {xs ys : List V}, SymAll ρ xs ys → ys.length = xs.length ∧ ∀ (j : Nat) y, ys[j]? = some y → ∃ x, xs[j]? = some x ∧ SymOf ρ x y ∧ (x.one = true → y.one = true)
  | [], [], _ => ⟨rfl, fun j y hj => by simp at hj⟩
  | x :: xs, y :: ys, h => by
    obtain ⟨h1, h2⟩ := SymAll.get h.2
    refine ⟨by simp [h1], fun j u hj => ?_⟩
    cases j with
    | zero => simp at hj; subst hj; exact ⟨x, rfl, h.1.1, h.1.2⟩
    | succ j => simpa using h2 j u (by simpa using hj)
  | [], _ :: _, h => h.elim
  | _ :: _, [], h => h.elim
theorem SymOf.agg {ρ : Nat → Value} {xs ys : List V} (h : SymAll ρ xs ys) : SymOf ρ (.agg xs) (.agg ys) := fun w v hv => by
  cases hv with
  | agg h1 h2 h3 =>
    obtain ⟨h4, h5⟩ := h.get
    refine .agg (by rw [h1, h4]) (fun j u hj => ?_) (fun j u hj => ?_)
    · obtain ⟨x, hx, _, h6⟩ := h5 j u hj
      exact h6 (h2 j x hx)
    · obtain ⟨x, hx, h6, _⟩ := h5 j u hj
      exact h6 w _ (h3 j x hx)
theorem SymAll.refl (ρ : Nat → Value) : ∀ xs, SymAll ρ xs xs
  | [] => trivial
  | x :: xs => ⟨⟨SymOf.refl ρ x, id⟩, SymAll.refl ρ xs⟩

/-- What the interpreter tells of a law's call, in the model. -/
theorem law_calls {P : Program} {tb : Tb} (hok : tb.Ok P) (hwf : tb.Wf) (hsp : SpecOk P tb) {W : World} (hg : GlobOk (allFroz tb.rho W) tb) {f : FuncId} {args : Array Value} {xs : List V} (hl : args.size = xs.length) (hx : ∀ (j : Nat) x, xs[j]? = some x → VRel (allFroz tb.rho W) (fun _ => none) x (args.getD j undef))
    {m : Nat} {L : List (V × Heap)} (h : call P tb m f xs H0 = some L) (ht : ∀ r, r ∈ L → TrueV tb.rho r.1) :
    Calls P f args W (fun e W' => e = .returned (.bool true) ∧ Below W.heap.size W W') := by
  obtain ⟨Lim, hLim⟩ := top_of L
  refine ((call_sound hok hwf hsp m).1 f xs H0 L (call_lt h) h W.heap.size Lim (allFroz tb.rho W) (fun _ => none) W args (rel0 _ W) (Nat.le_refl _) hg hLim (fun _ _ _ => rfl) ⟨hl, hx⟩).mono ?_
  rintro e W' ⟨r, hr, φ', γ', cv, T, rfl, hs, hv⟩
  rw [(ht r hr).rel (show φ'.rho = tb.rho from hs.fle.rho) hv]
  exact ⟨rfl, hs.os, hs.tape, hs.output, hs.size, fun k hk => hs.fr k hk (fun b x hx => by simp at hx)⟩

section
variable {P : Program} {H : Type} {enc : TypeId × Value → H}

theorem trodAll_below {W W' : World} (hb : Below W.heap.size W W') {base : Nat} {spare : Nat → Bool} {held : Bool} : ∀ {ts : List TypeId} {vs : List Value} {ds : List (DataW H)} {ps : List MemPlace}, (∀ p ∈ ps, p.block < W.heap.size) → DataW.TrodAll enc P W base spare held ts vs ds ps → DataW.TrodAll enc P W' base spare held ts vs ds ps
  | [], [], [], _, _, h => h
  | _ :: _, _ :: _, _ :: _, _, hp, ⟨p, q, ⟨n, h1⟩, h2, e⟩ =>
    ⟨p, q, ⟨n, DataW.trod_carry n _ _ _ h1 (fun x hx => hb.same (hp x (by rw [e]; exact List.mem_append_left _ hx)))⟩, trodAll_below hb (fun x hx => hp x (by rw [e]; exact List.mem_append_right _ hx)) h2, e⟩

/-- The row's conclusion for a law that returns true and wrote to nothing. -/
theorem law_post {fn : Func} {s : ChangeSpec} {W W' : World} {args : Array Value} {ds gs : List (DataW H)} {before : List MemPlace} {t : TypeId} (K : Kids P (· < P.types.size)) (full : ∀ t e, t < P.types.size → P.underlying t = some (.slice e) → 0 < P.cellsOf e) (hpar : ∀ t ∈ fn.params.toList, t < P.types.size)
    (hres : fn.resultTypes = #[t]) (hu : P.underlying t = some .bool) (hv : s.vars = []) (hs : s.fn H ds = { results := [.lit (.bool true)], args := ds })
    (hW : DataW.Whole enc P fn.params.toList s.vars false W args.toList ds gs before) (hb : Below W.heap.size W W') : s.post enc P fn false true false false W args (.bool true) W' := by
  have hlt := hW.lt
  have hW' := hW
  obtain ⟨p, q, h1, h2, e, _, _⟩ := hW
  rw [hv] at h2
  obtain ⟨rfl, rfl⟩ := trodVars_none h2
  rw [List.append_nil] at e
  subst e
  have hsp : s.fn H (ds ++ []) = { results := [.lit (.bool true)], args := ds } := by rw [List.append_nil]; exact hs
  refine ⟨ds, [], before, [], before, [], hW', ?_, ?_, ?_, hb.frame _, fun h => by cases h⟩
  · rw [hsp, hres]
    exact trodAll_mk1 ⟨1, by simp [DataW.trod, Value.cells, hu]⟩
  · rw [hsp]
    exact DataW.TrodAll.respare K full hpar (trodAll_below hb hlt h1) (fun x hx => by simpa using hlt x hx)
  · rw [hsp, hv]
    exact rfl
end

/-- **A law that the interpreter shows true**, at values for the unknown scalars that may hang on the arguments. -/
theorem law_lift_sym {C : Checked} {tb : Tb} (hok : tb.Ok C.prog) (hwf : tb.Wf) (hg : ∀ g, tb.glob g = none) {os : Os} {f : FuncId} {fn : Func} {s : ChangeSpec} {conds : List PathCond} {t : TypeId} {n : Nat} {H : Type} {enc : TypeId × Value → H}
    (own : ownKnob C.prog.godebug = none) (started : os.Started) (noInit : C.prog.inits.idxOf? f = none) (hfn : C.prog.funcs[f]? = some fn)
    (witness : ∃ (w : World) (tape : Tape) (i : Input), w.os = os ∧ (w.forCall tape i).Shaped C.prog ∧ i.vars = [] ∧ Input.okWide C.prog (w.forCall tape i) .any w.heap.size f i ∧
      s.pre6 enc C.prog fn conds false (w.forCall tape i).memory i.args ∧ ({} : Assume).holds C.prog (lone (Frame.enter C.prog f i.args .normal) [] (w.forCall tape i)))
    (K : Kids C.prog (· < C.prog.types.size)) (full : ∀ t e, t < C.prog.types.size → C.prog.underlying t = some (.slice e) → 0 < C.prog.cellsOf e) (hpar : ∀ t ∈ fn.params.toList, t < C.prog.types.size)
    (hres : fn.resultTypes = #[t]) (hu : C.prog.underlying t = some .bool) (hv : s.vars = []) (hs : ∀ ds : List (DataW H), ds.length = fn.params.size → s.fn H ds = { results := [.lit (.bool true)], args := ds })
    (hty : fn.params.toList.all (argTy tb n) = true)
    (main : ∀ xs, TyArgs tb n fn.params.toList xs → ∃ ρ sp lp ys m L, SpecOk C.prog (tb.atS ρ sp lp) ∧ SymAll ρ xs ys ∧ call C.prog (tb.atS ρ sp lp) m f ys H0 = some L ∧ ∀ r, r ∈ L → TrueV ρ r.1) :
    ReturnsInHanded {} C os f .any (s.pre6 enc C.prog fn conds false) (s.post enc C.prog fn false true false false) := by
  refine returnsInHanded_of_change_sized own started noInit hfn witness ?_
  intro W base args ds gs before hval hW _ _ _
  have hW0 := hW
  obtain ⟨p, q, h1, h2, _, _, _⟩ := hW
  obtain ⟨xs, h3, h4, h5⟩ := args_of hok (n := n) fn.params.toList args.toList ds p hty (fun j t v ht hv' => hval j t v (by simpa using ht) (by simpa using hv')) h1
  obtain ⟨ρ, sp, lp, ys, m, L, hsp, hsy, h6, h7⟩ := main xs h3
  obtain ⟨hyl, hsy⟩ := hsy.get
  have hlen : ds.length = fn.params.size := by
    have : ∀ {ts : List TypeId} {vs : List Value} {ds : List (DataW H)} {ps : List MemPlace}, DataW.TrodAll enc C.prog W 0 (fun _ => true) true ts vs ds ps → ds.length = ts.length := by
      intro ts
      induction ts with
      | nil => intro vs ds ps h; obtain ⟨_, rfl, _⟩ := trodAll_nil h; rfl
      | cons t ts ih => intro vs ds ps h; obtain ⟨v, vs', d, ds', p, q, rfl, rfl, _, _, h2⟩ := trodAll_cons h; simp [ih h2]
    simpa using this h1
  refine (law_calls (tb := tb.atS ρ sp lp) (hok.atS ρ sp lp) hwf hsp (W := W) ⟨fun g l hgl => by rw [show (tb.atS ρ sp lp).glob g = tb.glob g from rfl, hg] at hgl; exact absurd hgl (by simp), rfl⟩ (by rw [hyl]; simpa using h4) (fun j y hj => by
    obtain ⟨x, hx, hxy, _⟩ := hsy j y hj
    have := hxy W _ (h5 j x hx ρ)
    show VRel (allFroz ρ W) _ _ _
    simpa [List.getD_eq_getElem?_getD, Array.getD_eq_getD_getElem?] using this) h6 h7).mono ?_
  rintro e W' ⟨rfl, hb⟩
  exact ⟨_, rfl, law_post K full hpar hres hu hv (hs ds hlen) hW0 hb⟩

/-- **A law that the interpreter shows true.** -/
theorem law_lift {C : Checked} {tb : Tb} (hok : tb.Ok C.prog) (hwf : tb.Wf) (hg : ∀ g, tb.glob g = none) {os : Os} {f : FuncId} {fn : Func} {s : ChangeSpec} {conds : List PathCond} {t : TypeId} {n : Nat} {H : Type} {enc : TypeId × Value → H}
    (own : ownKnob C.prog.godebug = none) (started : os.Started) (noInit : C.prog.inits.idxOf? f = none) (hfn : C.prog.funcs[f]? = some fn)
    (witness : ∃ (w : World) (tape : Tape) (i : Input), w.os = os ∧ (w.forCall tape i).Shaped C.prog ∧ i.vars = [] ∧ Input.okWide C.prog (w.forCall tape i) .any w.heap.size f i ∧
      s.pre6 enc C.prog fn conds false (w.forCall tape i).memory i.args ∧ ({} : Assume).holds C.prog (lone (Frame.enter C.prog f i.args .normal) [] (w.forCall tape i)))
    (K : Kids C.prog (· < C.prog.types.size)) (full : ∀ t e, t < C.prog.types.size → C.prog.underlying t = some (.slice e) → 0 < C.prog.cellsOf e) (hpar : ∀ t ∈ fn.params.toList, t < C.prog.types.size)
    (hres : fn.resultTypes = #[t]) (hu : C.prog.underlying t = some .bool) (hv : s.vars = []) (hs : ∀ ds : List (DataW H), ds.length = fn.params.size → s.fn H ds = { results := [.lit (.bool true)], args := ds })
    (hty : fn.params.toList.all (argTy tb n) = true) (hns : ∀ f args H, tb.spec f args H = none) (hnl : ∀ k st, tb.loopT k st = none)
    (main : ∀ xs, TyArgs tb n fn.params.toList xs → ∃ m L, call C.prog tb m f xs H0 = some L ∧ ∀ r, r ∈ L → r.1 = .val (.bool true)) :
    ReturnsInHanded {} C os f .any (s.pre6 enc C.prog fn conds false) (s.post enc C.prog fn false true false false) := 
  law_lift_sym hok hwf hg own started noInit hfn witness K full hpar hres hu hv hs hty (fun xs h =>
    let ⟨m, L, h1, h2⟩ := main xs h
    ⟨tb.rho, tb.spec, tb.loopT, xs, m, L, SpecOk.none hns hnl, SymAll.refl _ _, h1, fun r hr => .inl (h2 r hr)⟩)

end
end Go.Sx
