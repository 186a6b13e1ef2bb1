/- A law that returns true: from the interpreter's word to the row's form. -/
import Derived.Test.YtkbfhbghnfhgmabSx17
set_option linter.unusedVariables false
set_option linter.unusedSimpArgs false
namespace Go.Sx
open Go.ChangeShapes Go.WideShapes Go.ChangeAt Go.RowKit

def TyV (tb : Tb) (n : Nat) (t : TypeId) (x : V) : Prop :=
  match tb.agg t with
  | some true => ∃ cs, x = .agg cs ∧ Ty tb n t cs
  | some false => Ty tb n t [x]
  | none => False

/-- Arguments of their types. -/
def TyArgs (tb : Tb) (n : Nat) : List TypeId → List V → Prop
  | [], xs => xs = []
  | t :: ts, xs => ∃ x xs', xs = x :: xs' ∧ TyV tb n t x ∧ TyArgs tb n ts xs'

section
variable {P : Program} {tb : Tb} (hok : tb.Ok P) {H : Type} {enc : TypeId × Value → H} {w : World}

include hok in
theorem argV_of {n : Nat} {t : TypeId} (h : argTy tb n t = true) {r : Reach} {b : Nat} {v : Value} {d : DataW H} {ps : List MemPlace} (hv : Value.okWide P w r b t v) (ht : DataW.Trod enc P w 0 (fun _ => true) true t v d ps) :
    ∃ x, TyV tb n t x ∧ VRel (allFroz w) (fun _ => none) x v := by
  obtain ⟨fuel, hf⟩ := ht
  obtain ⟨vs, h1, h2⟩ := cells_of hok n fuel t _ _ h hf
  match n, h with
  | n + 1, h =>
    unfold TyV Tb.agg
    unfold argTy at h
    unfold Value.okWide at hv
    have single : ∀ {d : TypeDesc}, tb.desc t = some d → (∀ fs, d ≠ .struct fs) → (∀ m e, d ≠ .array m e) → (∀ cs, v ≠ .agg cs) → ∃ x, Ty tb (n + 1) t [x] ∧ VRel (allFroz w) (fun _ => none) x v := by
      intro d hd hs ha hna
      have hc : v.cells.toList = [v] := by cases v <;> first | rfl | exact absurd rfl (hna _)
      rw [hc] at h2
      match vs, h1, h2 with
      | [x], h1, h2 => exact ⟨x, h1, by have := (h2.2 0 x rfl).2; simpa using this⟩
      | [], h1, h2 => have := h2.1; simp at this
      | _ :: _ :: _, h1, h2 => have := h2.1; simp at this
    have nagg : ∀ {d : TypeDesc}, tb.desc t = some d → (∀ fs, d ≠ .struct fs) → (∀ m e, d ≠ .array m e) → ∀ cs, v ≠ .agg cs := by
      intro d hd hs ha cs e
      subst e
      rw [hok.desc _ _ hd] at hv
      split at hv
      · rename_i heq; cases heq; exact hs _ rfl
      · rename_i heq; cases heq; exact ha _ _ rfl
      · unfold Cell.okWide at hv
        rw [hok.desc _ _ hd] at hv
        cases d <;> simp [Cell.ok, hok.desc _ _ hd] at hv
    have agg : ∀ {d : TypeDesc}, tb.desc t = some d → (∃ cs, v = .agg cs) → ∃ x, (∃ cs, x = V.agg cs ∧ Ty tb (n + 1) t cs) ∧ VRel (allFroz w) (fun _ => none) x v := by
      rintro d hd ⟨cs, rfl⟩
      exact ⟨.agg vs, ⟨vs, rfl, h1⟩, .agg (by have := h2.1; simp [Value.cells] at this; omega) (fun j u hj => (h2.2 j u hj).1) (fun j u hj => by
        have := (h2.2 j u hj).2
        simpa [Value.cells, List.getD_eq_getElem?_getD, Array.getD_eq_getD_getElem?] using this)⟩
    split at h
    all_goals first
      | (rename_i hd; simp only [hd, Option.map_some]; exact single hd (by simp) (by simp) (nagg hd (by simp) (by simp)))
      | (rename_i k hd; simp only [hd, Option.map_some]; exact single hd (by simp) (by simp) (nagg hd (by simp) (by simp)))
      | skip
    · rename_i fs hd
      simp only [hd, Option.map_some]
      rw [hok.desc _ _ hd] at hv
      obtain ⟨cs, hc, _⟩ := hv
      exact agg hd ⟨cs, hc⟩
    · rename_i m e hd
      simp only [hd, Option.map_some]
      rw [hok.desc _ _ hd] at hv
      obtain ⟨cs, hc, _⟩ := hv
      exact agg hd ⟨cs, hc⟩
    · exact absurd h (by simp)

include hok in
theorem args_of {n : Nat} {r : Reach} {b : Nat} : ∀ (ts : List TypeId) (vs : List Value) (ds : List (DataW H)) (ps : List MemPlace), ts.all (argTy tb n) = true → (∀ (j : Nat) t v, ts[j]? = some t → vs[j]? = some v → Value.okWide P w r b t v) →
    DataW.TrodAll enc P w 0 (fun _ => true) true ts vs ds ps → ∃ xs, TyArgs tb n ts xs ∧ vs.length = xs.length ∧ ∀ (j : Nat) x, xs[j]? = some x → VRel (allFroz w) (fun _ => none) x (vs.getD j undef)
  | [], vs, ds, ps, _, _, h => by
    obtain ⟨rfl, _⟩ := trodAll_nil h
    exact ⟨[], rfl, rfl, fun j x hj => by simp at hj⟩
  | t :: ts, vs, ds, ps, ha, hv, h => by
    obtain ⟨v, vs', d, ds', p, q, rfl, rfl, _, h1, h2⟩ := trodAll_cons h
    simp only [List.all_cons, Bool.and_eq_true] at ha
    obtain ⟨x, hx1, hx2⟩ := argV_of hok ha.1 (hv 0 t v rfl rfl) h1
    obtain ⟨xs, h3, h4, h5⟩ := args_of ts vs' ds' q ha.2 (fun j t v ht hv' => hv (j + 1) t v (by simpa using ht) (by simpa using hv')) h2
    refine ⟨x :: xs, ⟨x, xs, rfl, hx1, h3⟩, by simp [h4], fun j u hj => ?_⟩
    cases j with
    | zero => simp at hj; subst hj; simpa using hx2
    | succ j => simp at hj; simpa using h5 j u hj
end

/-- The heap before a law runs. -/
def H0 : Heap := ⟨.leaf, 0, 0, none⟩

theorem rel0 (w : World) : Rel w.heap.size (allFroz w) (fun _ => none) H0 w where
  ge := Nat.le_refl _
  keys := fun b k h => by simp [H0, Heap.get] at h
  froz := fun b o v h => h
  lt := fun b x h => by simp at h
  blk := fun b x k h => by simp at h
  free := fun b x k h => by simp at h
  inj := fun b x k b' x' k' h => by simp at h

theorem top_of (L : List (V × Heap)) : ∃ Lim, ∀ r, r ∈ L → r.2.next ≤ Lim := by
  induction L with
  | nil => exact ⟨0, fun r hr => by simp at hr⟩
  | cons x L ih =>
    obtain ⟨n, hn⟩ := ih
    refine ⟨max n x.2.next, fun r hr => ?_⟩
    rcases List.mem_cons.1 hr with rfl | hr
    · exact Nat.le_max_right _ _
    · exact Nat.le_trans (hn r hr) (Nat.le_max_left _ _)

/-- What the interpreter tells of a law's call, in the model. -/
theorem law_calls {P : Program} {tb : Tb} (hok : tb.Ok P) (hwf : tb.Wf) {W : World} (hg : GlobOk (allFroz W) tb) {f : FuncId} {args : Array Value} {xs : List V} (hl : args.size = xs.length) (hx : ∀ (j : Nat) x, xs[j]? = some x → VRel (allFroz W) (fun _ => none) x (args.getD j undef))
    {m : Nat} {L : List (V × Heap)} (h : call P tb m f xs H0 = some L) (ht : ∀ r, r ∈ L → r.1 = .val (.bool true)) :
    Calls P f args W (fun e W' => e = .returned (.bool true) ∧ Below W.heap.size W W') := by
  obtain ⟨Lim, hLim⟩ := top_of L
  refine (call_sound hok hwf m f xs H0 L h W.heap.size Lim (allFroz W) (fun _ => none) W args (rel0 W) (Nat.le_refl _) hg hLim (fun _ _ _ => rfl) ⟨hl, hx⟩).mono ?_
  rintro e W' ⟨r, hr, φ', γ', cv, T, rfl, hs, hv⟩
  rw [ht r hr] at hv
  cases hv
  exact ⟨rfl, hs.os, hs.tape, hs.output, hs.size, fun k hk => hs.fr k hk (fun b x hx => by simp at hx)⟩

section
variable {P : Program} {H : Type} {enc : TypeId × Value → H}

theorem trodAll_below {W W' : World} (hb : Below W.heap.size W W') {base : Nat} {spare : Nat → Bool} {held : Bool} : ∀ {ts : List TypeId} {vs : List Value} {ds : List (DataW H)} {ps : List MemPlace}, (∀ p ∈ ps, p.block < W.heap.size) → DataW.TrodAll enc P W base spare held ts vs ds ps → DataW.TrodAll enc P W' base spare held ts vs ds ps
  | [], [], [], _, _, h => h
  | _ :: _, _ :: _, _ :: _, _, hp, ⟨p, q, ⟨n, h1⟩, h2, e⟩ =>
    ⟨p, q, ⟨n, DataW.trod_carry n _ _ _ h1 (fun x hx => hb.same (hp x (by rw [e]; exact List.mem_append_left _ hx)))⟩, trodAll_below hb (fun x hx => hp x (by rw [e]; exact List.mem_append_right _ hx)) h2, e⟩

/-- The row's conclusion for a law that returns true and wrote to nothing. -/
theorem law_post {fn : Func} {s : ChangeSpec} {W W' : World} {args : Array Value} {ds gs : List (DataW H)} {before : List MemPlace} {t : TypeId} (K : Kids P (· < P.types.size)) (full : ∀ t e, t < P.types.size → P.underlying t = some (.slice e) → 0 < P.cellsOf e) (hpar : ∀ t ∈ fn.params.toList, t < P.types.size)
    (hres : fn.resultTypes = #[t]) (hu : P.underlying t = some .bool) (hv : s.vars = []) (hs : s.fn H ds = { results := [.lit (.bool true)], args := ds })
    (hW : DataW.Whole enc P fn.params.toList s.vars false W args.toList ds gs before) (hb : Below W.heap.size W W') : s.post enc P fn false true false false W args (.bool true) W' := by
  have hlt := hW.lt
  have hW' := hW
  obtain ⟨p, q, h1, h2, e, _, _⟩ := hW
  rw [hv] at h2
  obtain ⟨rfl, rfl⟩ := trodVars_none h2
  rw [List.append_nil] at e
  subst e
  have hsp : s.fn H (ds ++ []) = { results := [.lit (.bool true)], args := ds } := by rw [List.append_nil]; exact hs
  refine ⟨ds, [], before, [], before, [], hW', ?_, ?_, ?_, hb.frame _, fun h => by cases h⟩
  · rw [hsp, hres]
    exact trodAll_mk1 ⟨1, by simp [DataW.trod, Value.cells, hu]⟩
  · rw [hsp]
    exact DataW.TrodAll.respare K full hpar (trodAll_below hb hlt h1) (fun x hx => by simpa using hlt x hx)
  · rw [hsp, hv]
    exact rfl
end

/-- **A law that the interpreter shows true.** -/
theorem law_lift {C : Checked} {tb : Tb} (hok : tb.Ok C.prog) (hwf : tb.Wf) (hg : ∀ g, tb.glob g = none) {os : Os} {f : FuncId} {fn : Func} {s : ChangeSpec} {conds : List PathCond} {t : TypeId} {n : Nat} {H : Type} {enc : TypeId × Value → H}
    (own : ownKnob C.prog.godebug = none) (started : os.Started) (noInit : C.prog.inits.idxOf? f = none) (hfn : C.prog.funcs[f]? = some fn)
    (witness : ∃ (w : World) (tape : Tape) (i : Input), w.os = os ∧ (w.forCall tape i).Shaped C.prog ∧ i.vars = [] ∧ Input.okWide C.prog (w.forCall tape i) .any w.heap.size f i ∧
      s.pre6 enc C.prog fn conds false (w.forCall tape i).memory i.args ∧ ({} : Assume).holds C.prog (lone (Frame.enter C.prog f i.args .normal) [] (w.forCall tape i)))
    (K : Kids C.prog (· < C.prog.types.size)) (full : ∀ t e, t < C.prog.types.size → C.prog.underlying t = some (.slice e) → 0 < C.prog.cellsOf e) (hpar : ∀ t ∈ fn.params.toList, t < C.prog.types.size)
    (hres : fn.resultTypes = #[t]) (hu : C.prog.underlying t = some .bool) (hv : s.vars = []) (hs : ∀ ds : List (DataW H), ds.length = fn.params.size → s.fn H ds = { results := [.lit (.bool true)], args := ds })
    (hty : fn.params.toList.all (argTy tb n) = true)
    (main : ∀ xs, TyArgs tb n fn.params.toList xs → ∃ m L, call C.prog tb m f xs H0 = some L ∧ ∀ r, r ∈ L → r.1 = .val (.bool true)) :
    ReturnsInHanded {} C os f .any (s.pre6 enc C.prog fn conds false) (s.post enc C.prog fn false true false false) := by
  refine returnsInHanded_of_change_sized own started noInit hfn witness ?_
  intro W base args ds gs before hval hW _ _ _
  have hW0 := hW
  obtain ⟨p, q, h1, h2, _, _, _⟩ := hW
  obtain ⟨xs, h3, h4, h5⟩ := args_of hok (n := n) fn.params.toList args.toList ds p hty (fun j t v ht hv' => hval j t v (by simpa using ht) (by simpa using hv')) h1
  obtain ⟨m, L, h6, h7⟩ := main xs h3
  have hlen : ds.length = fn.params.size := by
    have : ∀ {ts : List TypeId} {vs : List Value} {ds : List (DataW H)} {ps : List MemPlace}, DataW.TrodAll enc C.prog W 0 (fun _ => true) true ts vs ds ps → ds.length = ts.length := by
      intro ts
      induction ts with
      | nil => intro vs ds ps h; obtain ⟨_, rfl, _⟩ := trodAll_nil h; rfl
      | cons t ts ih => intro vs ds ps h; obtain ⟨v, vs', d, ds', p, q, rfl, rfl, _, _, h2⟩ := trodAll_cons h; simp [ih h2]
    simpa using this h1
  refine (law_calls hok hwf (W := W) (fun g l hgl => by rw [hg] at hgl; exact absurd hgl (by simp)) (by simpa using h4) (fun j x hj => by
    have := h5 j x hj
    simpa [List.getD_eq_getElem?_getD, Array.getD_eq_getD_getElem?] using this) h6 h7).mono ?_
  rintro e W' ⟨rfl, hb⟩
  exact ⟨_, rfl, law_post K full hpar hres hu hv (hs ds hlen) hW0 hb⟩

end Go.Sx
