/- Laws whose row lists package variables: their cells, the lifted law. -/
import Derived.Test.YtaidiaiedhbaoaaSx24
import Derived.Handed
import Derived.LaidLaws
import Derived.LaidHandle
import Derived.LaidSub
import Derived.MakeChecks
import Derived.ChangeVars
import Derived.JoinedOf
/- Laws whose row lists package variables: their cells, the lifted law. -/
set_option linter.unusedVariables false
set_option linter.unusedSimpArgs false
namespace Go.Sx
noncomputable section
open Go.ChangeShapes Go.WideShapes Go.ChangeAt Go.RowKit

theorem int_of_trod {H : Type} {enc : TypeId × Value → H} {P : Program} {w : World} {base : Nat} {sp : Nat → Bool} {held : Bool} {fuel : Nat} {t : TypeId} {k : IntKind} {c : Value} {y : DataW H × List MemPlace}
    (ht : P.underlying t = some (.int k)) (h : DataW.trod enc P w base sp held fuel t [c] = some y) : ∃ n, c = .int k n ∧ y.1 = .lit (.int k n) := by
  obtain ⟨n, h1, h2, _⟩ := DataW.trod_int ht h
  refine ⟨n, by simpa using h1, ?_⟩
  rw [h2]

/-- An array of numbers, read as such, holds them. -/
theorem ints_of_trod {H : Type} {enc : TypeId × Value → H} {P : Program} {w : World} {base : Nat} {sp : Nat → Bool} {held : Bool} {fuel : Nat} {t e : TypeId} {k : IntKind} {n : Nat} {cs : List Value} {ns : List Int} {p : List MemPlace}
    (ht : P.underlying t = some (.array n e)) (he : P.underlying e = some (.int k)) (hc : P.cellsOf e = 1) (hct : P.cellsOf t = n) (h : DataW.trod enc P w base sp held fuel t cs = some (.agg (ns.map fun i => .lit (.int k i)), p)) : cs = ns.map (.int k) := by
  obtain ⟨xs, m, rfl, hx, hl, hn, hi⟩ := DataW.trod_array ht h
  simp only [Prod.mk.injEq, DataW.agg.injEq] at hx
  have hlen : ns.length = n := by
    have := congrArg List.length hx.1
    simp at this
    omega
  rw [hct] at hl
  apply List.ext_getElem?
  intro i
  by_cases hin : i < n
  · have h1 := hi i hin
    rw [hc, Nat.mul_one] at h1
    have h2 : (cs.drop i).take 1 = [cs[i]'(by omega)] := by
      rw [List.drop_eq_getElem_cons (by omega)]
      rfl
    rw [h2, List.getElem?_eq_getElem (by omega)] at h1
    obtain ⟨v, h3, h4⟩ := int_of_trod he h1
    rw [List.getElem?_eq_getElem (by omega), h3, List.getElem?_map, List.getElem?_eq_getElem (by omega)]
    have h5 := congrArg (fun l : List (DataW H) => l[i]?) hx.1
    simp only [List.getElem?_map] at h5
    rw [List.getElem?_eq_getElem (by omega), List.getElem?_eq_getElem (by omega)] at h5
    simp only [Option.map_some, Option.some.injEq] at h5
    rw [h4] at h5
    simp only [DataW.lit.injEq, Lit.int.injEq] at h5
    simp [h5.2]
  · rw [List.getElem?_eq_none (by omega), List.getElem?_eq_none (by simp; omega)]

theorem LaidVars_mem {P : Program} {w : World} {n : String} {d : DataW Unit} : ∀ {l : List (String × DataW Unit)} {ps : List MemPlace}, DataW.LaidVars P w l ps → (n, d) ∈ l →
    ∃ g t cs fuel p, P.globalNamed n = some g ∧ (P.globals[g]?).map (·.type) = some t ∧ w.var? P n = some cs ∧ DataW.trod (fun _ => ()) P w 0 (fun _ => true) false fuel t cs.toList = some (d, p)
  | [], _, _, h => by simp at h
  | (n', d') :: l, ps, hv, h => by
    obtain ⟨g, t, cs, fuel, p, q, h1, h2, h3, h4, h5, _⟩ := hv
    rcases List.mem_cons.1 h with h | h
    · cases h
      exact ⟨g, t, cs, fuel, p, h1, h2, h3, h4⟩
    · exact LaidVars_mem h5 h

/-- The cells of a listed array of numbers. -/
theorem laid_ints {P : Program} {W : World} {laid : List (String × DataW Unit)} (hp : (laid.all fun x => x.2.handleName?.isNone) = true) (h : laidMetH P laid W) {name : String} {ns : List Int} {k : IntKind} {g : Nat} {t e : TypeId} {n : Nat} (hm : (name, DataW.agg (ns.map fun i => DataW.lit (.int k i))) ∈ laid)
    (hg : P.globalNamed name = some g) (hgt : (P.globals[g]?).map (·.type) = some t) (ht : P.underlying t = some (.array n e)) (he : P.underlying e = some (.int k)) (hc : P.cellsOf e = 1) (hct : P.cellsOf t = n) :
    ∀ j v, (ns.map (Value.int k))[j]? = some v → W.cell? ⟨g, j, none⟩ = some v := by
  rw [MakeChecks.laidMetH_plain P laid W hp] at h
  obtain ⟨ps, hv, _⟩ := h
  obtain ⟨g', t', cs, fuel, p, h1, h2, h3, h4⟩ := LaidVars_mem hv hm
  obtain rfl := Option.some.inj (hg.symm.trans h1)
  obtain rfl := Option.some.inj (hgt.symm.trans h2)
  have hcs := ints_of_trod ht he hc hct h4
  intro j v hj
  have := World.var?_cell hg h3 j
  rw [this]
  rw [← hcs] at hj
  simpa using hj

/-- **A law that the interpreter shows true**, over listed package variables. -/
theorem law_lift_laid {C : Checked} {tb : Tb} (hok : tb.Ok C.prog) (hwf : tb.Wf) {laid : List (String × DataW Unit)} (hp : (laid.all fun x => x.2.handleName?.isNone) = true) (hg : ∀ W, laidMetH C.prog laid W → ∀ g l, tb.glob g = some l → ∀ j v, l[j]? = some v → W.cell? ⟨g, j, none⟩ = some v)
    {os : Os} {f : FuncId} {fn : Func} {s : ChangeSpec} {conds : List PathCond} {t : TypeId} {n : Nat} {H : Type} {enc : TypeId × Value → H}
    (own : ownKnob C.prog.godebug = none) (started : os.Started) (noInit : C.prog.inits.idxOf? f = none) (hfn : C.prog.funcs[f]? = some fn)
    (witness : ∃ (w : World) (tape : Tape) (i : Input), w.os = os ∧ (w.forCall tape i).Shaped C.prog ∧ i.vars = [] ∧ Input.okWide C.prog (w.forCall tape i) .any w.heap.size f i ∧
      ((s.pre enc C.prog fn conds false (w.forCall tape i).memory i.args ∧ laidMetH C.prog laid (w.forCall tape i).memory) ∧ sizedMet enc C.prog fn (OpenSpec.ofChange s) false (w.forCall tape i).memory i.args) ∧ ({} : Assume).holds C.prog (lone (Frame.enter C.prog f i.args .normal) [] (w.forCall tape i)))
    (K : Kids C.prog (· < C.prog.types.size)) (full : ∀ t e, t < C.prog.types.size → C.prog.underlying t = some (.slice e) → 0 < C.prog.cellsOf e) (hpar : ∀ t ∈ fn.params.toList, t < C.prog.types.size)
    (hres : fn.resultTypes = #[t]) (hu : C.prog.underlying t = some .bool) (hv : s.vars = []) (hs : ∀ ds : List (DataW H), ds.length = fn.params.size → s.fn H ds = { results := [.lit (.bool true)], args := ds })
    (hty : fn.params.toList.all (argTy tb n) = true)
    (main : ∀ xs, TyArgs tb n fn.params.toList xs → ∃ ρ sp lp ys m L, SpecOk C.prog (tb.atS ρ sp lp) ∧ SymAll ρ xs ys ∧ call C.prog (tb.atS ρ sp lp) m f ys H0 = some L ∧ ∀ r, r ∈ L → TrueV ρ r.1) :
    ReturnsInHanded {} C os f .any (fun w args => (s.pre enc C.prog fn conds false w args ∧ laidMetH C.prog laid w) ∧ sizedMet enc C.prog fn (OpenSpec.ofChange s) false w args) (s.post enc C.prog fn false true false false) := by
  refine returnsInHanded_of_change_and (X := fun w _ => laidMetH C.prog laid w) (fun _ _ _ hh h => by rw [MakeChecks.laidMetH_plain _ _ _ hp] at h ⊢; exact h.of_heap hh) own started noInit hfn witness ?_
  intro W base args ds gs before hval hW _ _ hL _
  have hW0 := hW
  obtain ⟨p, q, h1, h2, _, _, _⟩ := hW
  obtain ⟨xs, h3, h4, h5⟩ := args_of hok (n := n) fn.params.toList args.toList ds p hty (fun j t v ht hv' => hval j t v (by simpa using ht) (by simpa using hv')) h1
  obtain ⟨ρ, sp, lp, ys, m, L, hsp, hsy, h6, h7⟩ := main xs h3
  obtain ⟨hyl, hsy⟩ := hsy.get
  have hlen : ds.length = fn.params.size := by
    have : ∀ {ts : List TypeId} {vs : List Value} {ds : List (DataW H)} {ps : List MemPlace}, DataW.TrodAll enc C.prog W 0 (fun _ => true) true ts vs ds ps → ds.length = ts.length := by
      intro ts
      induction ts with
      | nil => intro vs ds ps h; obtain ⟨_, rfl, _⟩ := trodAll_nil h; rfl
      | cons t ts ih => intro vs ds ps h; obtain ⟨v, vs', d, ds', p, q, rfl, rfl, _, _, h2⟩ := trodAll_cons h; simp [ih h2]
    simpa using this h1
  refine (law_calls (tb := tb.atS ρ sp lp) (hok.atS ρ sp lp) hwf hsp (W := W) ⟨fun g l hgl => hg W hL g l hgl, rfl⟩ (by rw [hyl]; simpa using h4) (fun j y hj => by
    obtain ⟨x, hx, hxy, _⟩ := hsy j y hj
    have := hxy W _ (h5 j x hx ρ)
    show VRel (allFroz ρ W) _ _ _
    simpa [List.getD_eq_getElem?_getD, Array.getD_eq_getD_getElem?] using this) h6 h7).mono ?_
  rintro e W' ⟨rfl, hb⟩
  exact ⟨_, rfl, law_post K full hpar hres hu hv (hs ds hlen) hW0 hb⟩

end
end Go.Sx
