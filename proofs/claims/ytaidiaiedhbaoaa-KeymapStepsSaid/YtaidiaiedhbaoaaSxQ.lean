/- Known loops, as a list. -/
import Derived.Test.YtaidiaiedhbaoaaSxP
/- Known loops, as a list. -/
set_option linter.unusedVariables false
set_option linter.unusedSimpArgs false
namespace Go.Sx
noncomputable section

/-- A loop that is known from a state on: its number, the state, where it goes. -/
structure LoopE where
  key : Nat
  ent : St
  tree : OTree
def LoopE.fits (e : LoopE) (k : Nat) (st : St) : Bool := Nat.beq k e.key && sameSt st e.ent
def lpOf : List LoopE → Nat → St → Option OTree
  | [] => fun _ _ => none
  | e :: l => fun k st => if e.fits k st then some e.tree else lpOf l k st
theorem lpOf_mem : ∀ {l : List LoopE} {k : Nat} {st : St} {t : OTree}, lpOf l k st = some t → ∃ e, e ∈ l ∧ e.fits k st = true ∧ t = e.tree
  | [], k, st, t, h => by simp [lpOf] at h
  | e :: l, k, st, t, h => by
    simp only [lpOf] at h
    split at h
    · rename_i hc
      cases h
      exact ⟨e, List.mem_cons_self, hc, rfl⟩
    · obtain ⟨e', h1, h2⟩ := lpOf_mem h
      exact ⟨e', List.mem_cons_of_mem _ h1, h2⟩

def LoopEOk (P : Program) (tb : Tb) (nt : Nat) (d : Code) (e : LoopE) : Prop := SoundAt P tb nt (.code (.loop d)) e.ent [e.tree.eval tb.rho e.ent.h]
theorem SoundAt.tb {P : Program} {tb tb' : Tb} (hgl : tb'.glob = tb.glob) (hrho : tb'.rho = tb.rho) {nt : Nat} {tk : Tk} {st : St} {L : List (Ex × St)} (h : SoundAt P tb nt tk st L) : SoundAt P tb' nt tk st L :=
  fun N Lim M0 ro ds φ γ w a hr hg hM0 hmk hfr hb hlim hf => h N Lim M0 ro ds φ γ w a hr ⟨by rw [← hgl]; exact hg.at_, hg.rho.trans hrho⟩ hM0 hmk hfr hb hlim hf

/-- **Known functions and known loops.** -/
theorem specL_of {P : Program} {tb : Tb} {ρ : Nat → Value} {sp : Nat → List V → Heap → Option (V × List (SE × Bool))} {lp0 : Nat → St → Option OTree} {l : List LoopE} (hsp : SpecOk P (tb.atS ρ sp lp0))
    (h : ∀ f fn c, tb.func f = some fn → fn.body = some c → ∀ d, d ∈ loopsOf c → ∀ e, e ∈ l → loopK d = e.key → LoopEOk P (tb.atS ρ sp lp0) fn.ntmps d e) : SpecOk P (tb.atS ρ sp (lpOf l)) where
  fns f args H r hr := ⟨(hsp.fns f args H r hr).1, (hsp.fns f args H r hr).2.1, fun N φ γ w args' hR hg ha => (hsp.fns f args H r hr).2.2 N φ γ w args' hR ⟨hg.at_, hg.rho⟩ ha⟩
  loops f fn c hfn hc d hd := by
    intro st t ht
    have ht : lpOf l (loopK d) st = some t := ht
    obtain ⟨e, he, hf, rfl⟩ := lpOf_mem ht
    unfold LoopE.fits at hf
    rw [Bool.and_eq_true] at hf
    have hs := sameSt_eq hf.2
    subst hs
    have h1 : SoundAt P (tb.atS ρ sp lp0) fn.ntmps (.code (.loop d)) e.ent [e.tree.eval ρ e.ent.h] := h f fn c hfn hc d hd e he (Nat.eq_of_beq_eq_true hf.1)
    exact SoundAt.tb (tb := tb.atS ρ sp lp0) (tb' := tb.atS ρ sp (lpOf l)) rfl rfl h1

/-- The ways out as a tree: by conditions, the last one without. -/
def treeOf (nx : Nat) : List (Ex × Env × List (Nat × Blk)) → List SE → OTree
  | [], _ => .leaf .normal .leaf [] 0
  | o :: _, [] => .leaf o.1 o.2.1 o.2.2 nx
  | o :: os, c :: cs => .node c (.leaf o.1 o.2.1 o.2.2 nx) (treeOf nx os cs)
def LoopD.loopE (D : LoopD) (key : Nat) (cs : List SE) : LoopE := ⟨key, D.ent, treeOf D.nx D.outs cs⟩
/-- Which way out the conditions choose. -/
def wayOf (ρ : Nat → Value) : List SE → Nat
  | [] => 0
  | c :: cs => if c.truth ρ then 0 else wayOf ρ cs + 1
theorem treeOf_eval (ρ : Nat → Value) (D : LoopD) : ∀ {os : List (Ex × Env × List (Nat × Blk))} {cs : List SE} {o : Ex × Env × List (Nat × Blk)}, os[wayOf ρ cs]? = some o → (treeOf D.nx os cs).eval ρ D.ent.h = D.out o
  | [], cs, o, h => by simp at h
  | p :: os, [], o, h => by
    simp [wayOf] at h
    subst h
    rfl
  | p :: os, c :: cs, o, h => by
    show (if c.truth ρ then _ else _) = _
    unfold wayOf at h
    split at h
    · rename_i hc
      rw [if_pos hc]
      simp at h
      subst h
      rfl
    · rename_i hc
      rw [if_neg hc]
      exact treeOf_eval ρ D (by simpa using h)

section
variable {P : Program} {tb : Tb} (hok : tb.Ok P) (hwf : tb.Wf)
include hok hwf
/-- **A loop shown known by its rounds**, as an entry. -/
theorem loopE_ok {X κ : Type} (K : X → κ) {ρ : X → Nat → Value} {sp : κ → Nat → List V → Heap → Option (V × List (SE × Bool))} {lp : κ → Nat → St → Option OTree} (hsp : ∀ x, SpecOk P (tb.atS (ρ x) (sp (K x)) (lp (K x)))) {f : Nat} {fn : Func} {code c : Code} (hfn : tb.func f = some fn) (hbody : fn.body = some code) (hcl : c ∈ loopsOf code) (hnt : fn.ntmps < 1048576) (hc : codeOk fn.ntmps c = true) (hsub : ∀ d, d ∈ loopsOf c → d ∈ loopsOf code)
    {Inv : X → Prop} {μ : X → Nat} {D : LoopD} (hconst : ∀ x y n, D.pat n = false → ρ x n = ρ y n) {x0 : X} (hx0 : Inv x0) {us0 : List Upd} (hstart : startOf D = some us0) (hus0 : UpdOk (ρ x0) (ρ x0) us0) {cs : List SE} {o : Ex × Env × List (Nat × Blk)} (ho : D.outs[wayOf (ρ x0) cs]? = some o)
    {kn : Nat → Option V} {n0 n1 n2 : Nat} (hk : ∀ x, KnOk kn (call P (tb.atS (ρ x) (sp (K x)) (lp (K x))) n0)) {pc : κ → PC} (hpc : ∀ x, Inv x → (pc (K x)).holds (ρ x)) {M : κ → List (PC × Sm)}
    (hrun : ∀ (k : κ) (r : Nat → Value), sums D (execF kn (callF kn P (tb.atS r (sp k) (lp k)) n0 n1) P (tb.atS r (sp k) (lp k)) n2 (.code c) (pc k) D.hd) = some (M k))
    (hM : ∀ x, Inv x → ∀ q, q ∈ M (K x) → q.1.holds (ρ x) → SmOk ρ Inv μ (wayOf (ρ x0) cs) x q.2) {key : Nat} :
    LoopEOk P (tb.atS (ρ x0) (sp (K x0)) (lp (K x0))) fn.ntmps c (D.loopE key cs) := by
  have := loop_known hok hwf K hsp hnt hc (fun x d hd => (hsp x).loops f fn code hfn hbody d (hsub d hd)) hconst hx0 hstart hus0 ho hk hpc hrun hM
  unfold LoopEOk
  show SoundAt _ _ _ _ D.ent [(treeOf D.nx D.outs cs).eval (ρ x0) D.ent.h]
  rw [treeOf_eval (ρ x0) D ho]
  exact this
end

/-! ### Tables of some functions alone; loops by their place -/
def Tb.only (tb : Tb) (fs : List Nat) : Tb := { tb with func := fun f => if fs.any (fun g => Nat.beq f g) then tb.func f else none }
theorem Tb.only_func {tb : Tb} {fs : List Nat} {f : Nat} {fn : Func} (h : (tb.only fs).func f = some fn) : f ∈ fs ∧ tb.func f = some fn := by
  have h : (if fs.any (fun g => Nat.beq f g) then tb.func f else none) = some fn := h
  split at h
  · rename_i hc
    rw [List.any_eq_true] at hc
    obtain ⟨g, hg, hb⟩ := hc
    have := Nat.eq_of_beq_eq_true hb
    subst this
    exact ⟨hg, h⟩
  · exact absurd h (by simp)
theorem Tb.only_ok {P : Program} {tb : Tb} (h : tb.Ok P) (fs : List Nat) : (tb.only fs).Ok P := ⟨fun f fn hf => h.func _ _ (Tb.only_func hf).2, h.desc, h.info, h.mixed⟩
theorem Tb.only_wf {tb : Tb} (h : tb.Wf) (fs : List Nat) : (tb.only fs).Wf := fun f fn c h1 h2 => h _ _ _ (Tb.only_func h1).2 h2
def loopsAt (tb : Tb) (f : Nat) : List Code :=
  match tb.func f with
  | some fn => (match fn.body with
    | some c => loopsOf c
    | none => [])
  | none => []
def loopAt (tb : Tb) (f i : Nat) : Code := (loopsAt tb f).getD i .skip
def keysIn (key f : Nat) : List Code → Nat → List (Nat × Nat)
  | [], _ => []
  | d :: l, i => if Nat.beq (loopK d) key then (f, i) :: keysIn key f l (i + 1) else keysIn key f l (i + 1)
/-- Where loops of a number stand. -/
def keysAt (tb : Tb) (key : Nat) : List Nat → List (Nat × Nat)
  | [] => []
  | f :: fs => keysIn key f (loopsAt tb f) 0 ++ keysAt tb key fs
theorem keysIn_mem {key f : Nat} : ∀ {l : List Code} {i : Nat} {d : Code}, d ∈ l → loopK d = key → ∃ j, (f, i + j) ∈ keysIn key f l i ∧ l[j]? = some d
  | [], i, d, h, _ => by simp at h
  | c :: l, i, d, h, hk => by
    rcases List.mem_cons.1 h with rfl | h
    · refine ⟨0, ?_, rfl⟩
      simp only [keysIn]
      rw [if_pos (by rw [hk]; exact Nat.beq_refl key)]
      exact List.mem_cons_self
    · obtain ⟨j, h1, h2⟩ := keysIn_mem (f := f) (i := i + 1) h hk
      refine ⟨j + 1, ?_, by simpa using h2⟩
      rw [show i + (j + 1) = i + 1 + j by omega]
      simp only [keysIn]
      split
      · exact List.mem_cons_of_mem _ h1
      · exact h1
theorem keysAt_mem {tb : Tb} {key : Nat} : ∀ {fs : List Nat} {f : Nat} {d : Code}, f ∈ fs → d ∈ loopsAt tb f → loopK d = key → ∃ j, (f, j) ∈ keysAt tb key fs ∧ (loopsAt tb f)[j]? = some d
  | [], f, d, h, _, _ => by simp at h
  | g :: fs, f, d, h, hd, hk => by
    simp only [keysAt]
    rcases List.mem_cons.1 h with rfl | h
    · obtain ⟨j, h1, h2⟩ := keysIn_mem (f := f) (i := 0) hd hk
      rw [Nat.zero_add] at h1
      exact ⟨j, List.mem_append_left _ h1, h2⟩
    · obtain ⟨j, h1, h2⟩ := keysAt_mem h hd hk
      exact ⟨j, List.mem_append_right _ h1, h2⟩
theorem keysAt_one {tb : Tb} {key f0 i0 : Nat} {fs : List Nat} (h : keysAt tb key fs = [(f0, i0)]) {f : Nat} {fn : Func} {c d : Code} (hf : f ∈ fs) (hfn : tb.func f = some fn) (hc : fn.body = some c) (hd : d ∈ loopsOf c) (hk : loopK d = key) : f = f0 ∧ d = loopAt tb f0 i0 := by
  have hl : loopsAt tb f = loopsOf c := by
    unfold loopsAt
    simp only [hfn, hc]
  obtain ⟨j, h1, h2⟩ := keysAt_mem hf (by rw [hl]; exact hd) hk
  rw [h] at h1
  simp only [List.mem_singleton, Prod.mk.injEq] at h1
  obtain ⟨rfl, rfl⟩ := h1
  refine ⟨rfl, ?_⟩
  unfold loopAt
  rw [List.getD_eq_getElem?_getD, h2]
  rfl
theorem loopsOf_sub : ∀ {c d e : Code}, d ∈ loopsOf c → e ∈ loopsOf d → e ∈ loopsOf c := by
  intro c
  induction c with
  | seq a b iha ihb => intro d e hd he; simp only [loopsOf, List.mem_append] at hd ⊢; exact hd.imp (fun h => iha h he) (fun h => ihb h he)
  | cond x a b iha ihb => intro d e hd he; simp only [loopsOf, List.mem_append] at hd ⊢; exact hd.imp (fun h => iha h he) (fun h => ihb h he)
  | block id c ih => intro d e hd he; exact ih hd he
  | scope c ih => intro d e hd he; exact ih hd he
  | loop c ih =>
    intro d e hd he
    simp only [loopsOf] at hd ⊢
    rcases List.mem_cons.1 hd with rfl | hd
    · exact List.mem_cons_of_mem _ he
    · exact List.mem_cons_of_mem _ (ih hd he)
  | _ => intro d e hd he; simp [loopsOf] at hd
theorem loopsOf_ok : ∀ {nt : Nat} {c d : Code}, codeOk nt c = true → d ∈ loopsOf c → codeOk nt d = true := by
  intro nt c
  induction c with
  | seq a b iha ihb => intro d hc hd; simp only [codeOk, Bool.and_eq_true] at hc; simp only [loopsOf, List.mem_append] at hd; exact hd.elim (iha hc.1) (ihb hc.2)
  | cond x a b iha ihb => intro d hc hd; simp only [codeOk, Bool.and_eq_true] at hc; simp only [loopsOf, List.mem_append] at hd; exact hd.elim (iha hc.1) (ihb hc.2)
  | block id c ih => intro d hc hd; exact ih hc hd
  | scope c ih => intro d hc hd; exact ih hc hd
  | loop c ih =>
    intro d hc hd
    simp only [loopsOf] at hd
    rcases List.mem_cons.1 hd with rfl | hd
    · exact hc
    · exact ih hc hd
  | _ => intro d hc hd; simp [loopsOf] at hd

/-- The temporaries that a piece of code gives values. -/
def dstsOf : Code → List Nat
  | .region _ ops _ => ops.toList.filterMap (·.dst)
  | .seq a b | .cond _ a b => dstsOf a ++ dstsOf b
  | .block _ c | .loop c | .scope c => dstsOf c
  | _ => []
def topE (l : List Nat) (e : Env) : Env := l.foldl (fun e t => e.set t .top) e
def setE (l : List (Nat × V)) (e : Env) : Env := l.foldl (fun e q => e.set q.1 q.2) e
def setH (l : List (Nat × Blk)) (nx : Nat) (H : Heap) : Heap := { H with tab := l.foldl (fun t q => t.set q.1 q.2) H.tab, next := max nx H.next }
/-- A loop from its entry on: the temporaries that it gives values are anything, but for some that are told by unknowns. -/
def mkLoop (c : Code) (ent : St) (vars : List (Nat × V)) (blks : List (Nat × Blk)) (outs : List (Ex × List (Nat × V) × List (Nat × Blk))) (hnx nx : Nat) (pat res : Nat → Bool) : LoopD where
  ent := ent
  hd := { env := setE vars (topE (dstsOf c) ent.env), h := setH blks hnx ent.h }
  pat := pat
  res := res
  outs := outs.map fun o => (o.1, setE o.2.1 (topE (dstsOf c) ent.env), o.2.2)
  nx := nx

def fewTmps (tb : Tb) (f : Nat) : Bool :=
  match tb.func f with
  | some fn => Nat.blt fn.ntmps 1048576
  | none => true
/-- A known loop, by its place. -/
structure LoopP where
  f : Nat
  i : Nat
  key : Nat
  D : LoopD
  cs : List SE
def LoopP.e (l : LoopP) : LoopE := l.D.loopE l.key l.cs
def LoopPOk (P : Program) (tb : Tb) (l : LoopP) : Prop := ∀ fn, tb.func l.f = some fn → LoopEOk P tb fn.ntmps (loopAt tb l.f l.i) l.e
/-- **Known functions and known loops**, by their places. -/
theorem specP_of {P : Program} {tb : Tb} {fs : List Nat} {ρ : Nat → Value} {sp : Nat → List V → Heap → Option (V × List (SE × Bool))} {lp0 : Nat → St → Option OTree} {l : List LoopP} (hfs : ∀ f fn, tb.func f = some fn → f ∈ fs) (hsp : SpecOk P (tb.atS ρ sp lp0))
    (hkeys : (l.all fun e => keysAt tb e.key fs == [(e.f, e.i)]) = true) (h : ∀ e, e ∈ l → LoopPOk P (tb.atS ρ sp lp0) e) : SpecOk P (tb.atS ρ sp (lpOf (l.map LoopP.e))) :=
  specL_of hsp fun f fn c hfn hc d hd e he hk => by
    obtain ⟨q, hq, rfl⟩ := List.mem_map.1 he
    have hkey := eq_of_beq (List.all_eq_true.1 hkeys q hq)
    obtain ⟨rfl, rfl⟩ := keysAt_one hkey (hfs f fn hfn) hfn hc hd hk
    exact h q hq fn hfn
theorem LoopPOk.tb {P : Program} {tb tb' : Tb} (hf : tb'.func = tb.func) (hgl : tb'.glob = tb.glob) (hrho : tb'.rho = tb.rho) {l : LoopP} (h : LoopPOk P tb l) : LoopPOk P tb' l := by
  intro fn hfn
  rw [hf] at hfn
  have h1 := h fn hfn
  unfold LoopEOk at h1 ⊢
  have e : loopAt tb' l.f l.i = loopAt tb l.f l.i := by unfold loopAt loopsAt; rw [hf]
  rw [e, hrho]
  exact SoundAt.tb hgl hrho h1
section
variable {P : Program} {tb : Tb} (hok : tb.Ok P) (hwf : tb.Wf)
include hok hwf
/-- **A loop shown known by its rounds**, by its place. -/
theorem loopAt_ok {X κ : Type} (K : X → κ) {ρ : X → Nat → Value} {sp : κ → Nat → List V → Heap → Option (V × List (SE × Bool))} {lp : κ → Nat → St → Option OTree} (hsp : ∀ x, SpecOk P (tb.atS (ρ x) (sp (K x)) (lp (K x)))) {l : LoopP} (hil : (Nat.blt l.i (loopsAt tb l.f).length && fewTmps tb l.f) = true)
    {Inv : X → Prop} {μ : X → Nat} (hconst : ∀ x y n, l.D.pat n = false → ρ x n = ρ y n) {x0 : X} (hx0 : Inv x0) {us0 : List Upd} (hstart : startOf l.D = some us0) (hus0 : UpdOk (ρ x0) (ρ x0) us0) (hout : wayOf (ρ x0) l.cs < l.D.outs.length)
    {kn : Nat → Option V} {n0 n1 n2 : Nat} (hk : ∀ x, KnOk kn (call P (tb.atS (ρ x) (sp (K x)) (lp (K x))) n0)) {pc : κ → PC} (hpc : ∀ x, Inv x → (pc (K x)).holds (ρ x)) {M : κ → List (PC × Sm)}
    (hrun : ∀ (k : κ) (r : Nat → Value), sums l.D (execF kn (callF kn P (tb.atS r (sp k) (lp k)) n0 n1) P (tb.atS r (sp k) (lp k)) n2 (.code (loopAt tb l.f l.i)) (pc k) l.D.hd) = some (M k))
    (hM : ∀ x, Inv x → ∀ q, q ∈ M (K x) → q.1.holds (ρ x) → SmOk ρ Inv μ (wayOf (ρ x0) l.cs) x q.2) : LoopPOk P (tb.atS (ρ x0) (sp (K x0)) (lp (K x0))) l := by
  intro fn hfn
  have hfn : tb.func l.f = some fn := hfn
  rw [Bool.and_eq_true] at hil
  obtain ⟨hil, hnt⟩ := hil
  have hnt : fn.ntmps < 1048576 := by
    unfold fewTmps at hnt
    rw [hfn] at hnt
    exact Nat.le_of_ble_eq_true hnt
  have hil := Nat.le_of_ble_eq_true hil
  cases hb : fn.body with
  | none =>
    have : loopsAt tb l.f = [] := by unfold loopsAt; simp only [hfn, hb]
    rw [this] at hil
    simp at hil
  | some code =>
    have hl : loopsAt tb l.f = loopsOf code := by unfold loopsAt; simp only [hfn, hb]
    have hmem : loopAt tb l.f l.i ∈ loopsOf code := by
      unfold loopAt
      rw [hl] at hil ⊢
      rw [List.getD_eq_getElem?_getD, List.getElem?_eq_getElem hil]
      exact List.getElem_mem hil
    have hw := hwf _ _ _ hfn hb
    exact loopE_ok hok hwf K hsp hfn hb hmem hnt (loopsOf_ok hw hmem) (fun d hd => loopsOf_sub hmem hd) hconst hx0 hstart hus0 (List.getElem?_eq_getElem hout) hk hpc hrun hM
end
end
end Go.Sx
