/- Loops by induction: what the kernel works out of a round; functions that give scalars, run in a heap of their own. -/
import Derived.Test.YtfcfbcbmnhkedaaGreatDoorSxL
set_option linter.unusedVariables false
set_option linter.unusedSimpArgs false
namespace Go.Sx
noncomputable section

/-- How a round leaves: out of the loop (by which way; what the unknowns of that way are), or on to the next (what the loop's unknowns are there). -/
inductive Sm where
  | out (j : Nat) (us : List (Nat × STy × SE))
  | next (us : List (Nat × STy × SE))

/-- A loop's head and its ways out; with each the temporaries that are told by unknowns of their own. -/
structure LoopD where
  hd : St
  ts : List Nat
  outs : List (Ex × Env × List Nat)

/-- A frame in which some temporaries may be anything. -/
def topT (h : Env) (ts : List Nat) : Env := ts.foldl (fun e t => e.set t .top) h
theorem topT_get : ∀ (ts : List Nat) (e : Env) (t : Nat), evT (topT e ts) t = if ts.contains t then .top else evT e t
  | [], e, t => by simp [topT]
  | d :: ts, e, t => by
    show evT (topT (e.set d .top) ts) t = _
    rw [topT_get ts]
    by_cases hc : ts.contains t = true
    · simp at hc
      simp [hc]
    · rw [if_neg hc, evT_set]
      simp at hc
      by_cases hd : t = d
      · subst hd; simp
      · simp [hd, hc]

/-- An unknown by its name. -/
def varOf : V → Option (Nat × STy)
  | .sym (.int k) (.ivar k' n) => if k == k' then some (n, .int k) else none
  | .sym .bool (.bvar n) => some (n, .bool)
  | .sym .str (.svar n) => some (n, .str)
  | _ => none
def varE (n : Nat) : STy → SE
  | .int k => .ivar k n
  | .bool => .bvar n
  | .str => .svar n
theorem varOf_eq {v : V} {n : Nat} {T : STy} (h : varOf v = some (n, T)) : v = .sym T (varE n T) := by
  unfold varOf at h
  split at h
  · split at h
    · rename_i hk
      cases h
      rw [show _ = _ from eq_of_beq hk]
      rfl
    · exact absurd h (by simp)
  · cases h; rfl
  · cases h; rfl
  · exact absurd h (by simp)
def updOne (e h : Env) (t : Nat) : Option (Nat × STy × SE) :=
  match varOf (evT h t), toSE (evT e t) with
  | some (n, T), some (T', x) => if T == T' then some (n, T, x) else none
  | _, _ => none
def updOf (e h : Env) : List Nat → Option (List (Nat × STy × SE))
  | [] => some []
  | t :: ts => (updOne e h t).bind fun u => (updOf e h ts).map fun us => u :: us
def UpdOk (ρ ρ' : Nat → Value) (us : List (Nat × STy × SE)) : Prop := ∀ u, u ∈ us → u.2.2.val ρ u.2.1 = (varE u.1 u.2.1).val ρ' u.2.1
theorem toSE_le {ρ : Nat → Value} {v : V} {T : STy} {x : SE} (h : toSE v = some (T, x)) {φ : Froz} {γ : Place} {c : Value} (hφ : φ.rho = ρ) (hv : VRel φ γ v c) : c = x.val ρ T := by
  unfold toSE at h
  split at h
  · cases h
    cases hv with
    | sym h1 => rw [h1, hφ]
  · cases h; cases hv; rfl
  · cases h; cases hv; rfl
  · cases h; cases hv; rfl
  · exact absurd h (by simp)
theorem updOne_ok {ρ ρ' : Nat → Value} {e h : Env} {t : Nat} {u : Nat × STy × SE} (hu : updOne e h t = some u) (hr : u.2.2.val ρ u.2.1 = (varE u.1 u.2.1).val ρ' u.2.1) : VLe ρ (evT e t) ρ' (evT h t) := by
  unfold updOne at hu
  split at hu
  · rename_i n T T' x h1 h2
    split at hu
    · rename_i hT
      cases hu
      have hT := eq_of_beq hT
      subst hT
      intro φ γ c hφ hv
      rw [varOf_eq h1]
      refine .sym ?_
      rw [toSE_le h2 hφ hv]
      exact hr
    · exact absurd hu (by simp)
  · exact absurd hu (by simp)
theorem updOf_ok {ρ ρ' : Nat → Value} {e h : Env} : ∀ {ts : List Nat} {us : List (Nat × STy × SE)}, updOf e h ts = some us → UpdOk ρ ρ' us → ∀ t, t ∈ ts → VLe ρ (evT e t) ρ' (evT h t)
  | [], us, _, _, t, ht => by simp at ht
  | d :: ts, us, hu, hr, t, ht => by
    simp only [updOf, Option.bind_eq_some_iff, Option.map_eq_some_iff] at hu
    obtain ⟨u, h1, us', h2, rfl⟩ := hu
    rcases List.mem_cons.1 ht with rfl | ht
    · exact updOne_ok h1 (hr u List.mem_cons_self)
    · exact updOf_ok h2 (fun v hv => hr v (List.mem_cons_of_mem _ hv)) t ht
theorem env_le {S : Nat → Bool} {ρ ρ' : Nat → Value} (h : ∀ n, S n = true → ρ n = ρ' n) {e hd : Env} {ts : List Nat} {us : List (Nat × STy × SE)} (hl : leTr S e (topT hd ts) = true) (hu : updOf e hd ts = some us) (hr : UpdOk ρ ρ' us) : EnvLe ρ e ρ' hd := by
  intro t
  by_cases ht : t ∈ ts
  · exact updOf_ok hu hr t ht
  · have := leTr_ok S h hl t
    rw [topT_get, if_neg (by simpa using ht)] at this
    exact this

def sameH (a b : Heap) : Bool := Nat.beq a.next b.next && (Nat.beq a.base b.base && (a.low == b.low && sameTr (sameO Blk.same) a.tab b.tab))
theorem sameH_eq {a b : Heap} (h : sameH a b = true) : a = b := by
  unfold sameH at h
  simp only [Bool.and_eq_true] at h
  obtain ⟨h1, h2, h3, h4⟩ := h
  obtain ⟨t, n, b0, l⟩ := a
  obtain ⟨t', n', b', l'⟩ := b
  have e1 : n = n' := Nat.eq_of_beq_eq_true h1
  have e2 : b0 = b' := Nat.eq_of_beq_eq_true h2
  have e3 : l = l' := eq_of_beq h3
  have e4 : t = t' := sameTr_eq (fun _ _ => sameO_eq) h4
  rw [e1, e2, e3, e4]

def outOf (S : Nat → Bool) (r : Ex × St) : List (Ex × Env × List Nat) → Nat → Option Sm
  | [], _ => none
  | o :: os, j => if r.1 == o.1 && leTr S r.2.env (topT o.2.1 o.2.2) then (updOf r.2.env o.2.1 o.2.2).map (.out j) else outOf S r os (j + 1)
def sumOf (S : Nat → Bool) (D : LoopD) (r : Ex × St) : Option Sm :=
  if !sameH r.2.h D.hd.h then none else
  match r.1 with
  | .normal => if leTr S r.2.env (topT D.hd.env D.ts) then (updOf r.2.env D.hd.env D.ts).map .next else none
  | _ => outOf S r D.outs 0
def sumL (S : Nat → Bool) (D : LoopD) : List (PC × Ex × St) → Option (List (PC × Sm))
  | [] => some []
  | r :: l => (sumOf S D r.2).bind fun s => (sumL S D l).map fun L => (r.1, s) :: L
def sums (S : Nat → Bool) (D : LoopD) (L : Option (List (PC × Ex × St))) : Option (List (PC × Sm)) := L.bind (sumL S D)
theorem sumL_ok {S : Nat → Bool} {D : LoopD} : ∀ {L : List (PC × Ex × St)} {M : List (PC × Sm)}, sumL S D L = some M → ∀ r, r ∈ L → ∃ s, (r.1, s) ∈ M ∧ sumOf S D r.2 = some s
  | [], M, _, r, hr => by simp at hr
  | x :: l, M, h, r, hr => by
    simp only [sumL, Option.bind_eq_some_iff, Option.map_eq_some_iff] at h
    obtain ⟨s, h1, L', h2, rfl⟩ := h
    rcases List.mem_cons.1 hr with rfl | hr
    · exact ⟨s, List.mem_cons_self, h1⟩
    · obtain ⟨s', h3, h4⟩ := sumL_ok h2 r hr
      exact ⟨s', List.mem_cons_of_mem _ h3, h4⟩
theorem outOf_ok {S : Nat → Bool} {r : Ex × St} : ∀ {os : List (Ex × Env × List Nat)} {j : Nat} {s : Sm}, outOf S r os j = some s → ∃ i o us, s = .out (j + i) us ∧ os[i]? = some o ∧ r.1 = o.1 ∧ leTr S r.2.env (topT o.2.1 o.2.2) = true ∧ updOf r.2.env o.2.1 o.2.2 = some us
  | [], j, s, h => by simp [outOf] at h
  | o :: os, j, s, h => by
    simp only [outOf] at h
    split at h
    · rename_i hc
      simp only [Bool.and_eq_true, beq_iff_eq] at hc
      obtain ⟨us, h1, rfl⟩ := Option.map_eq_some_iff.1 h
      exact ⟨0, o, us, rfl, rfl, hc.1, hc.2, h1⟩
    · obtain ⟨i, o', us, rfl, h1, h2⟩ := outOf_ok h
      exact ⟨i + 1, o', us, by rw [show j + 1 + i = j + (i + 1) by omega], by simpa using h1, h2⟩

/-- What is asked of a round's summary at one member of the family. -/
def SmOk {X : Type} (S : Nat → Bool) (ρ : X → Nat → Value) (Inv : X → Prop) (μ : X → Nat) (D : LoopD) (out : X → Nat) (x : X) : Sm → Prop
  | .out j us => j = out x ∧ UpdOk (ρ x) (ρ x) us
  | .next us => ∃ y, Inv y ∧ μ y < μ x ∧ (∀ n, S n = true → ρ x n = ρ y n) ∧ UpdOk (ρ x) (ρ y) us ∧ out y = out x

section
variable {P : Program} {tb : Tb} (hok : tb.Ok P) (hwf : tb.Wf)
include hok hwf

/-- **A loop that its rounds' summaries show known.** -/
theorem loop_known {X : Type} {ρ : X → Nat → Value} {sp : Nat → List V → Option (V × List (SE × Bool))} {lp : Nat → St → Option OTree} (hsp : ∀ x, SpecOk P (tb.atS (ρ x) sp lp)) {nt : Nat} (hnt : nt < 1048576) {c : Code} (hc : codeOk nt c = true) (hin0 : ∀ x, ∀ d, d ∈ loopsOf c → LoopGood P (tb.atS (ρ x) sp lp) nt d)
    {S : Nat → Bool} {Inv : X → Prop} {μ : X → Nat} {D : LoopD} {out : X → Nat} (hin : inRound D.hd.env = false) (hempty : D.hd.h.tab = .leaf) (houts : (D.outs.all fun o => leTr S o.2.1 o.2.1) = true)
    {kn : Nat → Option V} {n0 n1 n2 : Nat} (hk : ∀ x, KnOk kn (call P (tb.atS (ρ x) sp lp) n0)) {pc : PC} (hpc : ∀ x, Inv x → pc.holds (ρ x)) {M : List (PC × Sm)}
    (hrun : ∀ r : Nat → Value, sums S D (execF kn (callF kn P (tb.atS r sp lp) n0 n1) P (tb.atS r sp lp) n2 (.code c) pc D.hd) = some M)
    (hM : ∀ x, Inv x → ∀ q, q ∈ M → q.1.holds (ρ x) → SmOk S ρ Inv μ D out x q.2) (hlt : ∀ x, Inv x → out x < D.outs.length) :
    ∀ x, Inv x → SoundAt P (tb.atS (ρ x) sp lp) nt (.code (.loop c)) D.hd [(((D.outs.getD (out x) (.normal, .leaf, [])).1), { env := (D.outs.getD (out x) (.normal, .leaf, [])).2.1, h := D.hd.h })] := by
  have hget : ∀ b, D.hd.h.get b = none := fun b => by unfold Heap.get; rw [hempty]; rfl
  intro x hx
  refine loop_ind (tbx := fun x => tb.atS (ρ x) sp lp) (ρ := ρ) (fun _ => rfl) (fun _ _ => rfl) (Inv := Inv) (μ := μ) (out := fun x => ((D.outs.getD (out x) (.normal, .leaf, [])).1, (D.outs.getD (out x) (.normal, .leaf, [])).2.1)) hin ?_ _ x rfl hx
  intro x hx
  have hr := hrun (ρ x)
  unfold sums at hr
  simp only [Option.bind_eq_some_iff] at hr
  obtain ⟨L, hL, hsm⟩ := hr
  have hokx : (tb.atS (ρ x) sp lp).Ok P := hok.atS (ρ x) sp lp
  have hfa : FactsOk (tb.atS (ρ x) sp lp) := fun f args r hr q hq => ((hsp x).fns f args r hr).2.1 q hq
  obtain ⟨r, h1, h2, h3⟩ := execF_ok (fun f v hv => by
      obtain ⟨h1, H', h2⟩ := hk x f v hv
      exact ⟨h1, H', call_mono (Nat.le_add_right n0 n1) _ _ _ _ h2⟩) (callF_ok hfa (hk x) n1) n2 (.code c) pc D.hd L hL (hpc x hx)
  obtain ⟨s, h4, h5⟩ := sumL_ok hsm r h1
  have hso := exec_sound hokx (call_sound hokx hwf (hsp x) (n0 + n1)) (call_known hokx (hsp x) (n0 + n1)) (call_grows (n0 + n1)) (call_stat (n0 + n1)) hnt n2 _ _ _ h3 hc (hin0 x)
  unfold sumOf at h5
  split at h5
  · exact absurd h5 (by simp)
  · rename_i hsh
    have hsh := sameH_eq (by simpa using hsh)
    refine ⟨r.2, hso, hsh, ?_⟩
    have hq := hM x hx _ h4 h2
    split at h5
    · rename_i hn
      split at h5
      · rename_i hle
        obtain ⟨us, hus, rfl⟩ := Option.map_eq_some_iff.1 h5
        obtain ⟨y, hy, hlt2, hS, hup, ho⟩ := hq
        refine .inr ⟨hn, y, hy, hlt2, env_le hS hle hus hup, by simp only [ho], ?_, HeapLe.empty _ _ hget, HeapLe.empty _ _ hget⟩
        simp only [ho]
        have hm : D.outs.getD (out x) (.normal, .leaf, []) ∈ D.outs := by
          rw [List.getD_eq_getElem?_getD, List.getElem?_eq_getElem (hlt x hx)]
          exact List.getElem_mem _
        exact leTr_ok S (fun n hn => (hS n hn).symm) (List.all_eq_true.1 houts _ hm)
      · exact absurd h5 (by simp)
    · rename_i hn
      obtain ⟨i, o, us, rfl, h6, h7, h8, h9⟩ := outOf_ok h5
      obtain ⟨hj, hup⟩ := hq
      rw [Nat.zero_add] at hj
      have hoe : D.outs.getD (out x) (.normal, .leaf, []) = o := by
        rw [List.getD_eq_getElem?_getD, ← hj, h6]; rfl
      refine .inl ⟨hn, by show _ = (D.outs.getD (out x) (.normal, .leaf, [])).1; rw [hoe]; exact h7, ?_⟩
      show EnvLe _ _ _ (D.outs.getD (out x) (.normal, .leaf, [])).2.1
      rw [hoe]
      exact env_le (fun _ _ => rfl) h8 h9 hup
end

/-- A loop known at one state is known at a state that tells no less. -/
theorem SoundAt.weaken {P : Program} {tb tb' : Tb} (hgl : tb'.glob = tb.glob) (hrho : tb'.rho = tb.rho) {nt : Nat} {tk : Tk} {st hd : St} {L : List (Ex × St)} (hin : inRound st.env = false) (hh : st.h = hd.h) (he : EnvLe tb.rho st.env tb.rho hd.env) (h : SoundAt P tb nt tk hd L) : SoundAt P tb' nt tk st L := by
  obtain ⟨env, H⟩ := st
  simp only at hh hin he
  subst hh
  intro N Lim M0 ro ds φ γ w a hr hg hM0 hmk hfr hb hlim hf
  have hg' : GlobOk φ tb := ⟨by rw [← hgl]; exact hg.at_, hg.rho.trans hrho⟩
  have hro : ro.isSome = true → False := fun hs => by
    have := hfr.rnd hs
    rw [hin] at this
    exact absurd this (by simp)
  exact h N Lim M0 ro ds φ γ w a hr hg' hM0 hmk ⟨fun t => by
    have := he t φ γ _ hg'.rho (hfr.rel t)
    rw [← hg'.rho] at this
    exact this, hfr.size, hfr.defers, fun hs => (hro hs).elim⟩ hb hlim hf

/-! ### Functions that give scalars -/
/-- A value that leads to no box. -/
def V.flat : Nat → V → Bool
  | 0, _ => false
  | n + 1, v => match v with
    | .val _ | .sym .. => true
    | .cptr cs | .agg cs | .tuple cs => cs.all (V.flat n)
    | .list _ es tok => (match tok with | .own .. => false | _ => true) && es.all fun c => c.all (V.flat n)
    | _ => false
theorem V.flat_any {φ : Froz} {γ γ' : Place} {v : V} {x : Value} (h : VRel φ γ v x) : ∀ {n : Nat}, V.flat n v = true → VRel φ γ' v x := by
  induction h with
  | val h => intro n _; exact .val h
  | sym h => intro n _; exact .sym h
  | cptr f h1 h2 _ ih =>
    intro n hl
    cases n with
    | zero => simp [V.flat] at hl
    | succ n =>
      simp only [V.flat] at hl
      exact .cptr f h1 h2 (fun j v hj => ih j v hj (mem_all hl hj))
  | lnil => intro n _; exact .lnil
  | @list es tok a cap sz f h1 h2 h3 h4 h5 _ h7 ih =>
    intro n hl
    cases n with
    | zero => simp [V.flat] at hl
    | succ n =>
      simp only [V.flat, Bool.and_eq_true] at hl
      refine .list sz f h1 h2 h3 h4 h5 (fun i c hc j v hj => ih i c hc j v hj (n := n) ?_) ?_
      · have := List.all_eq_true.1 hl.2 c (List.mem_of_getElem? hc)
        exact mem_all this hj
      · cases tok with
        | own b s => simp at hl
        | full => exact h7
        | unk => trivial
  | agg h1 h2 _ ih =>
    intro n hl
    cases n with
    | zero => simp [V.flat] at hl
    | succ n =>
      simp only [V.flat] at hl
      exact .agg h1 h2 (fun j v hj => ih j v hj (mem_all hl hj))
  | tuple h1 _ ih =>
    intro n hl
    cases n with
    | zero => simp [V.flat] at hl
    | succ n =>
      simp only [V.flat] at hl
      exact .tuple h1 (fun j v hj => ih j v hj (mem_all hl hj))
  | top => intro n hl; cases n <;> simp [V.flat] at hl
  | _ => intro n hl; cases n <;> simp [V.flat] at hl
/-- A value of scalars alone. -/
def V.scal : Nat → V → Bool
  | 0, _ => false
  | n + 1, v => match v with
    | .val _ | .sym .. => true
    | .agg cs | .tuple cs => cs.all (V.scal n)
    | _ => false
theorem V.scal_any {φ φ' : Froz} (hφ : φ'.rho = φ.rho) {γ γ' : Place} {v : V} {x : Value} (h : VRel φ γ v x) : ∀ {n : Nat}, V.scal n v = true → VRel φ' γ' v x := by
  induction h with
  | val h => intro n _; exact .val h
  | sym h => intro n _; exact .sym (by rw [hφ]; exact h)
  | agg h1 h2 _ ih =>
    intro n hl
    cases n with
    | zero => simp [V.scal] at hl
    | succ n =>
      simp only [V.scal] at hl
      exact .agg h1 h2 (fun j v hj => ih j v hj (mem_all hl hj))
  | tuple h1 _ ih =>
    intro n hl
    cases n with
    | zero => simp [V.scal] at hl
    | succ n =>
      simp only [V.scal] at hl
      exact .tuple h1 (fun j v hj => ih j v hj (mem_all hl hj))
  | _ => intro n hl; cases n <;> simp [V.scal] at hl

theorem calls_flat {P : Program} {tb : Tb} (hok : tb.Ok P) (hwf : tb.Wf) (hsp : SpecOk P tb) {n f : Nat} {args : List V} {L : List (V × Heap)} (h : call P tb n f args H0 = some L) (hfl : (args.all (V.flat 12)) = true)
    {N : Nat} {φ : Froz} {γ : Place} {H : Heap} {w : World} {args' : Array Value} (hr : Rel N φ γ H w) (hg : GlobOk φ tb) (ha : ArgsRel φ γ args args') :
    Calls P f args' w (fun e w' => ∃ r, r ∈ L ∧ ∃ cv, e = .returned cv ∧ Go.RowKit.Below w.heap.size w w' ∧ (V.scal 12 r.1 = true → VRel φ γ r.1 cv)) := by
  have h0 : Rel N φ (fun _ => none) H0 w := ⟨hr.ge, fun b k h => by simp [H0, Heap.get] at h, hr.froz, fun b x h => by simp at h, fun b x k h => by simp at h, fun b x k h => by simp at h, fun b x k b' x' k' h => by simp at h⟩
  obtain ⟨Lim, hLim⟩ := top_of L
  have ha0 : ArgsRel φ (fun _ => none) args args' := ⟨ha.1, fun j v hj => V.flat_any (ha.2 j v hj) (mem_all hfl hj)⟩
  refine ((call_sound hok hwf hsp n).1 f args H0 L (call_lt h) h N Lim φ (fun _ => none) w args' h0 (Nat.le_refl _) hg hLim (fun _ _ _ => rfl) ha0).mono ?_
  rintro e w' ⟨r, hrM, φ', γ', cv, T, rfl, hs, hv⟩
  exact ⟨r, hrM, cv, rfl, ⟨hs.os, hs.tape, hs.output, hs.size, fun i hi => hs.fr i hi (fun b x hx => by simp at hx)⟩, fun hsc => V.scal_any hs.fle.rho.symm hv hsc⟩
end
end Go.Sx
