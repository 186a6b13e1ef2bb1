/- Loops by induction: what the kernel works out of a round; functions that give scalars, run in a heap of their own. -/
import Derived.Test.YtaidiaiedhbaoaaSxL
/- Loops by induction: what the kernel works out of a round; functions that give scalars, run in a heap of their own. -/
set_option linter.unusedVariables false
set_option linter.unusedSimpArgs false
namespace Go.Sx
noncomputable section

theorem Fit.fresh {Lim n0 : Nat} {γ : Place} {st hd : St} {ρ ρ' : Nat → Value} {π : List (Nat × Nat)} (hf : Fit n0 ρ st ρ' hd π) : Fresh Lim (Place.re n0 Lim π γ) hd.h := by
  intro b h1 h2
  have hn := hf.next
  rw [Place.re_high (by omega)]
  cases hl : lookN π b with
  | none => rfl
  | some c =>
    have := (hf.keys b c hl).2.1
    omega
theorem Fit.marks {Lim n0 M0 : Nat} {γ : Place} {w : World} {ds : List Deferred} {π : List (Nat × Nat)} (hm : MarksOk M0 γ w ds) : MarksOk M0 (Place.re n0 Lim π γ) w ds := by
  obtain ⟨Ds, h1, h2, h3⟩ := hm
  refine ⟨Ds, h1, h2, fun D hD => ?_⟩
  obtain ⟨h4, h5, h6⟩ := h3 D hD
  refine ⟨h4, h5, fun b x hx => ?_⟩
  by_cases hb : b < n0 ∨ Lim ≤ b
  · rw [Place.re_low hb] at hx
    exact h6 b x hx
  · rw [Place.re_high hb] at hx
    obtain ⟨c, _, hx⟩ := Option.bind_eq_some_iff.1 hx
    exact h6 c x hx
theorem Fit.fr {Lim n0 : Nat} {φ : Froz} {γ : Place} {ds : List Deferred} {nt : Nat} {a : Act} {st hd : St} {ρ ρ' : Nat → Value} {π : List (Nat × Nat)} (hf : Fit n0 ρ st ρ' hd π) (hφ : φ.rho = ρ) (hlim : hd.h.next ≤ Lim) (hr : Fr φ γ none ds nt st.env a) : Fr (φ.re ρ') (Place.re n0 Lim π γ) none ds nt hd.env a := by
  have fit : PlFit n0 π γ (Place.re n0 Lim π γ) := fun b c hb => by
    unfold src at hb
    split at hb
    · rename_i hlt
      cases hb
      exact Place.re_low (.inl (Nat.le_of_ble_eq_true hlt))
    · rename_i hlt
      have hlt : ¬ b < n0 := fun h => hlt (Nat.ble_eq_true_of_le h)
      have hk := hf.keys b c hb
      rw [Place.re_high (by omega), hb]
      rfl
  exact ⟨fun t => hf.env φ γ _ t _ hφ fit (hr.rel t), hr.size, hr.defers, fun h => by simp at h⟩

/-- What is asked of a round at one member of a family of unknowns: it leaves the loop, or goes on at another member. -/
def RoundTo {X : Type} (n0 : Nat) (ρ : X → Nat → Value) (Inv : X → Prop) (μ : X → Nat) (hd : St) (x0 : X) (o : Ex × St) (x : X) (r : Ex × St) : Prop :=
  (r.1 ≠ .normal ∧ r.1 = o.1 ∧ ∃ π, Fit n0 (ρ x) r.2 (ρ x0) o.2 π) ∨
  (r.1 = .normal ∧ ∃ y π, Inv y ∧ μ y < μ x ∧ Fit n0 (ρ x) r.2 (ρ y) hd π)

/-- **A loop by induction**: its head is told by unknowns; each round leads out, or to the head under other unknowns. -/
theorem loop_fit {P : Program} {nt : Nat} {X : Type} {tbx : X → Tb} {ρ : X → Nat → Value} (hrho : ∀ x, (tbx x).rho = ρ x) (hglob : ∀ x y, (tbx x).glob = (tbx y).glob) {Inv : X → Prop} {μ : X → Nat} {c : Code} {hd ent : St} {o : Ex × St} {x0 : X} (hx0 : Inv x0)
    (hin : inRound hd.env = false) (hin0 : inRound ent.env = false) {π0 : List (Nat × Nat)} (hent : Fit ent.h.next (ρ x0) ent (ρ x0) hd π0) (hhd : hd.h.next ≤ o.2.h.next) (hen : ent.h.next ≤ o.2.h.next)
    (hbody : ∀ x, Inv x → ∃ r, SoundAt P (tbx x) nt (.code c) hd [r] ∧ r.2.h.next ≤ o.2.h.next ∧ RoundTo ent.h.next ρ Inv μ hd x0 o x r) :
    SoundAt P (tbx x0) nt (.code (.loop c)) ent [o] := by
  intro N Lim M0 ro ds0 φ0 γ0 w0 a0 hr hg hM0 hmk hfr hb hlim hf
  have hro : ro = none := by
    cases ro with
    | none => rfl
    | some l => have := hfr.rnd rfl; rw [hin0] at this; exact absurd this (by simp)
  subst hro
  have hL : o.2.h.next ≤ Lim := hlim _ (List.mem_singleton_self _)
  have hφ0 : φ0.rho = ρ x0 := hg.rho.trans (hrho x0)
  have hself : φ0.re (ρ x0) = φ0 := by rw [← hφ0]; rfl
  have key : ∀ n x, μ x = n → Inv x → ∀ (ds : List Deferred) (φ : Froz) (γ : Place) (w : World) (a : Act) (T : Nat → Prop), Step N (φ0.re (ρ x)) γ0 ent.h w0 φ γ hd.h w T → Fr φ γ none ds nt hd.env a → MarksOk M0 γ w ds → Fresh Lim γ hd.h →
      (Code.loop c).wpIn (wide none) 0 P (OutIs N M0 φ0 γ0 none nt ent w0 [o]) a w ∧ LoopWp none P c (OutIs N M0 φ0 γ0 none nt ent w0 [o]) a w := by
    intro n
    induction n using Nat.strongRecOn with
    | _ n ih =>
      intro x hn hx ds φ γ w a T hs hfx hmx hfx2
      obtain ⟨r, hso, hrn, hto⟩ := hbody x hx
      have hφ : φ.rho = ρ x := hs.fle.rho
      have hgx : GlobOk φ (tbx x) := ⟨fun g l hgl j v hv => hs.fle _ _ _ (hg.at_ g l (by rw [hglob x0 x]; exact hgl) j v hv), hφ.trans (hrho x).symm⟩
      have hbx : hd.h.base ≤ hd.h.next := by
        have h1 := hs.base
        have h2 := hs.next
        omega
      have hc := (hso N Lim M0 none ds φ γ w a hs.rel hgx (Nat.le_trans hM0 hs.size) hmx hfx hbx (fun q hq => by rw [List.mem_singleton.1 hq]; exact Nat.le_trans hrn hL) hfx2).1
      have hwp : c.wpIn (wide none) 0 P (Exit.then (LoopWp none P c (OutIs N M0 φ0 γ0 none nt ent w0 [o])) (OutIs N M0 φ0 γ0 none nt ent w0 [o])) a w := by
        refine wpIn_mono hc ?_
        intro e a1 w1 ho
        obtain ⟨q, hq, he, φ1, γ1, T1, hs1, ds1, hm1, hf1⟩ := ho
        rw [List.mem_singleton.1 hq] at he hs1 hf1
        have hφ1 : φ1.rho = ρ x := hs1.fle.rho.trans hφ
        have hs2 := hs.trans hs1
        rcases hto with ⟨h1, h2, π, hfit⟩ | ⟨h1, y, π, hy, hlt, hfit⟩
        · have hne : e ≠ .normal := by
            rintro rfl
            cases hr1 : r.1 <;> rw [hr1] at he h1 <;> first | exact he.elim | exact h1 rfl
          have hs3 := hfit.step hs2 hφ1 hL (Nat.le_trans hrn hL) hf
          have e1 : (φ0.re (ρ x)).re (ρ x0) = φ0 := hself
          rw [e1] at hs3
          have hout : OutIs N M0 φ0 γ0 none nt ent w0 [o] e a1 w1 := ⟨_, List.mem_singleton_self _, by rw [← h2]; exact he, φ1.re (ρ x0), Place.re ent.h.next Lim π γ1, _, hs3, ds1, Fit.marks hm1, hfit.fr hφ1 hL hf1⟩
          cases e <;> first | exact absurd rfl hne | exact hout
        · have hen : e = .normal := by
            rw [h1] at he
            cases e <;> first | rfl | exact he.elim
          subst hen
          have hdl : hd.h.next ≤ Lim := Nat.le_trans hhd hL
          have hs3 := hfit.step hs2 hφ1 hdl (Nat.le_trans hrn hL) hf
          exact (ih (μ y) (hn ▸ hlt) y rfl hy ds1 (φ1.re (ρ y)) (Place.re ent.h.next Lim π γ1) w1 a1 _ hs3 (hfit.fr hφ1 hdl hf1) (Fit.marks hm1) hfit.fresh).2
      exact loop_both hwp
  have hdl : hd.h.next ≤ Lim := Nat.le_trans hhd hL
  have hs0 := hent.step (Step.refl hr) hφ0 hdl (Nat.le_trans hen hL) hf
  rw [hself] at hs0
  have hs0' : Step N (φ0.re (ρ x0)) γ0 ent.h w0 φ0 (Place.re ent.h.next Lim π0 γ0) hd.h w0 (fun b => False ∧ b < ent.h.next) := by rw [hself]; exact hs0
  have hfr0 := hent.fr hφ0 hdl hfr
  rw [hself] at hfr0
  have := key (μ x0) x0 rfl hx0 ds0 φ0 (Place.re ent.h.next Lim π0 γ0) w0 a0 _ hs0' hfr0 (Fit.marks hmk) hent.fresh
  exact ⟨this.1, fun d hd2 => by cases hd2; exact this.2⟩

/-! ### What the kernel works out of a round -/
/-- How a round leaves: out of the loop (by which way; what the unknowns of that way are), or on to the next (what the loop's unknowns are there). -/
inductive Sm where
  | out (j : Nat) (us : List Upd)
  | next (us : List Upd)

/-- Which blocks of a head are which of a state: as the frames and the elder blocks say. -/
def piTok (n0 : Nat) : Tok → Tok → List (Nat × Nat)
  | .own c _, .own b _ => if Nat.ble n0 b then [(b, c)] else []
  | _, _ => []
def piL {α : Type} (f : α → α → List (Nat × Nat)) : List α → List α → List (Nat × Nat)
  | a :: l, b :: m => f a b ++ piL f l m
  | _, _ => []
def piV (n0 : Nat) : Nat → V → V → List (Nat × Nat)
  | 0, _, _ => []
  | n + 1, v, v' => match v, v' with
    | .ptr c _, .ptr b _ | .mslice c _ _ _, .mslice b _ _ _ | .vslice c _ _ _ _, .vslice b _ _ _ _ | .map c, .map b => if Nat.ble n0 b then [(b, c)] else []
    | .sli _ _ _ tok, .sli _ _ _ tok' => piTok n0 tok tok'
    | .list _ es tok, .list _ es' tok' => piTok n0 tok tok' ++ piL (piL (piV n0 n)) es es'
    | .cptr cs, .cptr ds | .agg cs, .agg ds | .tuple cs, .tuple ds => piL (piV n0 n) cs ds
    | .func _ a b, .func _ a' b' => piL (piV n0 n) a a' ++ piL (piV n0 n) b b'
    | .iface _ v, .iface _ v' => piV n0 n v v'
    | _, _ => []
def piE (n0 : Nat) (a b : Env) : List (Nat × Nat) :=
  Tr.rec (motive := fun _ => Env → List (Nat × Nat)) (fun _ => []) (fun _ v _ ihl ihr a => ihl (partsT a).1 ++ ((match (partsT a).2.1, v with | some x, some y => piV n0 12 x y | _, _ => []) ++ ihr (partsT a).2.2)) b a
def piB (n0 : Nat) : Blk → Blk → List (Nat × Nat)
  | .cells cs, .cells ds => piL (piV n0 12) cs ds
  | .map es _, .map es' _ => piL (fun x y => piV n0 12 x.2.1 y.2.1) es es'
  | _, _ => []
/-- The pairs that a block of the head and what it is told to be give. -/
def piOf (n0 : Nat) (H H' : Heap) (q : Nat × Nat) : List (Nat × Nat) :=
  match H.get q.2, H'.get q.1 with
  | some k, some k' => piB n0 k k'
  | _, _ => []
def addNew (l : List (Nat × Nat)) : List (Nat × Nat) → List (Nat × Nat)
  | [] => l
  | q :: m => addNew (if l.any fun p => Nat.beq p.1 q.1 then l else l ++ [q]) m
def piClose (n0 : Nat) (H H' : Heap) : Nat → List (Nat × Nat) → List (Nat × Nat)
  | 0, l => l
  | n + 1, l => piClose n0 H H' n (addNew l (l.flatMap (piOf n0 H H')))
def elders (n0 : Nat) : Tr Blk → (Nat → Nat) → List (Nat × Nat)
  | .leaf, _ => []
  | .node l v r, ix => elders n0 l (fun m => ix (Nat.add (Nat.mul 2 m) 1)) ++ ((match v with | some _ => if Nat.blt (ix 0) n0 then [(ix 0, ix 0)] else [] | none => []) ++ elders n0 r (fun m => ix (Nat.add (Nat.mul 2 m) 2)))
def piSt (n0 : Nat) (st hd : St) : List (Nat × Nat) := piClose n0 st.h hd.h 3 (addNew [] (piE n0 st.env hd.env ++ (elders n0 hd.h.tab id).flatMap (piOf n0 st.h hd.h)))
def fitS (pat low : Nat → Bool) (n0 : Nat) (st hd : St) : Option (List Upd) := fitSt pat low n0 (piSt n0 st hd) st hd

/-- A loop: from which state on; its head and its ways out (a frame, the frame's own blocks, how many blocks), told by unknowns: those that change from round to round, those of the ways out. -/
structure LoopD where
  ent : St
  hd : St
  pat : Nat → Bool
  res : Nat → Bool
  outs : List (Ex × Env × List (Nat × Blk))
  nx : Nat
def LoopD.low (D : LoopD) (n : Nat) : Bool := !D.pat n
def LoopD.lowO (D : LoopD) (n : Nat) : Bool := !D.pat n && !D.res n
def LoopD.out (D : LoopD) (o : Ex × Env × List (Nat × Blk)) : Ex × St := (o.1, { env := o.2.1, h := D.ent.h.up o.2.2 D.nx })

def outOf (D : LoopD) (r : Ex × St) : List (Ex × Env × List (Nat × Blk)) → Nat → Option Sm
  | [], _ => none
  | o :: os, j => if r.1 == o.1 then (match fitS D.res D.lowO D.ent.h.next r.2 (D.out o).2 with
    | some us => if us.all fun u => !D.pat u.1 then some (.out j us) else none
    | none => outOf D r os (j + 1)) else outOf D r os (j + 1)
def sumOf (D : LoopD) (r : Ex × St) : Option Sm :=
  if Nat.ble r.2.h.next D.nx then (match r.1 with
    | .normal => (fitS D.pat D.low D.ent.h.next r.2 D.hd).map .next
    | _ => outOf D r D.outs 0) else none
def sumL (D : LoopD) : List (PC × Ex × St) → Option (List (PC × Sm))
  | [] => some []
  | r :: l => (sumOf D r.2).bind fun s => (sumL D l).map fun L => (r.1, s) :: L
def sums (D : LoopD) (L : Option (List (PC × Ex × St))) : Option (List (PC × Sm)) := L.bind (sumL D)
/-- What the head's unknowns are at the entry. -/
def startOf (D : LoopD) : Option (List Upd) :=
  if Nat.ble D.hd.h.next D.nx && (Nat.ble D.ent.h.next D.nx && (!inRound D.hd.env && !inRound D.ent.env)) then fitS (fun n => D.pat n) (fun _ => true) D.ent.h.next D.ent D.hd else none
theorem sumL_ok {D : LoopD} : ∀ {L : List (PC × Ex × St)} {M : List (PC × Sm)}, sumL D L = some M → ∀ r, r ∈ L → ∃ s, (r.1, s) ∈ M ∧ sumOf D r.2 = some s
  | [], M, _, r, hr => by simp at hr
  | x :: l, M, h, r, hr => by
    simp only [sumL, Option.bind_eq_some_iff, Option.map_eq_some_iff] at h
    obtain ⟨s, h1, L', h2, rfl⟩ := h
    rcases List.mem_cons.1 hr with rfl | hr
    · exact ⟨s, List.mem_cons_self, h1⟩
    · obtain ⟨s', h3, h4⟩ := sumL_ok h2 r hr
      exact ⟨s', List.mem_cons_of_mem _ h3, h4⟩
theorem outOf_ok {D : LoopD} {r : Ex × St} : ∀ {os : List (Ex × Env × List (Nat × Blk))} {j : Nat} {s : Sm}, outOf D r os j = some s → ∃ i o us, s = .out (j + i) us ∧ os[i]? = some o ∧ r.1 = o.1 ∧ fitS D.res D.lowO D.ent.h.next r.2 (D.out o).2 = some us ∧ ∀ u, u ∈ us → D.pat u.1 = false
  | [], j, s, h => by simp [outOf] at h
  | o :: os, j, s, h => by
    have go : outOf D r os (j + 1) = some s → ∃ i o' us, s = .out (j + i) us ∧ (o :: os)[i]? = some o' ∧ r.1 = o'.1 ∧ fitS D.res D.lowO D.ent.h.next r.2 (D.out o').2 = some us ∧ ∀ u, u ∈ us → D.pat u.1 = false := by
      intro h
      obtain ⟨i, o', us, rfl, h1, h2⟩ := outOf_ok h
      exact ⟨i + 1, o', us, by rw [show j + 1 + i = j + (i + 1) by omega], by simpa using h1, h2⟩
    simp only [outOf] at h
    split at h
    · rename_i hc
      split at h
      · rename_i us hus
        split at h
        · rename_i hall
          cases h
          exact ⟨0, o, us, rfl, rfl, eq_of_beq hc, hus, fun u hu => by simpa using List.all_eq_true.1 hall u hu⟩
        · exact absurd h (by simp)
      · exact go h
    · exact go h

theorem varU_val {ρ ρ' : Nat → Value} {n : Nat} (h : ρ n = ρ' n) (U : UTy) : U.val ρ (varU n U) = U.val ρ' (varU n U) := by
  cases U with
  | sc t => cases t <;> simp only [UTy.val, varU, varE, SE.val, SE.num, SE.truth, SE.text, SE.all, h]
  | dat => exact h
/-- What is asked of a round's summary at one member of the family. -/
def SmOk {X : Type} (ρ : X → Nat → Value) (Inv : X → Prop) (μ : X → Nat) (j0 : Nat) (x : X) : Sm → Prop
  | .out j us => j = j0 ∧ UpdOk (ρ x) (ρ x) us
  | .next us => ∃ y, Inv y ∧ μ y < μ x ∧ UpdOk (ρ x) (ρ y) us

section
variable {P : Program} {tb : Tb} (hok : tb.Ok P) (hwf : tb.Wf)
include hok hwf

/-- **A loop that its rounds' summaries show known.** -/
theorem loop_known {X κ : Type} (K : X → κ) {ρ : X → Nat → Value} {sp : κ → Nat → List V → Heap → Option (V × List (SE × Bool))} {lp : κ → Nat → St → Option OTree} (hsp : ∀ x, SpecOk P (tb.atS (ρ x) (sp (K x)) (lp (K x)))) {nt : Nat} (hnt : nt < 1048576) {c : Code} (hc : codeOk nt c = true) (hgood : ∀ x, ∀ d, d ∈ loopsOf c → LoopGood P (tb.atS (ρ x) (sp (K x)) (lp (K x))) nt d)
    {Inv : X → Prop} {μ : X → Nat} {D : LoopD} (hconst : ∀ x y n, D.pat n = false → ρ x n = ρ y n) {x0 : X} (hx0 : Inv x0) {us0 : List Upd} (hstart : startOf D = some us0) (hus0 : UpdOk (ρ x0) (ρ x0) us0) {j0 : Nat} {o : Ex × Env × List (Nat × Blk)} (ho : D.outs[j0]? = some o)
    {kn : Nat → Option V} {n0 n1 n2 : Nat} (hk : ∀ x, KnOk kn (call P (tb.atS (ρ x) (sp (K x)) (lp (K x))) n0)) {pc : κ → PC} (hpc : ∀ x, Inv x → (pc (K x)).holds (ρ x)) {M : κ → List (PC × Sm)}
    (hrun : ∀ (k : κ) (r : Nat → Value), sums D (execF kn (callF kn P (tb.atS r (sp k) (lp k)) n0 n1) P (tb.atS r (sp k) (lp k)) n2 (.code c) (pc k) D.hd) = some (M k))
    (hM : ∀ x, Inv x → ∀ q, q ∈ M (K x) → q.1.holds (ρ x) → SmOk ρ Inv μ j0 x q.2) :
    SoundAt P (tb.atS (ρ x0) (sp (K x0)) (lp (K x0))) nt (.code (.loop c)) D.ent [D.out o] := by
  unfold startOf at hstart
  split at hstart
  case isFalse => exact absurd hstart (by simp)
  rename_i hst
  simp only [Bool.and_eq_true, Bool.not_eq_true'] at hst
  obtain ⟨s1, s2, s3, s4⟩ := hst
  have s1 := Nat.le_of_ble_eq_true s1
  have s2 := Nat.le_of_ble_eq_true s2
  have hnx : ∀ m, m ≤ D.nx → m ≤ (D.out o).2.h.next := fun m hm => Nat.le_trans hm (Nat.le_max_right _ _)
  refine loop_fit (tbx := fun x => tb.atS (ρ x) (sp (K x)) (lp (K x))) (ρ := ρ) (fun _ => rfl) (fun _ _ => rfl) (Inv := Inv) (μ := μ) hx0 s3 s4 (fitSt_ok (fun _ _ => rfl) hstart hus0) (hnx _ s1) (hnx _ s2) ?_
  intro x hx
  have hr := hrun (K x) (ρ x)
  unfold sums at hr
  simp only [Option.bind_eq_some_iff] at hr
  obtain ⟨L, hL, hsm⟩ := hr
  have hokx : (tb.atS (ρ x) (sp (K x)) (lp (K x))).Ok P := hok.atS (ρ x) (sp (K x)) (lp (K x))
  have hfa : FactsOk (tb.atS (ρ x) (sp (K x)) (lp (K x))) := fun f args H r hr q hq => ((hsp x).fns f args H r hr).2.1 q hq
  obtain ⟨r, h1, h2, h3⟩ := execF_ok (fun f v hv => by
      obtain ⟨h1, H', h2⟩ := hk x f v hv
      exact ⟨h1, H', call_mono (Nat.le_add_right n0 n1) _ _ _ _ h2⟩) (callF_ok hfa (hk x) n1) n2 (.code c) (pc (K x)) D.hd L hL (hpc x hx)
  obtain ⟨s, h4, h5⟩ := sumL_ok hsm r h1
  have hso := exec_sound hokx (call_sound hokx hwf (hsp x) (n0 + n1)) (call_known hokx (hsp x) (n0 + n1)) (call_grows (n0 + n1)) (call_stat (n0 + n1)) hnt n2 _ _ _ h3 hc (hgood x)
  unfold sumOf at h5
  split at h5
  case isFalse => exact absurd h5 (by simp)
  rename_i hle
  have hq := hM x hx _ h4 h2
  refine ⟨r.2, hso, hnx _ (Nat.le_of_ble_eq_true hle), ?_⟩
  split at h5
  · rename_i hn
    obtain ⟨us, hus, rfl⟩ := Option.map_eq_some_iff.1 h5
    obtain ⟨y, hy, hlt, hup⟩ := hq
    refine .inr ⟨hn, y, _, hy, hlt, fitSt_ok (fun n hn => hconst x y n ?_) hus hup⟩
    unfold LoopD.low at hn
    simpa using hn
  · rename_i hn
    obtain ⟨i, o', us, rfl, h6, h7, h8, h9⟩ := outOf_ok h5
    obtain ⟨hj, hup⟩ := hq
    rw [Nat.zero_add] at hj
    subst hj
    rw [h6] at ho
    cases ho
    refine .inl ⟨hn, h7, _, fitSt_ok (fun n hn => hconst x x0 n ?_) h8 (fun u hu => ?_)⟩
    · unfold LoopD.lowO at hn
      simp only [Bool.and_eq_true, Bool.not_eq_true'] at hn
      exact hn.1
    · rw [hup u hu]
      exact varU_val (hconst x x0 u.1 (h9 u hu)) u.2.1
end

theorem mem_all {f : V → Bool} {l : List V} (h : l.all f = true) {j : Nat} {v : V} (hj : l[j]? = some v) : f v = true := List.all_eq_true.1 h v (List.mem_of_getElem? hj)
/-! ### Functions that give scalars -/
/-- A value that leads to no box. -/
def V.flat : Nat → V → Bool
  | 0, _ => false
  | n + 1, v => match v with
    | .val _ | .sym .. => true
    | .cptr cs | .agg cs | .tuple cs => cs.all (V.flat n)
    | .list _ es tok => (match tok with | .own .. => false | _ => true) && es.all fun c => c.all (V.flat n)
    | .sli _ _ _ tok => (match tok with | .own .. => false | _ => true)
    | _ => false
theorem V.flat_any {φ : Froz} {γ γ' : Place} {v : V} {x : Value} (h : VRel φ γ v x) : ∀ {n : Nat}, V.flat n v = true → VRel φ γ' v x := by
  induction h with
  | val h => intro n _; exact .val h
  | sym h => intro n _; exact .sym h
  | cptr f h1 h2 _ ih =>
    intro n hl
    cases n with
    | zero => simp [V.flat] at hl
    | succ n =>
      simp only [V.flat] at hl
      exact .cptr f h1 h2 (fun j v hj => ih j v hj (mem_all hl hj))
  | lnil => intro n _; exact .lnil
  | @list es tok a cap sz f h1 h2 h3 h4 h5 _ h7 ih =>
    intro n hl
    cases n with
    | zero => simp [V.flat] at hl
    | succ n =>
      simp only [V.flat, Bool.and_eq_true] at hl
      refine .list sz f h1 h2 h3 h4 h5 (fun i c hc j v hj => ih i c hc j v hj (n := n) ?_) ?_
      · have := List.all_eq_true.1 hl.2 c (List.mem_of_getElem? hc)
        exact mem_all this hj
      · cases tok with
        | own b s => simp at hl
        | full => exact h7
        | unk => trivial
  | @sli k nl e tok v hv _ =>
    intro n hl
    cases n with
    | zero => simp [V.flat] at hl
    | succ n =>
      simp only [V.flat] at hl
      refine .sli ?_
      rcases hv.list_inv with ⟨h1, h2, rfl⟩ | ⟨h1, a, cap, sz, f, rfl, hli⟩
      · rw [h1, h2]
        exact .lnil
      · rw [h1]
        refine VRel.list_mk sz f hli.spot hli.le hli.max hli.row (fun j v hj => ?_) ?_
        · obtain ⟨q1, q2, q3⟩ := hli.cell j v hj
          obtain ⟨c, hc, hvc⟩ := List.mem_flatten.1 (List.mem_of_getElem? hj)
          exact ⟨q1, q2, rows_free c hc v hvc φ φ γ γ' _ rfl q3⟩
        · have ht := hli.tok
          cases tok with
          | own b s => simp at hl
          | full => exact ht
          | unk => trivial
  | agg h1 h2 _ ih =>
    intro n hl
    cases n with
    | zero => simp [V.flat] at hl
    | succ n =>
      simp only [V.flat] at hl
      exact .agg h1 h2 (fun j v hj => ih j v hj (mem_all hl hj))
  | tuple h1 _ ih =>
    intro n hl
    cases n with
    | zero => simp [V.flat] at hl
    | succ n =>
      simp only [V.flat] at hl
      exact .tuple h1 (fun j v hj => ih j v hj (mem_all hl hj))
  | top => intro n hl; cases n <;> simp [V.flat] at hl
  | _ => intro n hl; cases n <;> simp [V.flat] at hl
/-- A value of scalars alone. -/
def V.scal : Nat → V → Bool
  | 0, _ => false
  | n + 1, v => match v with
    | .val _ | .sym .. => true
    | .agg cs | .tuple cs => cs.all (V.scal n)
    | _ => false
theorem V.scal_any {φ φ' : Froz} (hφ : φ'.rho = φ.rho) {γ γ' : Place} {v : V} {x : Value} (h : VRel φ γ v x) : ∀ {n : Nat}, V.scal n v = true → VRel φ' γ' v x := by
  induction h with
  | val h => intro n _; exact .val h
  | sym h => intro n _; exact .sym (by rw [hφ]; exact h)
  | agg h1 h2 _ ih =>
    intro n hl
    cases n with
    | zero => simp [V.scal] at hl
    | succ n =>
      simp only [V.scal] at hl
      exact .agg h1 h2 (fun j v hj => ih j v hj (mem_all hl hj))
  | tuple h1 _ ih =>
    intro n hl
    cases n with
    | zero => simp [V.scal] at hl
    | succ n =>
      simp only [V.scal] at hl
      exact .tuple h1 (fun j v hj => ih j v hj (mem_all hl hj))
  | _ => intro n hl; cases n <;> simp [V.scal] at hl

theorem calls_flat {P : Program} {tb : Tb} (hok : tb.Ok P) (hwf : tb.Wf) (hsp : SpecOk P tb) {n f : Nat} {args : List V} {L : List (V × Heap)} (h : call P tb n f args H0 = some L) (hfl : (args.all (V.flat 12)) = true)
    {N : Nat} {φ : Froz} {γ : Place} {H : Heap} {w : World} {args' : Array Value} (hr : Rel N φ γ H w) (hg : GlobOk φ tb) (ha : ArgsRel φ γ args args') :
    Calls P f args' w (fun e w' => ∃ r, r ∈ L ∧ ∃ cv, e = .returned cv ∧ Go.RowKit.Below w.heap.size w w' ∧ (V.scal 12 r.1 = true → VRel φ γ r.1 cv)) := by
  have h0 : Rel N φ (fun _ => none) H0 w := ⟨hr.ge, fun b k h => by simp [H0, Heap.get] at h, hr.froz, fun b x h => by simp at h, fun b x k h => by simp at h, fun b x k h => by simp at h, fun b x k b' x' k' h => by simp at h⟩
  obtain ⟨Lim, hLim⟩ := top_of L
  have ha0 : ArgsRel φ (fun _ => none) args args' := ⟨ha.1, fun j v hj => V.flat_any (ha.2 j v hj) (mem_all hfl hj)⟩
  refine ((call_sound hok hwf hsp n).1 f args H0 L (call_lt h) h N Lim φ (fun _ => none) w args' h0 (Nat.le_refl _) hg hLim (fun _ _ _ => rfl) ha0).mono ?_
  rintro e w' ⟨r, hrM, φ', γ', cv, T, rfl, hs, hv⟩
  exact ⟨r, hrM, cv, rfl, ⟨hs.os, hs.tape, hs.output, hs.size, fun i hi => hs.fr i hi (fun b x hx => by simp at hx)⟩, fun hsc => V.scal_any hs.fle.rho.symm hv hsc⟩
end
end Go.Sx
