/- Contracts told by values, of functions that read blocks of the heap. -/
import Derived.Test.YtaidiaiedhbaoaaSxT
/- Contracts told by values, of functions that read blocks of the heap. -/
set_option linter.unusedVariables false
set_option linter.unusedSimpArgs false
namespace Go.Sx
noncomputable section
open Go.RowKit

/-- Values that point at some blocks alone. -/
def V.flatB (bs : Nat → Bool) : Nat → V → Bool
  | 0, _ => false
  | n + 1, v => match v with
    | .val _ | .sym .. => true
    | .ptr b _ => bs b
    | .cptr cs | .agg cs | .tuple cs => cs.all (V.flatB bs n)
    | .sli _ _ _ tok => (match tok with | .own .. => false | _ => true)
    | .list _ es tok => (match tok with | .own .. => false | _ => true) && es.all fun c => c.all (V.flat 12)
    | _ => false
theorem V.flatB_any {bs : Nat → Bool} {φ : Froz} {γ γ' : Place} (hb : ∀ b, bs b = true → γ' b = γ b) {v : V} {x : Value} (h : VRel φ γ v x) : ∀ {n : Nat}, V.flatB bs n v = true → VRel φ γ' v x := by
  induction h with
  | val h => intro n _; exact .val h
  | sym h => intro n _; exact .sym h
  | @ptr b off cb m e h =>
    intro n hl
    cases n with
    | zero => simp [V.flatB] at hl
    | succ n =>
      simp only [V.flatB] at hl
      exact .ptr (by rw [hb b hl]; exact h)
  | cptr f h1 h2 _ ih =>
    intro n hl
    cases n with
    | zero => simp [V.flatB] at hl
    | succ n =>
      simp only [V.flatB] at hl
      exact .cptr f h1 h2 (fun j v hj => ih j v hj (mem_all hl hj))
  | lnil => intro n _; exact .lnil
  | @list es tok a cap sz f h1 h2 h3 h4 h5 h6 h7 _ =>
    intro n hl
    cases n with
    | zero => simp [V.flatB] at hl
    | succ n =>
      simp only [V.flatB] at hl
      exact V.flat_any (.list sz f h1 h2 h3 h4 h5 h6 h7) (n := 13) hl
  | @sli k nl e tok v hv _ =>
    intro n hl
    cases n with
    | zero => simp [V.flatB] at hl
    | succ n =>
      simp only [V.flatB] at hl
      exact V.flat_any (.sli hv) (n := 1) hl
  | agg h1 h2 _ ih =>
    intro n hl
    cases n with
    | zero => simp [V.flatB] at hl
    | succ n =>
      simp only [V.flatB] at hl
      exact .agg h1 h2 (fun j v hj => ih j v hj (mem_all hl hj))
  | tuple h1 _ ih =>
    intro n hl
    cases n with
    | zero => simp [V.flatB] at hl
    | succ n =>
      simp only [V.flatB] at hl
      exact .tuple h1 (fun j v hj => ih j v hj (mem_all hl hj))
  | _ => intro n hl; cases n <;> simp [V.flatB] at hl

/-! ### A small heap -/
abbrev Hp := List (Nat × List V)
def hpTab : Hp → Tr Blk
  | [] => .leaf
  | q :: l => (hpTab l).set q.1 (.cells q.2)
def hpNext : Hp → Nat
  | [] => 0
  | q :: l => max (q.1 + 1) (hpNext l)
def hpOf (l : Hp) : Heap := { tab := hpTab l, next := hpNext l, base := hpNext l, low := none }
def hpHas (l : Hp) (b : Nat) : Bool := l.any fun q => Nat.beq q.1 b
theorem hpOf_get : ∀ {l : Hp} {b : Nat} {k : Blk}, (hpOf l).get b = some k → ∃ q, q ∈ l ∧ q.1 = b ∧ k = .cells q.2 ∧ b < hpNext l
  | [], b, k, h => by simp [hpOf, hpTab, Heap.get, Tr.get] at h
  | q :: l, b, k, h => by
    have h : ((hpTab l).set q.1 (.cells q.2)).get b = some k := h
    rw [Tr.get_set] at h
    split at h
    · rename_i hb
      cases h
      exact ⟨q, List.mem_cons_self, hb.symm, rfl, by show b < max (q.1 + 1) _; omega⟩
    · obtain ⟨q', h1, h2, h3, h4⟩ := hpOf_get (l := l) h
      exact ⟨q', List.mem_cons_of_mem _ h1, h2, h3, by show b < max (q.1 + 1) (hpNext l); omega⟩
theorem hpHas_mem {l : Hp} {q : Nat × List V} (h : q ∈ l) : hpHas l q.1 = true := List.any_eq_true.2 ⟨q, h, Nat.beq_refl _⟩
/-- The blocks' places alone. -/
def Place.only (γ : Place) (l : Hp) : Place := fun b => if hpHas l b then γ b else none
theorem Place.only_has {γ : Place} {l : Hp} {b : Nat} (h : hpHas l b = true) : γ.only l b = γ b := if_pos h
theorem Place.only_some {γ : Place} {l : Hp} {b : Nat} {x : Nat × Nat × Nat} (h : γ.only l b = some x) : hpHas l b = true ∧ γ b = some x := by
  unfold Place.only at h
  split at h
  · rename_i hc; exact ⟨hc, h⟩
  · exact absurd h (by simp)
def hpFlat (l : Hp) : Bool := l.all fun q => q.2.all (V.flatB (hpHas l) 12)
theorem Rel.only {N : Nat} {φ : Froz} {γ : Place} {H : Heap} {w : World} (h : Rel N φ γ H w) {l : Hp} (hl : ∀ q, q ∈ l → H.get q.1 = some (.cells q.2)) (hf : hpFlat l = true) : Rel N φ (γ.only l) (hpOf l) w where
  ge := h.ge
  keys b k hk := by
    obtain ⟨q, _, _, _, h4⟩ := hpOf_get hk
    exact h4
  froz := h.froz
  lt b x hx := h.lt b x (Place.only_some hx).2
  blk b x k hx hk := by
    obtain ⟨q, h1, rfl, rfl, _⟩ := hpOf_get hk
    obtain ⟨arr, T, g1, g2, g3, g4⟩ := h.blk _ x _ (Place.only_some hx).2 (hl q h1)
    refine ⟨arr, T, g1, g2, g3, fun j v hj => ⟨(g4 j v hj).1, V.flatB_any (fun b hb => Place.only_has hb) (g4 j v hj).2 (n := 12) ?_⟩⟩
    exact List.all_eq_true.1 (List.all_eq_true.1 hf q h1) v (List.mem_of_getElem? hj)
  free b x k hx hk := by
    obtain ⟨q, h1, rfl, rfl, _⟩ := hpOf_get hk
    exact h.free _ x _ (Place.only_some hx).2 (hl q h1)
  inj b x k b' x' k' hx hx' hk hk' := by
    obtain ⟨q, h1, rfl, rfl, _⟩ := hpOf_get hk
    obtain ⟨q', h1', rfl, rfl, _⟩ := hpOf_get hk'
    exact h.inj _ x _ _ x' _ (Place.only_some hx).2 (Place.only_some hx').2 (hl q h1) (hl q' h1')
/-- What a call does that writes no block of its caller's. -/
theorem Step.frame {N : Nat} {φ φ' : Froz} {γ γk γk' : Place} {H Hk H' : Heap} {w w' : World} {T : Nat → Prop} (hR : Rel N φ γ H w) (hs : Step N φ γk Hk w φ' γk' H' w' T) (hT : ∀ b x, γk b = some x → ¬ T b) : Step N φ γ H w φ' γ H w' (fun _ => False) where
  fle := hs.fle
  ple := PLe.refl _
  rel := {
    ge := Nat.le_trans hR.ge hs.size
    keys := hR.keys
    froz := hs.rel.froz
    lt := fun b x hx => ⟨Nat.lt_of_lt_of_le (hR.lt b x hx).1 hs.size, (hR.lt b x hx).2⟩
    blk := fun b x k hx hk => (hR.blk b x k hx hk).mono hs.fle (PLe.refl _) (fun _ => hs.fr _ (hR.lt b x hx).1 (fun b' y hy ht => absurd ht (hT b' y hy)))
    free := fun b x k hx hk hk2 o ho => by
      cases h : φ' x.1 o with
      | none => rfl
      | some v =>
        rcases hs.fdom _ _ _ h with h1 | h1 | ⟨b', y, ht, hy, _⟩
        · rw [hR.free b x k hx hk hk2 o ho] at h1
          exact absurd h1 (by simp)
        · have := (hR.lt b x hx).1
          omega
        · exact absurd ht (hT b' y hy)
    inj := hR.inj }
  os := hs.os
  tape := hs.tape
  output := hs.output
  size := hs.size
  next := Nat.le_refl _
  base := rfl
  fr k hk _ := hs.fr k hk (fun b x hx ht => absurd ht (hT b x hx))
  dom b x h := .inl h
  tlt b h := h.elim
  low b _ h := h.resolve_right id
  mono b h := h
  fdom c o v h := by
    rcases hs.fdom _ _ _ h with h1 | h1 | ⟨b', y, ht, hy, _⟩
    · exact .inl h1
    · exact .inr (.inl h1)
    · exact absurd ht (hT b' y hy)

/-! ### Contracts -/
/-- What a function returns at arguments and blocks told by unknowns. -/
def FncV (P : Program) (gl : Nat → Option (List Value)) (ρ : Nat → Value) (f : Nat) (args : List V) (hp : Hp) (res : V) : Prop :=
  ∀ (N : Nat) (φ : Froz) (γ : Place) (H : Heap) (w : World) (args' : Array Value), Rel N φ γ H w → (∀ g l, gl g = some l → ∀ j v, l[j]? = some v → φ g j = some v) → φ.rho = ρ → (∀ q, q ∈ hp → H.get q.1 = some (.cells q.2)) → ArgsRel φ γ args args' → Calls P f args' w (Told N φ γ H w [(res, H)])
theorem FncR.v {P : Program} {gl : Nat → Option (List Value)} {ρ : Nat → Value} {f : Nat} {args : List V} {hp : Hp} {res : V} (h : FncR P gl ρ f args (res.atR ρ)) (hr : res.isRes = true) : FncV P gl ρ f args hp res := by
  intro N φ γ H w args' hR hg hφ _ ha
  refine (h N φ γ H w args' hR hg hφ ha).mono ?_
  rintro e' w' ⟨rfl, hb⟩
  refine ⟨_, List.mem_singleton_self _, φ, γ, _, _, rfl, Step.below hR hb, ?_⟩
  have := V.atR_rel (φ := φ) (γ := γ) hr
  rwa [hφ] at this
/-- Arguments told otherwise. -/
theorem FncV.sim {P : Program} {gl : Nat → Option (List Value)} {ρ : Nat → Value} {f : Nat} {args args1 : List V} {hp : Hp} {res : V} (h : FncV P gl ρ f args1 hp res) (hs : SimL ρ args args1) : FncV P gl ρ f args hp res := by
  intro N φ γ H w args' hR hg hφ hh ha
  refine h N φ γ H w args' hR hg hφ hh ⟨by rw [ha.1, hs.1], fun j v hj => ?_⟩
  obtain ⟨u, hu, hsim⟩ := hs.2 j v hj
  exact hsim.2 φ γ _ hφ (ha.2 j u hu)
/-- The result told otherwise. -/
theorem FncV.res {P : Program} {gl : Nat → Option (List Value)} {ρ : Nat → Value} {f : Nat} {args : List V} {hp : Hp} {res res1 : V} (h : FncV P gl ρ f args hp res1) (hs : Sim ρ res1 res) : FncV P gl ρ f args hp res := by
  intro N φ γ H w args' hR hg hφ hh ha
  refine (h N φ γ H w args' hR hg hφ hh ha).mono ?_
  rintro e' w' ⟨r, hr, φ', γ', cv, T, rfl, h1, h2⟩
  rw [List.mem_singleton.1 hr] at h1 h2
  exact ⟨_, List.mem_singleton_self _, φ', γ', cv, T, rfl, h1, hs.2 φ' γ' _ (h1.fle.rho.trans hφ) h2⟩

def outV (pat : Nat → Bool) (res : V) (r : PC × V × Heap) : Option (PC × List Upd) :=
  match r.2.2.low with
  | none => (fitV pat (fun _ => true) 0 [] 12 r.2.1 res).map fun us => (r.1, us)
  | some _ => none
def outsVL (pat : Nat → Bool) (res : V) : List (PC × V × Heap) → Option (List (PC × List Upd))
  | [] => some []
  | r :: l => (outV pat res r).bind fun x => (outsVL pat res l).map fun xs => x :: xs
/-- The ways of a run, as what they say of the result's unknowns. -/
def outsV (pat : Nat → Bool) (res : V) (L : Option (List (PC × V × Heap))) : Option (List (PC × List Upd)) := L.bind (outsVL pat res)
theorem outsVL_at {pat : Nat → Bool} {res : V} : ∀ {L : List (PC × V × Heap)} {M : List (PC × List Upd)}, outsVL pat res L = some M → ∀ r, r ∈ L → ∃ us, (r.1, us) ∈ M ∧ r.2.2.low = none ∧ fitV pat (fun _ => true) 0 [] 12 r.2.1 res = some us
  | [], M, _, r, hr => by simp at hr
  | q :: l, M, h, r, hr => by
    simp only [outsVL, Option.bind_eq_some_iff, Option.map_eq_some_iff] at h
    obtain ⟨x, h1, ys, h2, rfl⟩ := h
    rcases List.mem_cons.1 hr with rfl | hr
    · unfold outV at h1
      split at h1
      · rename_i hlow
        simp only [Option.map_eq_some_iff] at h1
        obtain ⟨us, h3, rfl⟩ := h1
        exact ⟨us, List.mem_cons_self, hlow, h3⟩
      · exact absurd h1 (by simp)
    · obtain ⟨us, h3, h4⟩ := outsVL_at h2 r hr
      exact ⟨us, List.mem_cons_of_mem _ h3, h4⟩
section
variable {P : Program} {tb : Tb} (hok : tb.Ok P) (hwf : tb.Wf)
include hok hwf
/-- **A run at unknowns, over some blocks, is a contract.** -/
theorem fncV_run {ρ : Nat → Value} {sp : Nat → List V → Heap → Option (V × List (SE × Bool))} {lp : Nat → St → Option OTree} (hsp : SpecOk P (tb.atS ρ sp lp)) {kn : Nat → Option V} {n0 n1 : Nat} (hk : KnOk kn (call P (tb.atS ρ sp lp) n0)) {pc : PC} (hp : pc.holds ρ) {f : Nat} {args : List V} {hp0 : Hp} (hflat : (Nat.blt f roundBase && (hpFlat hp0 && args.all (V.flatB (hpHas hp0) 12))) = true)
    {pat : Nat → Bool} {res : V} {M : List (PC × List Upd)} (hrun : outsV pat res (callF kn P (tb.atS ρ sp lp) n0 n1 pc f args (hpOf hp0)) = some M) (hM : ∀ q, q ∈ M → q.1.holds ρ → UpdOk ρ ρ q.2) : FncV P tb.glob ρ f args hp0 res := by
  intro N φ γ H w args' hr hg hφ hh ha
  rw [Bool.and_eq_true, Bool.and_eq_true] at hflat
  obtain ⟨hlt, hflat⟩ := hflat
  have hlt : f < roundBase := by simpa [Nat.blt_eq] using hlt
  unfold outsV at hrun
  simp only [Option.bind_eq_some_iff] at hrun
  obtain ⟨L, hL, hLM⟩ := hrun
  obtain ⟨r, h3, h4, h5⟩ := callF_ok (fun f args H r hr q hq => (hsp.fns f args H r hr).2.1 q hq) hk n1 _ _ _ _ _ hL hp
  obtain ⟨us, h6, h7, h8⟩ := outsVL_at hLM r h3
  have h0 : Rel N φ (γ.only hp0) (hpOf hp0) w := hr.only hh hflat.1
  obtain ⟨Lim, hLim⟩ := top_of [r.2]
  have ha0 : ArgsRel φ (γ.only hp0) args args' := ⟨ha.1, fun j v hj => V.flatB_any (fun b hb => Place.only_has hb) (ha.2 j v hj) (mem_all hflat.2 hj)⟩
  refine ((call_sound (tb := tb.atS ρ sp lp) (hok.atS ρ sp lp) hwf hsp (n0 + n1)).1 f args (hpOf hp0) _ hlt h5 N Lim φ (γ.only hp0) w args' h0 (Nat.le_refl _) ⟨hg, hφ⟩ hLim (fun b hb _ => ?_) ha0).mono ?_
  · cases hx : γ.only hp0 b with
    | none => rfl
    | some x =>
      obtain ⟨h1, _⟩ := Place.only_some hx
      obtain ⟨q, hq, he⟩ := List.any_eq_true.1 h1
      have := Nat.eq_of_beq_eq_true he
      subst this
      have hlt : ∀ {l : Hp} {q : Nat × List V}, q ∈ l → q.1 < hpNext l := by
        intro l
        induction l with
        | nil => intro q hq; simp at hq
        | cons p l ih =>
          intro q hq
          show q.1 < max (p.1 + 1) (hpNext l)
          rcases List.mem_cons.1 hq with rfl | hq
          · omega
          · have := ih hq
            omega
      have := hlt hq
      have hb : hpNext hp0 ≤ q.1 := hb
      omega
  · rintro e w' ⟨r', hr', φ', γ', cv, T, rfl, hs, hv⟩
    rw [List.mem_singleton.1 hr'] at hs hv
    have hρ : φ'.rho = ρ := hs.fle.rho.trans hφ
    have e1 : φ'.re ρ = φ' := by rw [← hρ]; rfl
    refine ⟨(res, H), List.mem_singleton_self _, φ', γ, cv, _, rfl, Step.frame hr hs (fun b x hx ht => ?_), ?_⟩
    · obtain ⟨h1, _⟩ := Place.only_some hx
      have hlt : b < hpNext hp0 := by
        obtain ⟨q, hq, he⟩ := List.any_eq_true.1 h1
        have := Nat.eq_of_beq_eq_true he
        subst this
        have hlt : ∀ {l : Hp} {q : Nat × List V}, q ∈ l → q.1 < hpNext l := by
          intro l
          induction l with
          | nil => intro q hq; simp at hq
          | cons p l ih =>
            intro q hq
            show q.1 < max (p.1 + 1) (hpNext l)
            rcases List.mem_cons.1 hq with rfl | hq
            · omega
            · have := ih hq
              omega
        exact hlt hq
      have := hs.low b hlt (.inr ht)
      rw [h7] at this
      exact this
    · have := fitV_ok (ρ := ρ) (ρ' := ρ) (γ := γ') (γ' := γ) (n0 := 0) (π := []) (pat := pat) (low := fun _ => true) (fun n hn => rfl) hρ (fun b c hb => by simp [src, lookN] at hb) 12 h8 (hM _ h6 h4) hv
      rwa [e1] at this
end

/-! ### What a function gives, as a tree of decisions -/
inductive DT where
  | leaf (us : List Upd)
  | node (c : SE) (a b : DT)
def DT.us (ρ : Nat → Value) : DT → List Upd
  | .leaf us => us
  | .node c a b => if c.truth ρ = true then a.us ρ else b.us ρ
def sameUTy : UTy → UTy → Bool
  | .sc t, .sc t' => t == t'
  | .dat, .dat => true
  | _, _ => false
theorem sameUTy_eq {a b : UTy} (h : sameUTy a b = true) : a = b := by
  cases a <;> cases b <;> simp only [sameUTy, Bool.false_eq_true] at h
  · rw [eq_of_beq h]
  · rfl
def sameUpd (u v : Upd) : Bool := Nat.beq u.1 v.1 && (sameUTy u.2.1 v.2.1 && SE.beq u.2.2 v.2.2)
theorem sameUpd_eq (u v : Upd) (h : sameUpd u v = true) : u = v := by
  obtain ⟨a, b, c⟩ := u
  obtain ⟨a', b', c'⟩ := v
  unfold sameUpd at h
  rw [Bool.and_eq_true, Bool.and_eq_true] at h
  have h1 := Nat.eq_of_beq_eq_true h.1
  have h2 := sameUTy_eq h.2.1
  have h3 := SE.beq_eq h.2.2
  simp only at h1 h2 h3
  rw [h1, h2, h3]
/-- On a path, the tree gives what the path gives. -/
def DT.agree (pc : PC) (us : List Upd) : DT → Bool
  | .leaf vs => sameL sameUpd us vs
  | .node c a b => (match decideB pc c with
    | some true => a.agree pc us
    | some false => b.agree pc us
    | none => a.agree pc us && b.agree pc us)
theorem DT.agree_ok {ρ : Nat → Value} {pc : PC} {us : List Upd} (hp : pc.holds ρ) : ∀ {T : DT}, T.agree pc us = true → T.us ρ = us
  | .leaf vs, h => (sameL_eq sameUpd_eq h).symm
  | .node c a b, h => by
    unfold DT.agree at h
    unfold DT.us
    split at h
    · rename_i hc
      rw [if_pos (decideB_ok hp hc)]
      exact agree_ok hp h
    · rename_i hc
      rw [if_neg (by rw [decideB_ok hp hc]; simp)]
      exact agree_ok hp h
    · rw [Bool.and_eq_true] at h
      split
      · exact agree_ok hp h.1
      · exact agree_ok hp h.2
def agreeL (T : DT) : Option (List (PC × List Upd)) → Bool
  | none => false
  | some M => M.all fun q => T.agree q.1 q.2
section
variable {P : Program} {tb : Tb} (hok : tb.Ok P) (hwf : tb.Wf)
include hok hwf
/-- **A run that agrees with a tree** is a contract. -/
theorem fncV_tree {ρ : Nat → Value} {sp : Nat → List V → Heap → Option (V × List (SE × Bool))} {lp : Nat → St → Option OTree} (hsp : SpecOk P (tb.atS ρ sp lp)) {kn : Nat → Option V} {n0 n1 : Nat} (hk : KnOk kn (call P (tb.atS ρ sp lp) n0)) {pc : PC} (hp : pc.holds ρ) {f : Nat} {args : List V} {hp0 : Hp} (hflat : (Nat.blt f roundBase && (hpFlat hp0 && args.all (V.flatB (hpHas hp0) 12))) = true)
    {pat : Nat → Bool} {res : V} {T : DT} (hrun : agreeL T (outsV pat res (callF kn P (tb.atS ρ sp lp) n0 n1 pc f args (hpOf hp0))) = true) (hT : UpdOk ρ ρ (T.us ρ)) : FncV P tb.glob ρ f args hp0 res := by
  unfold agreeL at hrun
  split at hrun
  · exact absurd hrun (by simp)
  · rename_i M hM
    refine fncV_run hok hwf hsp hk hp hflat hM (fun q hq hpq => ?_)
    rw [← DT.agree_ok hpq (List.all_eq_true.1 hrun q hq)]
    exact hT
end

/-! ### Trees of numbers -/
def shapeL : List Upd → List Nat → Bool
  | [], [] => true
  | u :: us, k :: ks => Nat.beq u.1 k && (sameUTy u.2.1 (.sc (.int .i64)) && shapeL us ks)
  | _, _ => false
def DT.shape (ks : List Nat) : DT → Bool
  | .leaf us => shapeL us ks
  | .node _ a b => a.shape ks && b.shape ks
def atL (ρ : Nat → Value) : List Upd → Nat → Int
  | [], _ => 0
  | u :: _, 0 => u.2.2.num ρ
  | _ :: us, i + 1 => atL ρ us i
/-- A number that a tree gives. -/
def DT.at (ρ : Nat → Value) (i : Nat) (T : DT) : Int := atL ρ (T.us ρ) i
theorem DT.at_node (ρ : Nat → Value) (i : Nat) (c : SE) (a b : DT) : (DT.node c a b).at ρ i = if c.truth ρ = true then a.at ρ i else b.at ρ i := by
  unfold DT.at
  show atL ρ (if c.truth ρ = true then a.us ρ else b.us ρ) i = _
  split <;> rfl
theorem DT.at_leaf (ρ : Nat → Value) (i : Nat) (us : List Upd) : (DT.leaf us).at ρ i = atL ρ us i := rfl
theorem atL_zero (ρ : Nat → Value) (u : Upd) (us : List Upd) : atL ρ (u :: us) 0 = u.2.2.num ρ := rfl
theorem atL_succ (ρ : Nat → Value) (u : Upd) (us : List Upd) (i : Nat) : atL ρ (u :: us) (i + 1) = atL ρ us i := rfl
theorem shapeL_ok {ρ : Nat → Value} : ∀ {us : List Upd} {ks : List Nat}, shapeL us ks = true → (∀ i k, ks[i]? = some k → atL ρ us i = (SE.ivar .i64 k).num ρ) → UpdOk ρ ρ us
  | [], _, _, _ => .nil
  | u :: us, [], h, _ => by simp [shapeL] at h
  | u :: us, k :: ks, h, hk => by
    obtain ⟨n, t, e⟩ := u
    simp only [shapeL, Bool.and_eq_true] at h
    have h1 := Nat.eq_of_beq_eq_true h.1
    have h2 := sameUTy_eq h.2.1
    subst h1 h2
    exact UpdOk.int (hk 0 _ rfl) (shapeL_ok h.2.2 (fun i k hi => hk (i + 1) k hi))
theorem DT.shape_us {ρ : Nat → Value} {ks : List Nat} : ∀ {T : DT}, T.shape ks = true → shapeL (T.us ρ) ks = true
  | .leaf us, h => h
  | .node c a b, h => by
    simp only [DT.shape, Bool.and_eq_true] at h
    unfold DT.us
    split
    · exact shape_us h.1
    · exact shape_us h.2
/-- A tree of numbers says what the unknowns are. -/
theorem DT.upd {ρ : Nat → Value} {ks : List Nat} {T : DT} (h : T.shape ks = true) (hk : ∀ i k, ks[i]? = some k → T.at ρ i = (SE.ivar .i64 k).num ρ) : UpdOk ρ ρ (T.us ρ) := shapeL_ok (DT.shape_us h) hk
theorem DT.upd1 {ρ : Nat → Value} {k : Nat} {T : DT} (h : T.shape [k] = true) (hk : T.at ρ 0 = (SE.ivar .i64 k).num ρ) : UpdOk ρ ρ (T.us ρ) := DT.upd h (fun i k' hi => by
  cases i with
  | zero => simp at hi; subst hi; exact hk
  | succ i => simp at hi)

/-- A known function that reads some blocks. -/
structure EntryV where
  f : Nat
  args : List V
  hp : Hp := []
  res : V
  facts : List (SE × Bool) := []
def blkIs (H : Heap) (q : Nat × List V) : Bool :=
  match H.get q.1 with
  | some (.cells cs) => sameL argSame cs q.2
  | _ => false
theorem blkIs_eq {H : Heap} {q : Nat × List V} (h : blkIs H q = true) : H.get q.1 = some (.cells q.2) := by
  unfold blkIs at h
  split at h
  · rename_i cs hcs
    rw [hcs, sameL_eq argSame_eq h]
  · exact absurd h (by simp)
def spV : List EntryV → Nat → List V → Heap → Option (V × List (SE × Bool))
  | [] => fun _ _ _ => none
  | e :: l => fun f args H => if Nat.beq f e.f && (sameL argSame args e.args && e.hp.all (blkIs H)) then some (e.res, e.facts) else spV l f args H
structure EntryVOk (P : Program) (gl : Nat → Option (List Value)) (ρ : Nat → Value) (e : EntryV) : Prop where
  known : ∃ fn, P.funcs[e.f]? = some fn ∧ (fn.name == "runtime.NumGoroutine") = false ∧ fn.body.isNone = false
  facts : ∀ q, q ∈ e.facts → q.1.truth ρ = q.2
  fnc : FncV P gl ρ e.f e.args e.hp e.res
theorem spV_mem : ∀ {l : List EntryV} {f : Nat} {args : List V} {H : Heap} {r : V × List (SE × Bool)}, spV l f args H = some r → ∃ e, e ∈ l ∧ f = e.f ∧ args = e.args ∧ r = (e.res, e.facts) ∧ ∀ q, q ∈ e.hp → H.get q.1 = some (.cells q.2)
  | [], f, args, H, r, h => by simp [spV] at h
  | e :: l, f, args, H, r, h => by
    simp only [spV] at h
    split at h
    · rename_i hc
      simp only [Bool.and_eq_true] at hc
      cases h
      exact ⟨e, List.mem_cons_self, Nat.eq_of_beq_eq_true hc.1, sameL_eq argSame_eq hc.2.1, rfl, fun q hq => blkIs_eq (List.all_eq_true.1 hc.2.2 q hq)⟩
    · obtain ⟨e', h1, h2⟩ := spV_mem h
      exact ⟨e', List.mem_cons_of_mem _ h1, h2⟩
theorem spV_ok {P : Program} {tb : Tb} {ρ : Nat → Value} {l : List EntryV} (h : ∀ e, e ∈ l → EntryVOk P tb.glob ρ e) : SpecOk P (tb.atS ρ (spV l) (fun _ _ => none)) :=
  ⟨fun f args H r hr => by
    obtain ⟨e, h1, rfl, rfl, rfl, h2⟩ := spV_mem (l := l) hr
    have ho := h e h1
    exact ⟨ho.known, ho.facts, fun N φ γ w args' hR hg ha => ho.fnc N φ γ H w args' hR hg.at_ hg.rho h2 ha⟩, fun _ _ _ _ _ _ _ => LoopGood.none (fun _ _ => rfl)⟩
/-- An elder entry. -/
def Entry.v (e : Entry) : EntryV := { f := e.f, args := e.args, res := e.res, facts := e.facts }
theorem EntryOk.v {P : Program} {gl : Nat → Option (List Value)} {ρ : Nat → Value} {e : Entry} (h : EntryOk P gl ρ e) : EntryVOk P gl ρ e.v := ⟨h.known, h.facts, FncR.v h.fnc h.res⟩
end
end Go.Sx
