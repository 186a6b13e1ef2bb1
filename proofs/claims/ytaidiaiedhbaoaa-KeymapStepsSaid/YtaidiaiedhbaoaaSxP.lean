/- Contracts of functions over scalars: a run at unknowns becomes a contract; contracts become known functions. -/
import Derived.Test.YtaidiaiedhbaoaaSxM
import Derived.Test.YtaidiaiedhbaoaaSxF1
/- Contracts of functions over scalars: a run at unknowns becomes a contract; contracts become known functions. -/
set_option linter.unusedVariables false
set_option linter.unusedSimpArgs false
namespace Go.Sx
noncomputable section
open Go.RowKit

/-- The value of a scalar. -/
def V.at1 (ρ : Nat → Value) : V → Value
  | .val v => v
  | .sym t e => e.val ρ t
  | _ => Go.undef
def V.atR (ρ : Nat → Value) : V → Value
  | .tuple vs => .tuple (vs.map (V.at1 ρ)).toArray
  | v => v.at1 ρ
def V.isScal : V → Bool
  | .val v => plain v
  | .sym .. => true
  | _ => false
def V.isRes : V → Bool
  | .tuple vs => vs.all V.isScal
  | v => v.isScal
theorem V.at1_eq {φ : Froz} {γ : Place} {v : V} {c : Value} (hs : v.isScal = true) (h : VRel φ γ v c) : c = v.at1 φ.rho := by
  cases v <;> simp only [V.isScal, Bool.false_eq_true] at hs
  · cases h; rfl
  · cases h with
    | sym h1 => exact h1
theorem V.at1_rel {φ : Froz} {γ : Place} {v : V} (hs : v.isScal = true) : VRel φ γ v (v.at1 φ.rho) := by
  cases v <;> simp only [V.isScal, Bool.false_eq_true] at hs
  · exact .val hs
  · exact .sym rfl
theorem V.atR_rel {φ : Froz} {γ : Place} {v : V} (hs : v.isRes = true) : VRel φ γ v (v.atR φ.rho) := by
  cases v with
  | tuple vs =>
    refine .tuple (by simp) (fun j v hj => ?_)
    have h1 : v.isScal = true := List.all_eq_true.1 hs v (List.mem_of_getElem? hj)
    rw [show (((vs.map (V.at1 φ.rho)).toArray).getD j Go.undef) = v.at1 φ.rho by simp [Array.getD_eq_getD_getElem?, hj]]
    exact V.at1_rel h1
  | val _ => exact V.at1_rel hs
  | sym _ _ => exact V.at1_rel hs
  | _ => exact absurd hs (by simp [V.isRes, V.isScal])
theorem V.atR_eq {φ : Froz} {γ : Place} {v : V} {c : Value} (hs : v.isRes = true) (h : VRel φ γ v c) : c = v.atR φ.rho := by
  cases v with
  | tuple vs =>
    cases h with
    | tuple h1 h2 =>
      show Value.tuple _ = Value.tuple _
      congr 1
      apply Array.ext
      · simp [h1]
      · intro i hi1 hi2
        have hi : i < vs.length := by omega
        have h3 := h2 i vs[i] (List.getElem?_eq_getElem hi)
        rw [(show ∀ a : Array Value, (hi : i < a.size) → a.getD i Go.undef = a[i] from fun a hi => by simp [Array.getD_eq_getD_getElem?, hi]) _ hi1] at h3
        have h4 : vs[i].isScal = true := List.all_eq_true.1 hs _ (List.getElem_mem _)
        rw [V.at1_eq h4 h3]
        simp
  | val _ => exact V.at1_eq (v := .val _) hs h
  | sym _ _ => exact V.at1_eq (v := .sym _ _) hs h
  | _ => exact absurd hs (by simp [V.isRes, V.isScal])
theorem args_at {φ : Froz} {γ : Place} {args : List V} {args' : Array Value} (hs : args.all V.isScal = true) (h : ArgsRel φ γ args args') : args' = (args.map (V.at1 φ.rho)).toArray := by
  apply Array.ext
  · simp [h.1]
  · intro i hi1 hi2
    have hi : i < args.length := by have := h.1; omega
    have h3 := h.2 i args[i] (List.getElem?_eq_getElem hi)
    rw [show (args'.getD i Go.undef) = args'[i] from by simp [Array.getD_eq_getD_getElem?, hi1]] at h3
    rw [V.at1_eq (List.all_eq_true.1 hs _ (List.getElem_mem _)) h3]
    simp

/-- What a function returns at arguments told by unknowns, in every memory that holds the listed variables. -/
def FncR (P : Program) (gl : Nat → Option (List Value)) (ρ : Nat → Value) (f : Nat) (args : List V) (res : Value) : Prop :=
  ∀ (N : Nat) (φ : Froz) (γ : Place) (H : Heap) (w : World) (args' : Array Value), Rel N φ γ H w → (∀ g l, gl g = some l → ∀ j v, l[j]? = some v → φ g j = some v) → φ.rho = ρ → ArgsRel φ γ args args' → Calls P f args' w (fun e w' => e = .returned res ∧ Below w.heap.size w w')

def V.isTup : V → Bool
  | .tuple _ => true
  | _ => false
/-- What a path gives, as scalars. -/
def scalOf (v : V) : Option (STy × SE) := toSE v
def allScal : List V → Option (List (STy × SE))
  | [] => some []
  | v :: l => (toSE v).bind fun x => (allScal l).map fun xs => x :: xs
def outOfV : V → Option (List (STy × SE))
  | .tuple vs => allScal vs
  | v => (toSE v).map fun x => [x]
def outsL : List (PC × V × Heap) → Option (List (PC × Bool × List (STy × SE)))
  | [] => some []
  | r :: l => (outOfV r.2.1).bind fun x => (outsL l).map fun xs => (r.1, r.2.1.isTup, x) :: xs
def outsF (L : Option (List (PC × V × Heap))) : Option (List (PC × Bool × List (STy × SE))) := L.bind outsL
def valsOf (ρ : Nat → Value) (l : List (STy × SE)) : List Value := l.map fun x => x.2.val ρ x.1
def retOf (tup : Bool) (l : List Value) : Value := if tup then .tuple l.toArray else l.headD Go.undef
theorem toSE_at {ρ : Nat → Value} {v : V} {x : STy × SE} (h : toSE v = some x) : v.isScal = true ∧ v.at1 ρ = x.2.val ρ x.1 := by
  unfold toSE at h
  split at h
  · cases h; exact ⟨rfl, rfl⟩
  · cases h; exact ⟨rfl, rfl⟩
  · cases h; exact ⟨rfl, rfl⟩
  · cases h; exact ⟨rfl, rfl⟩
  · exact absurd h (by simp)
theorem allScal_at {ρ : Nat → Value} : ∀ {vs : List V} {xs : List (STy × SE)}, allScal vs = some xs → vs.all V.isScal = true ∧ vs.map (V.at1 ρ) = valsOf ρ xs
  | [], xs, h => by cases h; exact ⟨rfl, rfl⟩
  | v :: l, xs, h => by
    simp only [allScal, Option.bind_eq_some_iff, Option.map_eq_some_iff] at h
    obtain ⟨x, h1, ys, h2, rfl⟩ := h
    obtain ⟨h3, h4⟩ := allScal_at (ρ := ρ) h2
    obtain ⟨h5, h6⟩ := toSE_at (ρ := ρ) h1
    exact ⟨by simp [h5, h3], by simp only [List.map_cons, h6, h4]; rfl⟩
theorem outOfV_at {ρ : Nat → Value} {v : V} {xs : List (STy × SE)} (h : outOfV v = some xs) : v.isRes = true ∧ v.atR ρ = retOf v.isTup (valsOf ρ xs) := by
  cases v with
  | tuple vs =>
    obtain ⟨h1, h2⟩ := allScal_at (ρ := ρ) (vs := vs) (xs := xs) h
    exact ⟨h1, by simp only [V.atR, h2]; rfl⟩
  | val v =>
    simp only [outOfV, Option.map_eq_some_iff] at h
    obtain ⟨x, h1, rfl⟩ := h
    obtain ⟨h2, h3⟩ := toSE_at (ρ := ρ) h1
    exact ⟨h2, h3⟩
  | sym t e =>
    simp only [outOfV, Option.map_eq_some_iff] at h
    obtain ⟨x, h1, rfl⟩ := h
    obtain ⟨h2, h3⟩ := toSE_at (ρ := ρ) h1
    exact ⟨h2, h3⟩
  | _ => simp [outOfV, toSE] at h
theorem outsL_at : ∀ {L : List (PC × V × Heap)} {M : List (PC × Bool × List (STy × SE))}, outsL L = some M → ∀ r, r ∈ L → ∃ xs, (r.1, r.2.1.isTup, xs) ∈ M ∧ outOfV r.2.1 = some xs
  | [], M, _, r, hr => by simp at hr
  | q :: l, M, h, r, hr => by
    simp only [outsL, Option.bind_eq_some_iff, Option.map_eq_some_iff] at h
    obtain ⟨x, h1, ys, h2, rfl⟩ := h
    rcases List.mem_cons.1 hr with rfl | hr
    · exact ⟨x, List.mem_cons_self, h1⟩
    · obtain ⟨xs, h3, h4⟩ := outsL_at h2 r hr
      exact ⟨xs, List.mem_cons_of_mem _ h3, h4⟩

section
variable {P : Program} {tb : Tb} (hok : tb.Ok P) (hwf : tb.Wf)
include hok hwf

/-- **A run at unknowns is a contract.** -/
theorem fnc_run {ρ : Nat → Value} {sp : Nat → List V → Heap → Option (V × List (SE × Bool))} {lp : Nat → St → Option OTree} (hsp : SpecOk P (tb.atS ρ sp lp)) {kn : Nat → Option V} {n0 n1 : Nat} (hk : KnOk kn (call P (tb.atS ρ sp lp) n0)) {pc : PC} (hp : pc.holds ρ) {f : Nat} {args : List V} (hargs : args.all (V.flat 12) = true)
    {M : List (PC × Bool × List (STy × SE))} (hrun : outsF (callF kn P (tb.atS ρ sp lp) n0 n1 pc f args H0) = some M) {res : Value} (hM : ∀ q, q ∈ M → q.1.holds ρ → retOf q.2.1 (valsOf ρ q.2.2) = res) : FncR P tb.glob ρ f args res := by
  intro N φ γ H w args' hr hg hφ ha
  unfold outsF at hrun
  simp only [Option.bind_eq_some_iff] at hrun
  obtain ⟨L, hL, hLM⟩ := hrun
  obtain ⟨r, h3, h4, h5⟩ := callF_ok (fun f args H r hr q hq => (hsp.fns f args H r hr).2.1 q hq) hk n1 _ _ _ _ _ hL hp
  refine (calls_flat (tb := tb.atS ρ sp lp) (φ := φ) (hok.atS _ _ _) hwf hsp h5 hargs hr ⟨hg, hφ⟩ ha).mono ?_
  rintro e w' ⟨q, hq, cv, rfl, hb, hv⟩
  rw [List.mem_singleton.1 hq] at hv
  obtain ⟨xs, h6, h7⟩ := outsL_at hLM r h3
  obtain ⟨h8, h9⟩ := outOfV_at (ρ := ρ) h7
  have hsc : V.scal 12 r.2.1 = true := by
    cases hv2 : r.2.1 with
    | tuple vs =>
      rw [hv2] at h8
      simp only [V.scal, List.all_eq_true]
      intro x hx
      have h1 : x.isScal = true := List.all_eq_true.1 h8 x hx
      cases x <;> simp only [V.isScal, Bool.false_eq_true] at h1 <;> rfl
    | val _ => rfl
    | sym _ _ => rfl
    | _ => rw [hv2] at h8; exact absurd h8 (by simp [V.isRes, V.isScal])
  have h10 := V.atR_eq h8 (hv hsc)
  refine ⟨?_, hb⟩
  rw [h10, hφ, h9]
  exact congrArg Ending.returned (hM _ h6 h4)
end
/-- The same arguments, told otherwise. -/
def fitArgs (l m : List V) : Option (List Upd) := fitL (fitV (fun _ => true) (fun _ => false) 0 [] 12) l m
theorem FncR.at {P : Program} {gl : Nat → Option (List Value)} {ρ ρ' : Nat → Value} {f : Nat} {args args1 : List V} {res : Value} (h : FncR P gl ρ' f args1 res) {us : List Upd} (hf : fitArgs args args1 = some us) (hu : UpdOk ρ ρ' us) : FncR P gl ρ f args res := by
  intro N φ γ H w args' hr hg hφ ha
  have hr' : Rel N (φ.re ρ') (fun _ => none) H0 w := ⟨hr.ge, fun b k h => by simp [H0, Heap.get] at h, hr.froz, fun b x h => by simp at h, fun b x k h => by simp at h, fun b x k h => by simp at h, fun b x k b' x' k' h => by simp at h⟩
  obtain ⟨h1, h2⟩ := fitL_ok hf
  refine h N (φ.re ρ') (fun _ => none) H0 w args' hr' hg rfl ⟨by rw [ha.1, h1], fun j v hj => ?_⟩
  obtain ⟨a, vs, h3, h4, h5⟩ := h2 j v hj
  exact fitV_ok (ρ := ρ) (ρ' := ρ') (γ := γ) (γ' := fun _ => none) (n0 := 0) (π := []) (fun n hn => by simp at hn) hφ (fun b c hb => by simp [src, lookN] at hb) 12 h4 (hu.sub h5) (ha.2 j a h3)

/-- A known function: what it gives, and what is known of that. -/
def argSame (a b : V) : Bool := V.same 12 a b
theorem argSame_eq (a b : V) (h : argSame a b = true) : a = b := V.same_eq 12 a b h
structure Entry where
  f : Nat
  args : List V
  res : V
  facts : List (SE × Bool) := []
def spOf (l : List Entry) : Nat → List V → Heap → Option (V × List (SE × Bool)) :=
  match l with
  | [] => fun _ _ _ => none
  | e :: l => fun f args H => if Nat.beq f e.f && sameL argSame args e.args then some (e.res, e.facts) else spOf l f args H
structure EntryOk (P : Program) (gl : Nat → Option (List Value)) (ρ : Nat → Value) (e : Entry) : Prop where
  known : ∃ fn, P.funcs[e.f]? = some fn ∧ (fn.name == "runtime.NumGoroutine") = false ∧ fn.body.isNone = false
  res : e.res.isRes = true
  facts : ∀ q, q ∈ e.facts → q.1.truth ρ = q.2
  fnc : FncR P gl ρ e.f e.args (e.res.atR ρ)
theorem spOf_mem : ∀ {l : List Entry} {f : Nat} {args : List V} {H : Heap} {r : V × List (SE × Bool)}, spOf l f args H = some r → ∃ e, e ∈ l ∧ f = e.f ∧ args = e.args ∧ r = (e.res, e.facts)
  | [], f, args, H, r, h => by simp [spOf] at h
  | e :: l, f, args, H, r, h => by
    simp only [spOf] at h
    split at h
    · rename_i hc
      simp only [Bool.and_eq_true] at hc
      cases h
      exact ⟨e, List.mem_cons_self, Nat.eq_of_beq_eq_true hc.1, sameL_eq argSame_eq hc.2, rfl⟩
    · obtain ⟨e', h1, h2⟩ := spOf_mem h
      exact ⟨e', List.mem_cons_of_mem _ h1, h2⟩
/-- Contracts, as known functions. -/
theorem spOf_fns {P : Program} {tb : Tb} {ρ : Nat → Value} {l : List Entry} {lp : Nat → St → Option OTree} (h : ∀ e, e ∈ l → EntryOk P tb.glob ρ e) : ∀ f args H r, (tb.atS ρ (spOf l) lp).spec f args H = some r → (∃ fn, P.funcs[f]? = some fn ∧ (fn.name == "runtime.NumGoroutine") = false ∧ fn.body.isNone = false) ∧ (∀ q, q ∈ r.2 → q.1.truth (tb.atS ρ (spOf l) lp).rho = q.2) ∧
    ∀ (N : Nat) (φ : Froz) (γ : Place) (w : World) (args' : Array Value), Rel N φ γ H w → GlobOk φ (tb.atS ρ (spOf l) lp) → ArgsRel φ γ args args' →
      Calls P f args' w (Told N φ γ H w [(r.1, H)]) := by
  intro f args H r hr
  obtain ⟨e, h1, rfl, rfl, rfl⟩ := spOf_mem (l := l) hr
  have ho := h e h1
  refine ⟨ho.known, ho.facts, fun N φ γ w args' hR hg ha => ?_⟩
  have hρ : φ.rho = ρ := hg.rho
  refine (ho.fnc N φ γ H w args' hR hg.at_ hρ ha).mono ?_
  rintro e' w' ⟨rfl, hb⟩
  refine ⟨_, List.mem_singleton_self _, φ, γ, _, _, rfl, Step.below hR hb, ?_⟩
  have := V.atR_rel (φ := φ) (γ := γ) ho.res
  rwa [hρ] at this
theorem spOf_ok {P : Program} {tb : Tb} {ρ : Nat → Value} {l : List Entry} (h : ∀ e, e ∈ l → EntryOk P tb.glob ρ e) : SpecOk P (tb.atS ρ (spOf l) (fun _ _ => none)) :=
  ⟨spOf_fns h, fun _ _ _ _ _ _ _ => LoopGood.none (fun _ _ => rfl)⟩
end
end Go.Sx
