/- Known loops, as a list. -/
import Derived.Test.YtkjfpjammlihpaaDoorSxP
set_option linter.unusedVariables false
set_option linter.unusedSimpArgs false
namespace Go.Sx
noncomputable section

def startIs (l : List (Nat × STy × SE)) : Option (List (Nat × STy × SE)) → Bool
  | some m => sameL (fun x y => Nat.beq x.1 y.1 && (x.2.1 == y.2.1 && x.2.2.beq y.2.2)) m l
  | none => false
theorem startIs_eq {l : List (Nat × STy × SE)} {m : Option (List (Nat × STy × SE))} (h : startIs l m = true) : m = some l := by
  unfold startIs at h
  split at h
  · rw [sameL_eq (fun x y hxy => by
      simp only [Bool.and_eq_true] at hxy
      obtain ⟨x1, x2, x3⟩ := x
      obtain ⟨y1, y2, y3⟩ := y
      rw [show x1 = y1 from Nat.eq_of_beq_eq_true hxy.1, show x2 = y2 from eq_of_beq hxy.2.1, show x3 = y3 from SE.beq_eq hxy.2.2]) h]
  · exact absurd h (by simp)

/-- A loop that is known from a state on: where it starts, which temporaries are told by unknowns there, what they are at the start, where it goes. -/
structure LoopE where
  key : Nat
  hd : St
  ts : List Nat
  start : List (Nat × STy × SE)
  S : Nat → Bool
  tree : OTree
def LoopE.fits (e : LoopE) (k : Nat) (st : St) : Bool :=
  Nat.beq k e.key && (sameH st.h e.hd.h && (leTr e.S st.env (topT e.hd.env e.ts) && (startIs e.start (updOf st.env e.hd.env e.ts) && !inRound st.env)))
def lpOf : List LoopE → Nat → St → Option OTree
  | [] => fun _ _ => none
  | e :: l => fun k st => if e.fits k st then some e.tree else lpOf l k st
theorem lpOf_mem : ∀ {l : List LoopE} {k : Nat} {st : St} {t : OTree}, lpOf l k st = some t → ∃ e, e ∈ l ∧ e.fits k st = true ∧ t = e.tree
  | [], k, st, t, h => by simp [lpOf] at h
  | e :: l, k, st, t, h => by
    simp only [lpOf] at h
    split at h
    · rename_i hc
      cases h
      exact ⟨e, List.mem_cons_self, hc, rfl⟩
    · obtain ⟨e', h1, h2⟩ := lpOf_mem h
      exact ⟨e', List.mem_cons_of_mem _ h1, h2⟩

structure LoopEOk (P : Program) (tb : Tb) (ρ : Nat → Value) (sp : Nat → List V → Option (V × List (SE × Bool))) (nt : Nat) (d : Code) (e : LoopE) : Prop where
  start : UpdOk ρ ρ e.start
  known : SoundAt P (tb.atS ρ sp (fun _ _ => none)) nt (.code (.loop d)) e.hd [((e.tree.eval ρ).1, { env := (e.tree.eval ρ).2, h := e.hd.h })]

/-- **Known functions and known loops.** -/
theorem specL_of {P : Program} {tb : Tb} {ρ : Nat → Value} {sp : Nat → List V → Option (V × List (SE × Bool))} {l : List LoopE} (hsp : SpecOk P (tb.atS ρ sp (fun _ _ => none)))
    (h : ∀ f fn c, tb.func f = some fn → fn.body = some c → ∀ d, d ∈ loopsOf c → ∀ e, e ∈ l → loopK d = e.key → LoopEOk P tb ρ sp fn.ntmps d e) : SpecOk P (tb.atS ρ sp (lpOf l)) where
  fns f args r hr := ⟨(hsp.fns f args r hr).1, (hsp.fns f args r hr).2.1, fun N φ γ H w args' hR hg ha => (hsp.fns f args r hr).2.2 N φ γ H w args' hR ⟨hg.at_, hg.rho⟩ ha⟩
  loops f fn c hfn hc d hd := by
    intro st t ht
    have ht : lpOf l (loopK d) st = some t := ht
    obtain ⟨e, he, hf, rfl⟩ := lpOf_mem ht
    unfold LoopE.fits at hf
    simp only [Bool.and_eq_true, Bool.not_eq_true'] at hf
    obtain ⟨hk, hh, hle, hu, hin⟩ := hf
    have hh := sameH_eq hh
    have ok := h f fn c hfn hc d hd e he (Nat.eq_of_beq_eq_true hk)
    have hel : EnvLe ρ st.env ρ e.hd.env := env_le (fun _ _ => rfl) hle (startIs_eq hu) ok.start
    have hs := SoundAt.weaken (tb := tb.atS ρ sp (fun _ _ => none)) (tb' := tb.atS ρ sp (lpOf l)) rfl rfl hin (hd := e.hd) hh hel ok.known
    rw [← hh] at hs
    exact hs
end
end Go.Sx
