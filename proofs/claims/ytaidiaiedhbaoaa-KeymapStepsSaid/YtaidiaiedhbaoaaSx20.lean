/- A calculus over the interpreter: no fuel, one outcome. -/
import Derived.Test.YtaidiaiedhbaoaaSx19
/- A calculus over the interpreter: no fuel, one outcome. -/
set_option linter.unusedVariables false
set_option linter.unusedSimpArgs false
namespace Go.Sx
noncomputable section

def CLe (cl cl' : CallFn) : Prop := ∀ f args H L, cl f args H = some L → cl' f args H = some L
theorem CLe.refl (cl : CallFn) : CLe cl cl := fun _ _ _ _ h => h
theorem CLe.trans {a b c : CallFn} (h : CLe a b) (k : CLe b c) : CLe a c := fun _ _ _ _ x => k _ _ _ _ (h _ _ _ _ x)

theorem bindL_mono {α β : Type} {f g : α → Option (List β)} : ∀ {l : List α} {L : List β}, (∀ x Lx, f x = some Lx → g x = some Lx) → bindL l f = some L → bindL l g = some L
  | [], L, _, h => h
  | x :: l, L, hm, h => by
    simp only [bindL, Option.bind_eq_some_iff, Option.map_eq_some_iff] at h ⊢
    obtain ⟨A, hA, B, hB, he⟩ := h
    exact ⟨A, hm _ _ hA, B, bindL_mono hm hB, he⟩

section
variable {P : Program} {tb : Tb} {cl cl' : CallFn} (hc : CLe cl cl')
include hc

theorem boxed_mono (tb : Tb) : CLe (boxed cl tb) (boxed cl' tb) := by
  intro f args H L h
  unfold boxed at h ⊢
  split at h
  · rename_i hcd
    rw [if_pos hcd]
    simp only [Option.bind_eq_some_iff] at h ⊢
    obtain ⟨M, hM, h⟩ := h
    exact ⟨M, hc _ _ _ _ hM, h⟩
  · rename_i hcd
    rw [if_neg hcd]
    exact hc _ _ _ _ h

theorem one_mono (tb : Tb) : CLe (callOne cl tb) (callOne cl' tb) := by
  intro f args H L h
  unfold callOne at h ⊢
  split at h
  · exact h
  · exact boxed_mono hc tb _ _ _ _ h

theorem evalOp_mono {env : Env} {H : Heap} {o : Op} {L : List (V × Heap × Bool)} (h : evalOp cl P tb env H o = some L) : evalOp cl' P tb env H o = some L := by
  unfold evalOp at h ⊢
  split at h
  · rename_i hp
    rw [if_pos hp]; exact h
  · rename_i hp
    rw [if_neg hp]
    split at h
    · obtain ⟨M, hM, rfl⟩ := Option.map_eq_some_iff.1 h
      refine Option.map_eq_some_iff.2 ⟨M, ?_, rfl⟩
      unfold evalCall at hM ⊢
      simp only at hM ⊢
      split at hM
      · split at hM
        · rename_i hlt
          rw [if_pos hlt]
          exact one_mono hc tb _ _ _ _ hM
        · exact absurd hM (by simp)
      · exact hc _ _ _ _ hM
      · exact absurd hM (by simp)
    · exact h

theorem execOps_mono {ops : Array Oper} : ∀ {l : List Oper} {i : Nat} {hard : Marks} {st : St} {L : List (St × Marks)}, execOps cl P tb ops l i hard st = some L → execOps cl' P tb ops l i hard st = some L
  | [], i, hard, st, L, h => h
  | o :: l, i, hard, st, L, h => by
    simp only [execOps] at h ⊢
    split at h
    · exact absurd h (by simp)
    · exact execOps_mono h
    · simp only [Option.bind_eq_some_iff] at h ⊢
      obtain ⟨M, hM, h⟩ := h
      exact ⟨M, evalOp_mono hc hM, bindL_mono (fun x Lx hx => execOps_mono hx) h⟩

theorem stepC_mono {ih ih' : Tk → St → Option (List (Ex × St))} (hi : ∀ tk st L, ih tk st = some L → ih' tk st = some L) {tk : Tk} {st : St} {L : List (Ex × St)} (h : stepC cl P tb ih tk st = some L) : stepC cl' P tb ih' tk st = some L := by
  unfold stepC at h ⊢
  split at h
  · exact h
  · exact h
  · simp only [Option.bind_eq_some_iff] at h ⊢
    obtain ⟨M, hM, h⟩ := h
    exact ⟨M, execOps_mono hc hM, h⟩
  · simp only [Option.bind_eq_some_iff] at h ⊢
    obtain ⟨M, hM, h⟩ := h
    refine ⟨M, hi _ _ _ hM, bindL_mono (fun x Lx hx => ?_) h⟩
    split at hx
    · exact hi _ _ _ hx
    · exact hx
  · split at h
    · split at h
      · rename_i ht; rw [if_pos ht]; exact hi _ _ _ h
      · rename_i ht; rw [if_neg ht]; exact hi _ _ _ h
    · exact absurd h (by simp)
  · obtain ⟨M, hM, he⟩ := Option.map_eq_some_iff.1 h
    exact Option.map_eq_some_iff.2 ⟨M, hi _ _ _ hM, he⟩
  · split at h
    · exact h
    simp only [Option.bind_eq_some_iff] at h ⊢
    obtain ⟨M, hM, h⟩ := h
    refine ⟨M, hi _ _ _ hM, bindL_mono (fun x Lx hx => ?_) h⟩
    split at hx
    · exact hi _ _ _ hx
    · exact hx
  · exact h
  · exact h
  · exact h
  · unfold rangeFuncV at h ⊢
    split at h
    · exact absurd h (by simp)
    · rename_i hir
      rw [if_neg hir]
      split at h
      · split at h
        · rename_i hlt
          rw [if_pos hlt]
          simp only [Option.bind_eq_some_iff] at h ⊢
          obtain ⟨H1, hH1, M, hM, h⟩ := h
          exact ⟨H1, hH1, M, hc _ _ _ _ hM, h⟩
        · exact absurd h (by simp)
      · exact absurd h (by simp)
  · exact hi _ _ _ h
  · simp only [Option.bind_eq_some_iff] at h ⊢
    obtain ⟨M, hM, h⟩ := h
    refine ⟨M, hi _ _ _ hM, bindL_mono (fun x Lx hx => ?_) h⟩
    split at hx
    · split at hx
      · exact hi _ _ _ hx
      · exact hx
    · exact hx
  · exact absurd h (by simp)

theorem exec_mono0 : ∀ (n : Nat) (tk : Tk) (st : St) (L : List (Ex × St)), exec cl P tb n tk st = some L → exec cl' P tb n tk st = some L
  | 0, tk, st, L, h => by simp [exec] at h
  | n + 1, tk, st, L, h => stepC_mono hc (exec_mono0 n) h
end

theorem exec_step {P : Program} {tb : Tb} {cl : CallFn} (n : Nat) (tk : Tk) (st : St) : exec cl P tb (n + 1) tk st = stepC cl P tb (exec cl P tb n) tk st := rfl

theorem exec_succ {P : Program} {tb : Tb} {cl : CallFn} : ∀ (n : Nat) (tk : Tk) (st : St) (L : List (Ex × St)), exec cl P tb n tk st = some L → exec cl P tb (n + 1) tk st = some L
  | 0, tk, st, L, h => by simp [exec] at h
  | n + 1, tk, st, L, h => stepC_mono (CLe.refl cl) (exec_succ n) (ih := exec cl P tb n) h

theorem exec_mono {P : Program} {tb : Tb} {cl cl' : CallFn} (hc : CLe cl cl') {n m : Nat} (h : n ≤ m) {tk : Tk} {st : St} {L : List (Ex × St)} (hx : exec cl P tb n tk st = some L) : exec cl' P tb m tk st = some L := by
  induction h with
  | refl => exact exec_mono0 hc n tk st L hx
  | step _ ih => exact exec_succ _ _ _ _ ih

theorem stepCall_mono {P : Program} {tb : Tb} {cl cl' : CallFn} (hc : CLe cl cl') {n m : Nat} (hn : n ≤ m) : CLe (stepCall P tb n cl) (stepCall P tb m cl') := by
  intro f args H L h
  unfold stepCall at h ⊢
  split at h
  · rename_i hle
    rw [if_pos hle]
    obtain ⟨env, ps, asg, body, s, pend, M, hk, hl, hM, hL⟩ := stepRound_out h
    have hb : ∀ q Lq, bodyRoundV (exec cl P tb.bare n) (Nat.sub f roundBase) body q = some Lq → bodyRoundV (exec cl' P tb.bare m) (Nat.sub f roundBase) body q = some Lq := by
      intro q Lq hq
      obtain ⟨h1, env2, ps2, asg2, body2, pend2, M2, h2, h3, h4⟩ := bodyRoundV_out hq
      unfold bodyRoundV
      rw [h1]
      simp only [h2]
      rw [exec_mono hc hn h3]
      exact h4
    unfold stepRound
    simp only [hk]
    rw [if_pos (by rw [hl]; exact Nat.beq_refl _), exec_mono hc hn hM]
    exact bindL_mono hb hL
  rename_i hle
  rw [if_neg hle]
  split at h
  · exact h
  split at h
  · exact absurd h (by simp)
  · rename_i fn hfn
    split at h
    · exact absurd h (by simp)
    · rename_i c hcb
      split at h
      · rename_i hcond
        rw [if_pos hcond]
        simp only [Option.bind_eq_some_iff] at h ⊢
        obtain ⟨M, hM, h⟩ := h
        exact ⟨M, exec_mono hc hn hM, h⟩
      · exact absurd h (by simp)

theorem call_succ {P : Program} {tb : Tb} : ∀ n, CLe (call P tb n) (call P tb (n + 1))
  | 0 => by intro f args H L h; simp [call] at h
  | n + 1 => fun f args H L h => by
    obtain ⟨M, hM, rfl⟩ := Option.map_eq_some_iff.1 (show (stepCall P tb n (call P tb n) f args H).map (mergeL H) = some L from h)
    show (stepCall P tb (n + 1) (call P tb (n + 1)) f args H).map (mergeL H) = _
    rw [stepCall_mono (call_succ n) (Nat.le_succ n) f args H M hM]
    rfl

theorem call_mono {P : Program} {tb : Tb} {n m : Nat} (h : n ≤ m) : CLe (call P tb n) (call P tb m) := by
  induction h with
  | refl => exact CLe.refl _
  | step _ ih => exact ih.trans (call_succ _)

/-! ### The calculus -/
section
variable (P : Program) (tb : Tb)

/-- A call comes back with one outcome, of which Q holds. -/
def CallW (f : Nat) (args : List V) (H : Heap) (Q : V → Heap → Prop) : Prop := ∃ n v H', call P tb n f args H = some [(v, H')] ∧ Q v H'
def CodeW (tk : Tk) (st : St) (Q : Ex → St → Prop) : Prop := ∃ n e st', exec (call P tb n) P tb n tk st = some [(e, st')] ∧ Q e st'
def OpsW (ops : Array Oper) (l : List Oper) (i : Nat) (hard : Marks) (st : St) (Q : St → Marks → Prop) : Prop := ∃ n st' hard', execOps (call P tb n) P tb ops l i hard st = some [(st', hard')] ∧ Q st' hard'
def OpW (env : Env) (H : Heap) (o : Op) (Q : V → Heap → Bool → Prop) : Prop := ∃ n v H' s, evalOp (call P tb n) P tb env H o = some [(v, H', s)] ∧ Q v H' s
end

section
variable {P : Program} {tb : Tb}

theorem CallW.mono {f : Nat} {args : List V} {H : Heap} {Q Q' : V → Heap → Prop} (h : CallW P tb f args H Q) (hq : ∀ v H', Q v H' → Q' v H') : CallW P tb f args H Q' :=
  let ⟨n, v, H', h1, h2⟩ := h; ⟨n, v, H', h1, hq _ _ h2⟩
theorem CodeW.mono {tk : Tk} {st : St} {Q Q' : Ex → St → Prop} (h : CodeW P tb tk st Q) (hq : ∀ e st', Q e st' → Q' e st') : CodeW P tb tk st Q' :=
  let ⟨n, v, H', h1, h2⟩ := h; ⟨n, v, H', h1, hq _ _ h2⟩

/-- What the kernel has worked out. -/
theorem CallW.of {n f : Nat} {args : List V} {H : Heap} {v : V} {H' : Heap} {Q : V → Heap → Prop} (h : call P tb n f args H = some [(v, H')]) (hq : Q v H') : CallW P tb f args H Q := ⟨n, v, H', h, hq⟩

theorem OpW.call {env : Env} {H : Heap} {f : Operand} {args : Array Operand} {ats : Array TypeId} {g : Nat} {first captured : List V} {Q : V → Heap → Bool → Prop} (hf : ev tb env f = .func (.func g) first captured) (hgb : Nat.blt g roundBase = true)
    (hne : (first ++ args.toList.map (ev tb env) ++ captured).isEmpty = false) (hx : evalExt tb g (first ++ args.toList.map (ev tb env) ++ captured) = none)
    (h : CallW P tb g (first ++ args.toList.map (ev tb env) ++ captured) { H with base := H.next, low := none } (fun v H' => Q v (back H H') H'.low.isSome)) : OpW P tb env H (.call { callee := .value f, args, argTypes := ats }) Q := by
  obtain ⟨n, v, H', h1, h2⟩ := h
  refine ⟨n, v, back H H', H'.low.isSome, ?_, h2⟩
  unfold evalOp
  simp only [isPure, Bool.false_eq_true, if_false, evalCall, hf, hgb, if_true, callOne, hx, boxed, hne, Bool.false_and, h1]
  rfl

theorem OpW.of {env : Env} {H : Heap} {o : Op} {v : V} {H' : Heap} {s : Bool} {Q : V → Heap → Bool → Prop} (h : evalOp (fun _ _ _ => none) P tb env H o = some [(v, H', s)]) (hq : Q v H' s) : OpW P tb env H o Q :=
  ⟨0, v, H', s, evalOp_mono (fun _ _ _ _ h => by simp at h) h, hq⟩

theorem OpW.pure {env : Env} {H : Heap} {o : Op} {v : V} {Q : V → Heap → Bool → Prop} (hp : isPure o = true) (h : evalPure P tb env o = some v) (hq : Q v H false) : OpW P tb env H o Q :=
  .of (by unfold evalOp; rw [if_pos hp, h]; rfl) hq

theorem OpsW.nil {ops : Array Oper} {i : Nat} {hard : Marks} {st : St} {Q : St → Marks → Prop} (h : Q st hard) : OpsW P tb ops [] i hard st Q := ⟨0, st, hard, rfl, h⟩

theorem OpsW.skip {ops : Array Oper} {o : Oper} {l : List Oper} {i : Nat} {hard : Marks} {st : St} {Q : St → Marks → Prop} (hg : guardOk tb ops st.env o = some false) (h : OpsW P tb ops l (i + 1) hard { st with env := putT st.env o.dst V.undef } Q) : OpsW P tb ops (o :: l) i hard st Q := by
  obtain ⟨n, st', hard', h1, h2⟩ := h
  exact ⟨n, st', hard', by simp only [execOps, hg]; exact h1, h2⟩

theorem OpsW.cons {ops : Array Oper} {o : Oper} {l : List Oper} {i : Nat} {hard : Marks} {st : St} {Q : St → Marks → Prop} (hg : guardOk tb ops st.env o = some true)
    (h : OpW P tb st.env st.h o.op (fun v H' s => OpsW P tb ops l (i + 1) (addMark tb st.env st.h H' o.op s i hard) { env := putT st.env o.dst v, h := H' } Q)) : OpsW P tb ops (o :: l) i hard st Q := by
  obtain ⟨n, v, H', s, h1, m, st', hard', h2, h3⟩ := h
  refine ⟨max n m, st', hard', ?_, h3⟩
  simp only [execOps, hg]
  rw [evalOp_mono (call_mono (Nat.le_max_left n m)) h1]
  simp only [Option.bind_some, bindL, execOps_mono (call_mono (Nat.le_max_right n m)) h2, Option.map_some, List.append_nil]

theorem CodeW.skip {st : St} {Q : Ex → St → Prop} (h : Q .normal st) : CodeW P tb (.code .skip) st Q := ⟨1, _, _, rfl, h⟩
theorem CodeW.label {l : Nat} {st : St} {Q : Ex → St → Prop} (h : Q .normal st) : CodeW P tb (.code (.label l)) st Q := ⟨1, _, _, rfl, h⟩
theorem CodeW.exit {id : Nat} {st : St} {Q : Ex → St → Prop} (h : Q (.exit id) st) : CodeW P tb (.code (.exit id)) st Q := ⟨1, _, _, rfl, h⟩
theorem CodeW.goto {l : Nat} {st : St} {Q : Ex → St → Prop} (h : Q (.goto l) st) : CodeW P tb (.code (.goto l)) st Q := ⟨1, _, _, rfl, h⟩
theorem CodeW.ret {st : St} {Q : Ex → St → Prop} (h : Q .ret st) : CodeW P tb (.code .ret) st Q := ⟨1, _, _, rfl, h⟩

theorem CodeW.region {id : Nat} {ops : Array Oper} {st : St} {Q : Ex → St → Prop} (h : OpsW P tb ops ops.toList 0 [] st (fun st' _ => Q .normal st')) : CodeW P tb (.code (.region id ops false)) st Q := by
  obtain ⟨n, st', hard', h1, h2⟩ := h
  refine ⟨n + 1, .normal, st', ?_, h2⟩
  rw [exec_step]
  simp only [stepC, execOps_mono (call_succ n) h1, Option.bind_some, Bool.false_eq_true, if_false, List.map_cons, List.map_nil]

theorem CodeW.draw {id : Nat} {ops : Array Oper} {st : St} {Q : Ex → St → Prop} (h : OpsW P tb ops ops.toList 0 [] st (fun st' hard => drawOk ops hard = true ∧ Q .normal st')) : CodeW P tb (.code (.region id ops true)) st Q := by
  obtain ⟨n, st', hard', h1, h2, h3⟩ := h
  refine ⟨n + 1, .normal, st', ?_, h3⟩
  rw [exec_step]
  simp [stepC, execOps_mono (call_succ n) h1, h2]

theorem CodeW.lift {tk : Tk} {st : St} {e : Ex} {st' : St} {n m : Nat} (hnm : n ≤ m) (h : exec (call P tb n) P tb n tk st = some [(e, st')]) : exec (call P tb m) P tb m tk st = some [(e, st')] := exec_mono (call_mono hnm) hnm h

theorem CodeW.lift' {tk : Tk} {st : St} {e : Ex} {st' : St} {n m : Nat} (hnm : n ≤ m) (h : exec (call P tb n) P tb n tk st = some [(e, st')]) : exec (call P tb (m + 1)) P tb m tk st = some [(e, st')] := exec_mono (call_mono (by omega)) hnm h

theorem CodeW.seq {a b : Code} {st : St} {Q : Ex → St → Prop} (h : CodeW P tb (.code a) st (fun e st' => match e with | .normal => CodeW P tb (.code b) (forget tb (loopKey b + 1048576) st') Q | e => Q e st')) : CodeW P tb (.code (.seq a b)) st Q := by
  obtain ⟨n, e, st', h1, h2⟩ := h
  have other : e ≠ .normal → Q e st' → CodeW P tb (.code (.seq a b)) st Q := fun hne hq => by
    refine ⟨n + 1, e, st', ?_, hq⟩
    rw [exec_step]
    simp only [stepC, CodeW.lift' (Nat.le_refl n) h1, Option.bind_some, bindL]
    cases e <;> first | exact absurd rfl hne | rfl
  cases e with
  | normal =>
    obtain ⟨m, e2, st2, h3, h4⟩ := h2
    refine ⟨max n m + 1, e2, st2, ?_, h4⟩
    rw [exec_step]
    simp only [stepC, CodeW.lift' (Nat.le_max_left n m) h1, Option.bind_some, bindL, CodeW.lift' (Nat.le_max_right n m) h3, Option.map_some, List.append_nil]
  | exit i => exact other (by simp) h2
  | goto l => exact other (by simp) h2
  | ret => exact other (by simp) h2

theorem CodeW.loop {c : Code} {st : St} {Q : Ex → St → Prop} (hnl : tb.loopT (loopK c) st = none) (h : CodeW P tb (.code c) st (fun e st' => match e with | .normal => CodeW P tb (.code (.loop c)) (forget tb (loopKey c) st') Q | e => Q e st')) : CodeW P tb (.code (.loop c)) st Q := by
  obtain ⟨n, e, st', h1, h2⟩ := h
  have other : e ≠ .normal → Q e st' → CodeW P tb (.code (.loop c)) st Q := fun hne hq => by
    refine ⟨n + 1, e, st', ?_, hq⟩
    rw [exec_step]
    simp only [stepC, hnl, CodeW.lift' (Nat.le_refl n) h1, Option.bind_some, bindL]
    cases e <;> first | exact absurd rfl hne | rfl
  cases e with
  | normal =>
    obtain ⟨m, e2, st2, h3, h4⟩ := h2
    refine ⟨max n m + 1, e2, st2, ?_, h4⟩
    rw [exec_step]
    simp only [stepC, hnl, CodeW.lift' (Nat.le_max_left n m) h1, Option.bind_some, bindL, CodeW.lift' (Nat.le_max_right n m) h3, Option.map_some, List.append_nil]
  | exit i => exact other (by simp) h2
  | goto l => exact other (by simp) h2
  | ret => exact other (by simp) h2

theorem CodeW.cond {c : Operand} {x y : Code} {st : St} {t : Bool} {Q : Ex → St → Prop} (hc : condOf tb (ev tb st.env c) = some t) (hx : t = true → CodeW P tb (.code x) st Q) (hy : t = false → CodeW P tb (.code y) st Q) : CodeW P tb (.code (.cond c x y)) st Q := by
  cases t with
  | true =>
    obtain ⟨n, e, st', h1, h2⟩ := hx rfl
    refine ⟨n + 1, e, st', ?_, h2⟩
    rw [exec_step]
    simp only [stepC, hc, if_true, CodeW.lift' (Nat.le_refl n) h1]
  | false =>
    obtain ⟨n, e, st', h1, h2⟩ := hy rfl
    refine ⟨n + 1, e, st', ?_, h2⟩
    rw [exec_step]
    simp only [stepC, hc, Bool.false_eq_true, if_false, CodeW.lift' (Nat.le_refl n) h1]

def unblock (id : Nat) : Ex → Ex
  | .exit j => if j = id then .normal else .exit j
  | e => e

theorem CodeW.block {id : Nat} {c : Code} {st : St} {Q : Ex → St → Prop} (h : CodeW P tb (.code c) st (fun e st' => Q (unblock id e) st')) : CodeW P tb (.code (.block id c)) st Q := by
  obtain ⟨n, e, st', h1, h2⟩ := h
  refine ⟨n + 1, unblock id e, st', ?_, h2⟩
  rw [exec_step]
  simp only [stepC, CodeW.lift' (Nat.le_refl n) h1, Option.map_some, List.map_cons, List.map_nil]
  cases e <;> rfl

theorem CodeW.scope {c : Code} {st : St} {Q : Ex → St → Prop} (h : CodeW P tb (.within c c) st Q) : CodeW P tb (.code (.scope c)) st Q := by
  obtain ⟨n, e, st', h1, h2⟩ := h
  refine ⟨n + 1, e, st', ?_, h2⟩
  rw [exec_step]
  simp only [stepC, CodeW.lift' (Nat.le_refl n) h1]

theorem CodeW.within {body c : Code} {st : St} {Q : Ex → St → Prop} (h : CodeW P tb (.code c) st (fun e st' => match e with | .goto l => (match findLabel body l with | some rest => CodeW P tb (.within body rest) st' Q | none => Q (.goto l) st') | e => Q e st')) : CodeW P tb (.within body c) st Q := by
  obtain ⟨n, e, st', h1, h2⟩ := h
  have other : (∀ l, e ≠ .goto l) → Q e st' → CodeW P tb (.within body c) st Q := fun hne hq => by
    refine ⟨n + 1, e, st', ?_, hq⟩
    rw [exec_step]
    simp only [stepC, CodeW.lift' (Nat.le_refl n) h1, Option.bind_some, bindL]
    cases e <;> first | exact absurd rfl (hne _) | rfl
  cases e with
  | goto l =>
    simp only at h2
    cases hf : findLabel body l with
    | none =>
      rw [hf] at h2
      refine ⟨n + 1, .goto l, st', ?_, h2⟩
      rw [exec_step]
      simp only [stepC, CodeW.lift' (Nat.le_refl n) h1, Option.bind_some, bindL, hf, Option.map_some, List.append_nil]
    | some rest =>
      rw [hf] at h2
      obtain ⟨m, e2, st2, h3, h4⟩ := h2
      refine ⟨max n m + 1, e2, st2, ?_, h4⟩
      rw [exec_step]
      simp only [stepC, CodeW.lift' (Nat.le_max_left n m) h1, Option.bind_some, bindL, hf, CodeW.lift' (Nat.le_max_right n m) h3, Option.map_some, List.append_nil]
  | normal => exact other (by simp) h2
  | exit i => exact other (by simp) h2
  | ret => exact other (by simp) h2

/-- A function's body. -/
theorem CallW.body {f : Nat} {fn : Func} {c : Code} {args : List V} {H : Heap} {Q : V → Heap → Prop} (hle : Nat.ble roundBase f = false) (hns : tb.spec f args H = none) (hf : tb.func f = some fn) (hc : fn.body = some c) (hn : (fn.ntmps < 1048576 && args.length ≤ fn.ntmps) = true)
    (h : CodeW P tb (.code c) { env := putArgs 0 args .leaf, h := H } (fun e st' => (e = .normal ∨ e = .ret) ∧ ∃ v, resultsOf tb fn st' = some v ∧ Q v st'.h)) : CallW P tb f args H Q := by
  obtain ⟨n, e, st', h1, he, v, hv, hq⟩ := h
  refine ⟨n + 1, v, st'.h, ?_, hq⟩
  show (stepCall P tb n (call P tb n) f args H).map (mergeL H) = _
  unfold stepCall
  rw [hle, if_neg (by simp), hns]
  simp only [hf, hc]
  rw [if_pos hn, h1]
  simp only [Option.bind_some, bindL]
  rcases he with rfl | rfl <;> simp [hv, mergeL]

/-- To a law's row. -/
theorem CallW.law {f : Nat} {xs : List V} (h : CallW P tb f xs H0 (fun v _ => v = .val (.bool true))) : ∃ m L, call P tb m f xs H0 = some L ∧ ∀ r, r ∈ L → r.1 = .val (.bool true) := by
  obtain ⟨n, v, H', h1, h2⟩ := h
  exact ⟨n, _, h1, fun r hr => by simp at hr; subst hr; exact h2⟩
end

end
end Go.Sx
