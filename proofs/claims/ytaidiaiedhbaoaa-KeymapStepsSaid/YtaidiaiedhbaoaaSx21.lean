/- Pieces of code that the kernel works out. -/
import Derived.Test.YtaidiaiedhbaoaaSx20
/- Pieces of code that the kernel works out. -/
set_option linter.unusedVariables false
set_option linter.unusedSimpArgs false
namespace Go.Sx
noncomputable section

def one1 {α : Type} : Option (List α) → Option α
  | some [a] => some a
  | _ => none

theorem one1_eq {α : Type} {x : Option (List α)} {a : α} (h : one1 x = some a) : x = some [a] := by
  unfold one1 at h
  split at h
  · cases h; rfl
  · exact absurd h (by simp)

def isTrue : Option (List (V × Heap)) → Bool
  | some [(.val (.bool b), _)] => b
  | _ => false

theorem isTrue_eq {x : Option (List (V × Heap))} (h : isTrue x = true) : ∃ H', x = some [(.val (.bool true), H')] := by
  unfold isTrue at h
  split at h
  · subst h; exact ⟨_, rfl⟩
  · exact absurd h (by simp)

/-- Operations, each of one outcome. -/
def runOps (cl : CallFn) (P : Program) (tb : Tb) (ops : Array Oper) : List Oper → Nat → Marks → St → Option (St × Marks)
  | [], _, hard, st => some (st, hard)
  | o :: l, i, hard, st =>
    match guardOk tb ops st.env o with
    | none => none
    | some false => runOps cl P tb ops l (i + 1) hard { st with env := putT st.env o.dst V.undef }
    | some true => match evalOp cl P tb st.env st.h o.op with
      | some [r] => runOps cl P tb ops l (i + 1) (addMark tb st.env st.h r.2.1 o.op r.2.2 i hard) { env := putT st.env o.dst r.1, h := r.2.1 }
      | _ => none

section
variable {P : Program} {tb : Tb}

theorem OpsW.run {n : Nat} {ops : Array Oper} {Q : St → Marks → Prop} {l' : List Oper} : ∀ {l : List Oper} {i : Nat} {hard : Marks} {st : St} {r : St × Marks}, runOps (call P tb n) P tb ops l i hard st = some r → OpsW P tb ops l' (i + l.length) r.2 r.1 Q → OpsW P tb ops (l ++ l') i hard st Q
  | [], i, hard, st, r, h, hk => by
    simp only [runOps, Option.some.injEq] at h
    subst h
    exact hk
  | o :: l, i, hard, st, r, h, hk => by
    rw [List.length_cons, show i + (l.length + 1) = i + 1 + l.length by omega] at hk
    simp only [runOps] at h
    split at h
    · exact absurd h (by simp)
    · rename_i hg
      exact OpsW.skip hg (OpsW.run h hk)
    · rename_i hg
      split at h
      · rename_i r1 hr1
        exact OpsW.cons hg ⟨n, _, _, _, hr1, OpsW.run h hk⟩
      · exact absurd h (by simp)

theorem OpsW.cut (n k : Nat) {ops : Array Oper} {l : List Oper} {i : Nat} {hard : Marks} {st : St} {Q : St → Marks → Prop} (h : (runOps (call P tb n) P tb ops (l.take k) i hard st).isSome = true)
    (hk : OpsW P tb ops (l.drop k) (i + (l.take k).length) ((runOps (call P tb n) P tb ops (l.take k) i hard st).get h).2 ((runOps (call P tb n) P tb ops (l.take k) i hard st).get h).1 Q) : OpsW P tb ops l i hard st Q := by
  have := OpsW.run (l := l.take k) (l' := l.drop k) (r := (runOps (call P tb n) P tb ops (l.take k) i hard st).get h) (Option.some_get h).symm hk
  rwa [List.take_append_drop] at this

/-- The rest of a region, worked out. -/
theorem OpsW.rest (n : Nat) {ops : Array Oper} {l : List Oper} {i : Nat} {hard : Marks} {st : St} {Q : St → Marks → Prop} (h : (runOps (call P tb n) P tb ops l i hard st).isSome = true)
    (hk : Q ((runOps (call P tb n) P tb ops l i hard st).get h).1 ((runOps (call P tb n) P tb ops l i hard st).get h).2) : OpsW P tb ops l i hard st Q := by
  have := OpsW.run (n := n) (ops := ops) (i := i) (hard := hard) (st := st) (l := l) (l' := []) (r := (runOps (call P tb n) P tb ops l i hard st).get h) (Option.some_get h).symm (OpsW.nil hk)
  rwa [List.append_nil] at this

theorem addMark_pure {tb : Tb} {env : Env} {A B : Heap} {o : Op} (hp : isPure o = true) (i : Nat) (hard : Marks) : addMark tb env A B o false i hard = hard := by
  unfold addMark
  cases o <;> first | rfl | (simp [isPure] at hp; done)

theorem OpsW.one {ops : Array Oper} {o : Oper} {l : List Oper} {i : Nat} {hard : Marks} {st : St} {Q : St → Marks → Prop} (v : V) (hg : guardOk tb ops st.env o = some true) (hp : isPure o.op = true) (h : evalPure P tb st.env o.op = some v)
    (hk : OpsW P tb ops l (i + 1) hard { env := putT st.env o.dst v, h := st.h } Q) : OpsW P tb ops (o :: l) i hard st Q :=
  .cons hg (.pure hp h (by rw [addMark_pure hp]; exact hk))
end
end
end Go.Sx
