/- Calls whose outcome is known: a long run in stages. -/
import Derived.Test.YtfcfbcbmnhkedaaGreatDoorSx24
import Derived.Test.YtfcfbcbmnhkedaaGreatDoorSxF1
set_option linter.unusedVariables false
set_option linter.unusedSimpArgs false
namespace Go.Sx
noncomputable section

def heapSame (a b : Heap) : Bool := Nat.beq a.next b.next && (Nat.beq a.base b.base && (a.low == b.low && sameTr (sameO Blk.same) a.tab b.tab))
theorem heapSame_eq {a b : Heap} (h : heapSame a b = true) : a = b := by
  unfold heapSame at h
  simp only [Bool.and_eq_true] at h
  obtain ⟨h1, h2, h3, h4⟩ := h
  obtain ⟨t, n, b0, l⟩ := a
  obtain ⟨t', n', b', l'⟩ := b
  have e1 : n = n' := Nat.eq_of_beq_eq_true h1
  have e2 : b0 = b' := Nat.eq_of_beq_eq_true h2
  have e3 : l = l' := eq_of_beq h3
  have e4 : t = t' := sameTr_eq (fun _ _ => sameO_eq) h4
  rw [e1, e2, e3, e4]

/-- A stage: a call and its one outcome. -/
structure Stage where
  f : Nat
  args : List V
  h : Heap
  v : V
  h' : Heap
def stageOf : List Stage → CallFn
  | [] => fun _ _ _ => none
  | s :: l => fun f args H => if Nat.beq f s.f then (if sameL (V.same 12) args s.args && heapSame H s.h then some [(s.v, s.h')] else stageOf l f args H) else stageOf l f args H
def stageIs (s : Stage) (L : Option (List (V × Heap))) : Bool :=
  match L with
  | some [r] => V.same 12 r.1 s.v && heapSame r.2 s.h'
  | _ => false
theorem stageIs_eq {s : Stage} {L : Option (List (V × Heap))} (h : stageIs s L = true) : L = some [(s.v, s.h')] := by
  unfold stageIs at h
  split at h
  · rename_i r
    simp only [Bool.and_eq_true] at h
    rw [← V.same_eq _ _ _ h.1, ← heapSame_eq h.2]
  · exact absurd h (by simp)
theorem stageOf_ok {cl : CallFn} : ∀ {l : List Stage}, (∀ s, s ∈ l → cl s.f s.args s.h = some [(s.v, s.h')]) → CLe (stageOf l) cl
  | [], _ => fun f args H L h => by simp [stageOf] at h
  | s :: l, hl => fun f args H L h => by
    have ih := stageOf_ok (cl := cl) (l := l) (fun s hs => hl s (List.mem_cons_of_mem _ hs))
    simp only [stageOf] at h
    split at h
    · rename_i hf
      split at h
      · rename_i hc
        simp only [Bool.and_eq_true] at hc
        cases h
        rw [Nat.eq_of_beq_eq_true hf, sameL_eq (V.same_eq 12) hc.1, heapSame_eq hc.2]
        exact hl s List.mem_cons_self
      · exact ih f args H L h
    · exact ih f args H L h

def orStage (kc : CallFn) (next : CallFn) : CallFn := fun f args H => match kc f args H with
  | some L => some L
  | none => next f args H
def callK (kc : CallFn) (P : Program) (tb : Tb) (n0 n : Nat) : CallFn := Nat.rec (motive := fun _ => CallFn) kc (fun n cl => orStage kc (stepCallX P tb (n0 + n) cl)) n
theorem callK_ok {kc : CallFn} {P : Program} {tb : Tb} {n0 : Nat} (hk : CLe kc (call P tb n0)) : ∀ n, CLe (callK kc P tb n0 n) (call P tb (n0 + n))
  | 0 => hk
  | n + 1 => by
    intro f args H L h
    have h : orStage kc (stepCallX P tb (n0 + n) (callK kc P tb n0 n)) f args H = some L := h
    unfold orStage at h
    split at h
    · rename_i L' hL
      cases h
      exact call_mono (Nat.le_add_right n0 (n + 1)) _ _ _ _ (hk _ _ _ _ hL)
    · rw [stepCallX_eq] at h
      obtain ⟨M, hM, rfl⟩ := Option.map_eq_some_iff.1 h
      show (stepCall P tb (n0 + n) (call P tb (n0 + n)) f args H).map (mergeL H) = _
      rw [stepCall_mono (callK_ok hk n) (Nat.le_refl _) f args H M hM]
      rfl
/-- One stage more. -/
theorem stage_next {P : Program} {tb : Tb} {n0 n : Nat} {l : List Stage} {s : Stage} (hl : ∀ s, s ∈ l → call P tb n0 s.f s.args s.h = some [(s.v, s.h')]) (h : stageIs s (callK (stageOf l) P tb n0 n s.f s.args s.h) = true) : ∀ r, r ∈ s :: l → call P tb (n0 + n) r.f r.args r.h = some [(r.v, r.h')] := by
  intro r hr
  rcases List.mem_cons.1 hr with rfl | hr
  · exact callK_ok (stageOf_ok hl) n _ _ _ _ (stageIs_eq h)
  · exact call_mono (Nat.le_add_right n0 n) _ _ _ _ (hl r hr)
end
end Go.Sx
