/- Tables of a program as finite maps that the kernel works out once. -/
import Derived.Test.YtaidiaiedhbaoaaSx18
/- Tables of a program as finite maps that the kernel works out once. -/
set_option linter.unusedVariables false
set_option linter.unusedSimpArgs false
namespace Go.Sx
noncomputable section

def evens {α : Type} : List α → List α
  | [] => []
  | [a] => [a]
  | a :: _ :: l => a :: evens l
def odds {α : Type} : List α → List α
  | [] => []
  | [_] => []
  | _ :: b :: l => b :: odds l

theorem evens_get {α : Type} : ∀ (l : List α) (m : Nat), (evens l)[m]? = l[2 * m]?
  | [], m => by simp [evens]
  | [a], m => by cases m with | zero => rfl | succ m => simp [evens, show 2 * (m + 1) = 2 * m + 1 + 1 by omega]
  | a :: b :: l, m => by
    cases m with
    | zero => rfl
    | succ m =>
      simp only [evens, List.getElem?_cons_succ, show 2 * (m + 1) = 2 * m + 1 + 1 by omega]
      exact evens_get l m
theorem odds_get {α : Type} : ∀ (l : List α) (m : Nat), (odds l)[m]? = l[2 * m + 1]?
  | [], m => by simp [odds]
  | [a], m => by simp [odds]
  | a :: b :: l, m => by
    cases m with
    | zero => rfl
    | succ m =>
      simp only [odds, List.getElem?_cons_succ, show 2 * (m + 1) + 1 = 2 * m + 1 + 1 + 1 by omega]
      exact odds_get l m

def Tr.ofF {α : Type} : Nat → List α → Tr α
  | 0, _ => .leaf
  | _ + 1, [] => .leaf
  | f + 1, a :: l => .node (ofF f (evens l)) (some a) (ofF f (odds l))

theorem Tr.ofF_get {α : Type} : ∀ (f : Nat) (l : List α) (n : Nat) (a : α), (Tr.ofF f l).get n = some a → l[n]? = some a
  | 0, l, n, a, h => by simp [Tr.ofF] at h
  | f + 1, [], n, a, h => by simp [Tr.ofF] at h
  | f + 1, b :: l, n, a, h => by
    rw [Tr.ofF] at h
    rcases Tr.cases3 n with rfl | ⟨m, rfl⟩ | ⟨m, rfl⟩
    · exact h
    · rw [Tr.get_odd] at h
      have := Tr.ofF_get f _ _ a h
      rw [evens_get] at this
      simpa using this
    · rw [Tr.get_even] at h
      have := Tr.ofF_get f _ _ a h
      rw [odds_get] at this
      simpa using this

def Tr.ofL {α : Type} (l : List α) : Tr α := Tr.ofF 24 l

def descOf (it : Tr TypeInfo) (t : TypeId) : Option TypeDesc :=
  match it.get t with
  | some i => match i.desc with
    | .named _ u => (it.get u).map (·.desc)
    | d => some d
  | none => none

/-- A program's tables. -/
def tbOf (fs : List Func) (ts : List TypeInfo) : Tb where
  rho := fun _ => undef
  func := fun f => (Tr.ofL fs).get f
  desc := descOf (Tr.ofL ts)
  info := fun t => ((Tr.ofL ts).get t).map fun i => (i.size, i.bytes, i.zero)
  glob := fun _ => none

theorem info_of {P : Program} {ts : List TypeInfo} (ht : P.types.toList = ts) {t : TypeId} {i : TypeInfo} (h : (Tr.ofL ts).get t = some i) : P.info? t = some i := by
  have h1 := Tr.ofF_get _ _ _ _ h
  rw [← ht] at h1
  have h2 : P.types[t]? = some i := by simpa using h1
  have hl : t < P.types.size := (Array.getElem?_eq_some_iff.1 h2).1
  unfold Tables.info?
  rw [if_pos hl, h2]

theorem tbOf_ok {P : Program} {fs : List Func} {ts : List TypeInfo} (hf : P.funcs.toList = fs) (ht : P.types.toList = ts) (hn : fs.all (fun fn => !(fn.name == "runtime.NumGoroutine")) = true) (hm : P.follows .mixedOrders = true) : (tbOf fs ts).Ok P where
  func := fun f fn h => by
    have h1 := Tr.ofF_get _ _ _ _ h
    refine ⟨by rw [← hf] at h1; simpa using h1, ?_⟩
    have := List.all_eq_true.1 hn fn (List.mem_of_getElem? h1)
    simpa using this
  desc := fun t d h => by
    have h : descOf (Tr.ofL ts) t = some d := h
    unfold descOf at h
    unfold Program.underlying
    cases hi : (Tr.ofL ts).get t with
    | none => rw [hi] at h; exact absurd h (by simp)
    | some i =>
      rw [hi] at h
      rw [info_of ht hi]
      simp only at h
      split at h
      · rename_i u hd
        obtain ⟨j, hj, rfl⟩ := Option.map_eq_some_iff.1 h
        obtain ⟨desc⟩ := i
        simp only at hd
        subst hd
        simp only
        rw [info_of ht hj]
        rfl
      · rename_i hd
        cases h
        obtain ⟨desc⟩ := i
        simp only at hd ⊢
        split
        · rename_i heq
          cases heq
          exact absurd rfl (hd _ _)
        · rename_i heq; cases heq; rfl
        · rename_i heq; cases heq
  info := fun t n b z h => by
    obtain ⟨i, hi, he⟩ := Option.map_eq_some_iff.1 (show ((Tr.ofL ts).get t).map (fun i => (i.size, i.bytes, i.zero)) = some (n, b, z) from h)
    cases he
    exact ⟨i, info_of ht hi, rfl, rfl, rfl⟩
  mixed := hm

theorem tbOf_wf {fs : List Func} {ts : List TypeInfo} (h : fs.all (fun fn => match fn.body with | some c => codeOk fn.ntmps c | none => true) = true) : (tbOf fs ts).Wf := by
  intro f fn c hf hc
  have h1 := Tr.ofF_get _ _ _ _ (show (Tr.ofF 24 fs).get f = some fn from hf)
  have := List.all_eq_true.1 h fn (List.mem_of_getElem? h1)
  rw [hc] at this
  exact this

end
end Go.Sx
