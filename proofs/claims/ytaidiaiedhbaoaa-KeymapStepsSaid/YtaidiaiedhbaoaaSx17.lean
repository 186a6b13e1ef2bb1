/- Arguments: what a reading says of the abstract value of an argument; the frame of a law's proof. -/
import Derived.Test.YtaidiaiedhbaoaaSx16
import Derived.ProofKit
import Derived.SizedLaws
import Derived.ReadAgain
import Derived.Below
import Derived.OpenShut
/- Arguments: what a reading says of the abstract value of an argument; the frame of a law's proof. -/
set_option linter.unusedVariables false
set_option linter.unusedSimpArgs false
namespace Go.Sx
noncomputable section
open Go.ChangeShapes Go.WideShapes Go.ChangeAt Go.RowKit

/-! ### Types of abstract values -/
def TyF (ty : TypeId → List V → Prop) : List Field → List V → Prop
  | [], cs => cs = []
  | f :: fs, cs => ∃ a b, cs = a ++ b ∧ ty f.type a ∧ TyF ty fs b

def TyA (ty : List V → Prop) : Nat → List V → Prop
  | 0, cs => cs = []
  | n + 1, cs => ∃ a b, cs = a ++ b ∧ ty a ∧ TyA ty n b

/-- The cells of an argument of a type. -/
def Ty (tb : Tb) : Nat → TypeId → List V → Prop
  | 0, _, _ => False
  | n + 1, t, cs => match tb.desc t with
    | some .bool => ∃ b, cs = [.val (.bool b)]
    | some (.int k) => ∃ i, cs = [.val (.int k i)] ∧ k.min ≤ i ∧ i ≤ k.max
    | some .string => ∃ s, cs = [.val (.string s)] ∧ s.size ≤ maxLen
    | some (.slice e) => cs = [.list true [] .full] ∨ ∃ es, cs = [.list false es .unk] ∧ es.length ≤ maxLen ∧ ∀ c, c ∈ es → Ty tb n e c
    | some (.pointer e) => cs = [.val (.pointer none)] ∨ ∃ xs, cs = [.cptr xs] ∧ Ty tb n e xs
    | some (.struct fs) => TyF (Ty tb n) fs.toList cs
    | some (.array m e) => TyA (Ty tb n e) m cs
    | _ => False

/-- A type that arguments are read at. -/
def argTy (tb : Tb) : Nat → TypeId → Bool
  | 0, _ => false
  | n + 1, t => match tb.desc t with
    | some .bool | some (.int _) | some .string => true
    | some (.slice e) => argTy tb n e && (match tb.size e with | some sz => decide (0 < sz) | none => false)
    | some (.pointer e) => argTy tb n e && (match tb.size e with | some sz => decide (0 < sz) | none => false)
    | some (.struct fs) => match tb.size t with
      | some u => (fs.toList.foldl (fun (acc : Option Nat) f => acc.bind fun o => (tb.size f.type).bind fun s => if f.offset = o && argTy tb n f.type then some (o + s) else none) (some 0)) == some u
      | none => false
    | some (.array m e) => argTy tb n e && (match tb.size e, tb.size t with | some s, some u => u == m * s | _, _ => false)
    | _ => false

/-- All that is there is left alone. -/
def allFroz (ρ : Nat → Value) (w : World) : Froz := ⟨fun b o => w.cell? ⟨b, o, none⟩, ρ⟩

def CellsOk (w : World) (vs : List V) (cs : List Value) : Prop := vs.length = cs.length ∧ ∀ (j : Nat) (v : V), vs[j]? = some v → v.one = true ∧ ∀ ρ, VRel (allFroz ρ w) (fun _ => none) v (cs.getD j undef)

theorem CellsOk.one {w : World} {v : V} {c : Value} (h1 : v.one = true) (h : ∀ ρ, VRel (allFroz ρ w) (fun _ => none) v c) : CellsOk w [v] [c] :=
  ⟨rfl, fun j u hj => match j, hj with | 0, hj => by simp at hj; subst hj; exact ⟨h1, by simpa using h⟩⟩

theorem CellsOk.append {w : World} {vs us : List V} {cs ds : List Value} (h : CellsOk w vs cs) (k : CellsOk w us ds) : CellsOk w (vs ++ us) (cs ++ ds) := by
  refine ⟨by simp [h.1, k.1], fun j v hj => ?_⟩
  by_cases hl : j < vs.length
  · rw [List.getElem?_append_left hl] at hj
    have := h.2 j v hj
    rw [List.getD_eq_getElem?_getD, List.getElem?_append_left (by rw [← h.1]; exact hl), ← List.getD_eq_getElem?_getD]
    exact this
  · rw [List.getElem?_append_right (by omega)] at hj
    have := k.2 _ v hj
    rw [List.getD_eq_getElem?_getD, List.getElem?_append_right (by rw [← h.1]; omega), ← List.getD_eq_getElem?_getD, ← h.1]
    exact this

theorem Tb.Ok.cellsOf {P : Program} {tb : Tb} (hok : tb.Ok P) {t : TypeId} {n : Nat} (h : tb.size t = some n) : P.cellsOf t = n := by
  obtain ⟨i, h1, h2⟩ := size_info hok h
  unfold Program.cellsOf
  rw [h1]
  exact h2

theorem mapM_get {α : Type} {f : Nat → Option α} {n : Nat} {l : List α} (h : (List.range n).mapM f = some l) : l.length = n ∧ ∀ i, i < n → f i = l[i]? :=
  ⟨by simpa using mapM_some_length h, fun i hi => mapM_some_get h i i (by simp [hi])⟩

theorem cells_get {w : World} {a : Addr} {n : Nat} {cs : List Value} (h : w.cells? 0 a n = some cs) : cs.length = n ∧ ∀ i, i < n → w.cell? (a.add i) = cs[i]? := by
  unfold World.cells? at h
  rw [if_pos (Nat.zero_le _)] at h
  exact mapM_get h

theorem spot_of {w : World} {a : Addr} {v : Value} (h : w.cell? (a.add 0) = some v) : a.spot = none := World.cell?_spot h

section
variable {P : Program} {tb : Tb} (hok : tb.Ok P) {H : Type} {enc : TypeId × Value → H} {w : World}

/-- What stands at an address, as cells that nobody writes to. -/
theorem cptr_of {a : Addr} {n : Nat} {cs : List Value} (hn : 0 < n) (h : w.cells? 0 a n = some cs) {vs : List V} (hv : CellsOk w vs cs) : ∀ ρ, VRel (allFroz ρ w) (fun _ => none) (.cptr vs) (.pointer (some a)) := by
  obtain ⟨hl, hc⟩ := cells_get h
  have hs : a.spot = none := by
    have h0 := hc 0 hn
    rw [List.getElem?_eq_getElem (by omega)] at h0
    exact spot_of h0
  refine fun ρ => .cptr (fun j => cs.getD j undef) hs (fun j v hj => ⟨(hv.2 j v hj).1, ?_⟩) (fun j v hj => (hv.2 j v hj).2 ρ)
  have hj' : j < n := by have := (List.getElem?_eq_some_iff.1 hj).1; rw [hv.1] at this; omega
  have := hc j hj'
  rw [add_eq hs] at this
  simp only [allFroz]
  rw [this, List.getElem?_eq_getElem (by omega)]
  simp [List.getD_eq_getElem?_getD, List.getElem?_eq_getElem (show j < cs.length by omega)]

theorem tyF_of {tyv : TypeId → List V → Prop} {sizes : TypeId → Option Nat} {rd : TypeId → List Value → Prop} (hrd : ∀ t cs, rd t cs → ∃ vs, tyv t vs ∧ CellsOk w vs cs) : ∀ (fs : List Field) (o e : Nat) (cs : List Value) (chk : Field → Bool),
    (fs.foldl (fun (acc : Option Nat) f => acc.bind fun o => (sizes f.type).bind fun s => if f.offset = o && chk f then some (o + s) else none) (some o)) = some e → o ≤ cs.length → cs.length = e →
    (∀ f s, f ∈ fs → sizes f.type = some s → chk f = true → rd f.type ((cs.drop f.offset).take s)) → ∃ vs, TyF tyv fs vs ∧ CellsOk w vs (cs.drop o)
  | [], o, e, cs, chk, h, ho, he, _ => by
    simp only [List.foldl_nil, Option.some.injEq] at h
    have : cs.drop o = [] := List.drop_eq_nil_of_le (by omega)
    rw [this]
    exact ⟨[], rfl, rfl, fun j v hj => by simp at hj⟩
  | f :: fs, o, e, cs, chk, h, ho, he, hf => by
    rw [List.foldl_cons, Option.bind_some] at h
    have none_fold : ∀ l : List Field, (l.foldl (fun (acc : Option Nat) f => acc.bind fun o => (sizes f.type).bind fun s => if f.offset = o && chk f then some (o + s) else none) none) = none := by
      intro l
      induction l with
      | nil => rfl
      | cons x l ih => rw [List.foldl_cons]; exact ih
    have mono_fold : ∀ (l : List Field) (o e : Nat), (l.foldl (fun (acc : Option Nat) f => acc.bind fun o => (sizes f.type).bind fun s => if f.offset = o && chk f then some (o + s) else none) (some o)) = some e → o ≤ e := by
      intro l
      induction l with
      | nil => intro o e h; simp at h; omega
      | cons x l ih =>
        intro o e h
        rw [List.foldl_cons, Option.bind_some] at h
        cases hs : sizes x.type with
        | none => rw [hs, Option.bind_none, none_fold] at h; exact absurd h (by simp)
        | some s =>
          rw [hs, Option.bind_some] at h
          split at h
          · have := ih _ _ h; omega
          · rw [none_fold] at h; exact absurd h (by simp)
    cases hs : sizes f.type with
    | none => rw [hs, Option.bind_none, none_fold] at h; exact absurd h (by simp)
    | some s =>
      rw [hs, Option.bind_some] at h
      split at h
      · rename_i hc
        simp only [Bool.and_eq_true, decide_eq_true_eq] at hc
        have hle := mono_fold _ _ _ h
        obtain ⟨vs, h1, h2⟩ := tyF_of hrd fs (o + s) e cs chk h (by omega) he (fun g s' hg hs' hk => hf g s' (List.mem_cons_of_mem _ hg) hs' hk)
        have h3 := hf f s List.mem_cons_self hs hc.2
        rw [hc.1] at h3
        obtain ⟨us, h4, h5⟩ := hrd _ _ h3
        refine ⟨us ++ vs, ⟨us, vs, rfl, h4, h1⟩, ?_⟩
        have : cs.drop o = (cs.drop o).take s ++ cs.drop (o + s) := by rw [← List.drop_drop, List.take_append_drop]
        rw [this]
        exact h5.append h2
      · rw [none_fold] at h; exact absurd h (by simp)

theorem tyA_of {tyv : List V → Prop} {rd : List Value → Prop} (hrd : ∀ cs, rd cs → ∃ vs, tyv vs ∧ CellsOk w vs cs) (s : Nat) : ∀ (m : Nat) (cs : List Value), cs.length = m * s → (∀ i, i < m → rd ((cs.drop (i * s)).take s)) → ∃ vs, TyA tyv m vs ∧ CellsOk w vs cs
  | 0, cs, hl, _ => by
    have : cs = [] := List.length_eq_zero_iff.1 (by omega)
    subst this
    exact ⟨[], rfl, rfl, fun j v hj => by simp at hj⟩
  | m + 1, cs, hl, h => by
    have hl2 : cs.length = m * s + s := by rw [hl, Nat.succ_mul]
    obtain ⟨us, h1, h2⟩ := hrd _ (h 0 (by omega))
    simp only [Nat.zero_mul, List.drop_zero] at h2
    obtain ⟨vs, h3, h4⟩ := tyA_of hrd s m (cs.drop s) (by simp; omega) (fun i hi => by
      have := h (i + 1) (by omega)
      rw [List.drop_drop, show s + i * s = (i + 1) * s by rw [Nat.succ_mul]; omega]
      exact this)
    refine ⟨us ++ vs, ⟨us, vs, rfl, h1, h3⟩, ?_⟩
    have := h2.append h4
    rwa [List.take_append_drop] at this

include hok in
/-- What a reading says. -/
theorem cells_of : ∀ (n fuel : Nat) (t : TypeId) (cs : List Value) (x : DataW H × List MemPlace), argTy tb n t = true → DataW.trod enc P w 0 (fun _ => true) true fuel t cs = some x → ∃ vs, Ty tb n t vs ∧ CellsOk w vs cs
  | 0, _, _, _, _, h, _ => by simp [argTy] at h
  | n + 1, fuel, t, cs, x, h, hx => by
    unfold argTy at h
    unfold Ty
    split at h
    · rename_i hd
      obtain ⟨b, rfl, _⟩ := DataW.trod_bool (hok.desc _ _ hd) hx
      exact ⟨[.val (.bool b)], ⟨b, rfl⟩, .one rfl (fun _ => .val rfl)⟩
    · rename_i k hd
      obtain ⟨i, rfl, _, hw⟩ := DataW.trod_int (hok.desc _ _ hd) hx
      simp only [Lit.wf, Bool.and_eq_true, decide_eq_true_eq] at hw
      exact ⟨[.val (.int k i)], ⟨i, rfl, hw.1, hw.2⟩, .one rfl (fun _ => .val rfl)⟩
    · rename_i hd
      obtain ⟨s, rfl, _, hs⟩ := DataW.trod_string (hok.desc _ _ hd) hx
      exact ⟨[.val (.string s)], ⟨s, rfl, hs⟩, .one rfl (fun _ => .val rfl)⟩
    · rename_i e hd
      simp only [Bool.and_eq_true] at h
      obtain ⟨he, hsz⟩ := h
      split at hsz
      · rename_i sz hse
        simp only [decide_eq_true_eq] at hsz
        have hce := hok.cellsOf hse
        rcases DataW.trod_slice (hok.desc _ _ hd) hx with ⟨rfl, _⟩ | ⟨a, len, cap, elems, rest, m, _, rfl, _, _, hlc, hcm, hlen, hel, hre, _⟩
        · exact ⟨[.list true [] .full], .inl rfl, .one rfl (fun _ => .lnil)⟩
        · obtain ⟨hrl, hre⟩ := hre rfl
          have each : ∀ i, i < len → ∃ cs' vs, w.cells? 0 (a.add (i * sz)) sz = some cs' ∧ Ty tb n e vs ∧ CellsOk w vs cs' := fun i hi => by
            have h1 := hel i hi
            rw [hce, List.getElem?_eq_getElem (by omega)] at h1
            obtain ⟨cs', h2, h3⟩ := Option.bind_eq_some_iff.1 h1
            obtain ⟨vs, h4, h5⟩ := cells_of n m e cs' _ he h3
            exact ⟨cs', vs, h2, h4, h5⟩
          have hspot : 0 < cap → a.spot = none := fun h0 => by
            have key : ∀ (cs' : List Value), w.cells? 0 (a.add 0) sz = some cs' → a.spot = none := fun cs' h1 => by
              obtain ⟨hl, hc⟩ := cells_get h1
              have h0 := hc 0 hsz
              rw [List.getElem?_eq_getElem (by omega)] at h0
              exact spot_of h0
            by_cases hl0 : 0 < len
            · obtain ⟨cs', _, h1, _⟩ := each 0 hl0
              rw [Nat.zero_mul] at h1
              exact key cs' h1
            · have h1 := hre 0 (by omega)
              rw [hce, List.getElem?_eq_getElem (by omega), show (len + 0) * sz = 0 by rw [show len + 0 = 0 by omega, Nat.zero_mul]] at h1
              obtain ⟨cs', h2, _⟩ := Option.bind_eq_some_iff.1 h1
              exact key cs' h2
          obtain ⟨es, hes⟩ : ∃ es : List (List V), es.length = len ∧ ∀ i c, es[i]? = some c → ∃ cs', w.cells? 0 (a.add (i * sz)) sz = some cs' ∧ Ty tb n e c ∧ CellsOk w c cs' := by
            have : ∀ k, k ≤ len → ∃ es : List (List V), es.length = k ∧ ∀ i c, es[i]? = some c → ∃ cs', w.cells? 0 (a.add (i * sz)) sz = some cs' ∧ Ty tb n e c ∧ CellsOk w c cs' := by
              intro k
              induction k with
              | zero => exact fun _ => ⟨[], rfl, fun i c hi => by simp at hi⟩
              | succ k ih =>
                intro hk
                obtain ⟨es, h1, h2⟩ := ih (by omega)
                obtain ⟨cs', vs, h3, h4, h5⟩ := each k (by omega)
                refine ⟨es ++ [vs], by simp [h1], fun i c hi => ?_⟩
                by_cases hik : i < es.length
                · rw [List.getElem?_append_left hik] at hi; exact h2 i c hi
                · rw [List.getElem?_append_right (by omega)] at hi
                  have hi0 : i - es.length = 0 := by have := (List.getElem?_eq_some_iff.1 hi).1; simp at this; omega
                  rw [hi0] at hi
                  simp at hi
                  subst hi
                  have : i = k := by omega
                  subst this
                  exact ⟨cs', h3, h4, h5⟩
            exact this len (Nat.le_refl _)
          obtain ⟨hel2, hes⟩ := hes
          refine ⟨[.list false es .unk], .inr ⟨es, rfl, by omega, fun c hc => ?_⟩, .one rfl ?_⟩
          · obtain ⟨i, hi⟩ := List.getElem?_of_mem hc
            exact (hes i c hi).choose_spec.2.1
          · rw [← hel2]
            refine fun ρ => .list sz (fun k => (w.cell? (a.add k)).getD undef) hspot (by omega) hcm (fun c hc => ?_) (fun i c hi j v hj => ?_) (fun i c hi j v hj => ?_) trivial
            · obtain ⟨i, hi⟩ := List.getElem?_of_mem hc
              obtain ⟨cs', h1, _, h3⟩ := hes i c hi
              rw [h3.1]; exact (cells_get h1).1
            all_goals
              have hil : i < es.length := (List.getElem?_eq_some_iff.1 hi).1
              have hsp := hspot (by omega)
              obtain ⟨cs', h1, _, h3⟩ := hes i c hi
              obtain ⟨hl, hc⟩ := cells_get h1
              have hjl : j < sz := by have := (List.getElem?_eq_some_iff.1 hj).1; rw [h3.1] at this; omega
              have h5 := hc j hjl
              rw [add_eq hsp, add_eq rfl, List.getElem?_eq_getElem (by omega)] at h5
              simp only at h5
              have h6 := h3.2 j v hj
              rw [List.getD_eq_getElem?_getD, List.getElem?_eq_getElem (by omega), Option.getD_some] at h6
            · refine ⟨h6.1, ?_⟩
              simp only [allFroz]
              rw [add_eq hsp, ← Nat.add_assoc, h5]
              rfl
            · rw [add_eq hsp, ← Nat.add_assoc, h5]
              exact h6.2 ρ
      · exact absurd hsz (by simp)
    · rename_i e hd
      simp only [Bool.and_eq_true] at h
      obtain ⟨he, hsz⟩ := h
      split at hsz
      · rename_i sz hse
        simp only [decide_eq_true_eq] at hsz
        have hce := hok.cellsOf hse
        rcases DataW.trod_pointer (hok.desc _ _ hd) hx with ⟨rfl, _⟩ | ⟨a, cs', y, m, _, rfl, _, h1, h2⟩
        · exact ⟨[.val (.pointer none)], .inl rfl, .one rfl (fun _ => .val rfl)⟩
        · obtain ⟨vs, h3, h4⟩ := cells_of n m e cs' y he h2
          rw [hce] at h1
          exact ⟨[.cptr vs], .inr ⟨vs, rfl, h3⟩, .one rfl (cptr_of hsz h1 h4)⟩
      · exact absurd hsz (by simp)
    · rename_i fs hd
      obtain ⟨xs, m, _, _, hl, hxl, hf⟩ := DataW.trod_struct (hok.desc _ _ hd) hx
      split at h
      · rename_i u hst
        have h := beq_iff_eq.1 h
        have hu := hok.cellsOf hst
        have := tyF_of (w := w) (tyv := Ty tb n) (sizes := tb.size) (rd := fun t' cs' => argTy tb n t' = true ∧ ∃ y, DataW.trod enc P w 0 (fun _ => true) true m t' cs' = some y) (fun t' cs' hr => cells_of n m t' cs' _ hr.1 hr.2.choose_spec) fs.toList 0 u cs (fun f => argTy tb n f.type) h (Nat.zero_le _) (by omega) (fun f s hfm hs hk => by
          obtain ⟨i, hi⟩ := List.getElem?_of_mem hfm
          have hi' : fs[i]? = some f := by simpa using hi
          have h1 := hf i f hi'
          rw [hok.cellsOf hs] at h1
          have hil : i < fs.size := (Array.getElem?_eq_some_iff.1 hi').1
          rw [List.getElem?_eq_getElem (by omega)] at h1
          exact ⟨hk, _, h1⟩)
        simpa using this
      · exact absurd h (by simp)
    · rename_i m e hd
      simp only [Bool.and_eq_true] at h
      obtain ⟨he, hsz⟩ := h
      split at hsz
      · rename_i s u hse hst
        have hu : u = m * s := beq_iff_eq.1 hsz
        obtain ⟨xs, k, _, _, hl, hxl, hf⟩ := DataW.trod_array (hok.desc _ _ hd) hx
        rw [hok.cellsOf hst] at hl
        rw [hok.cellsOf hse] at hf
        exact tyA_of (w := w) (tyv := Ty tb n e) (rd := fun cs' => ∃ y, DataW.trod enc P w 0 (fun _ => true) true k e cs' = some y) (fun cs' hr => cells_of n k e cs' _ he hr.choose_spec) s m cs (by omega) (fun i hi => by
          have h1 := hf i hi
          rw [List.getElem?_eq_getElem (by omega)] at h1
          exact ⟨_, h1⟩)
      · exact absurd hsz (by simp)
    · exact absurd h (by simp)
end

end
end Go.Sx
