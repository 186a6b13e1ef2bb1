/- Arguments taken apart. -/
import Derived.Test.YtaidiaiedhbaoaaSx21
/- Arguments taken apart. -/
set_option linter.unusedVariables false
set_option linter.unusedSimpArgs false
namespace Go.Sx
noncomputable section

def fieldTypes : TypeDesc → Option (List TypeId)
  | .struct fs => some (fs.toList.map (·.type))
  | _ => none

def TyL (ty : TypeId → List V → Prop) : List TypeId → List V → Prop
  | [], cs => cs = []
  | t :: ts, cs => ∃ a b, cs = a ++ b ∧ ty t a ∧ TyL ty ts b

theorem tyL_of {ty : TypeId → List V → Prop} : ∀ {fs : List Field} {cs : List V}, TyF ty fs cs → TyL ty (fs.map (·.type)) cs
  | [], _, h => h
  | _ :: _, _, ⟨a, b, h1, h2, h3⟩ => ⟨a, b, h1, h2, tyL_of h3⟩

section
variable {tb : Tb} {n : Nat} {t : TypeId} {cs : List V}

theorem Ty.int {k : IntKind} (hd : tb.desc t = some (.int k)) (h : Ty tb (n + 1) t cs) : ∃ i, cs = [.val (.int k i)] ∧ k.min ≤ i ∧ i ≤ k.max := by
  unfold Ty at h; rw [hd] at h; exact h
theorem Ty.bool (hd : tb.desc t = some .bool) (h : Ty tb (n + 1) t cs) : ∃ b, cs = [.val (.bool b)] := by
  unfold Ty at h; rw [hd] at h; exact h
theorem Ty.string (hd : tb.desc t = some .string) (h : Ty tb (n + 1) t cs) : ∃ s, cs = [.val (.string s)] ∧ s.size ≤ maxLen := by
  unfold Ty at h; rw [hd] at h; exact h
theorem Ty.slice {e : TypeId} (hd : tb.desc t = some (.slice e)) (h : Ty tb (n + 1) t cs) : cs = [.list true [] .full] ∨ ∃ es, cs = [.list false es .unk] ∧ es.length ≤ maxLen ∧ ∀ c, c ∈ es → Ty tb n e c := by
  unfold Ty at h; rw [hd] at h; exact h
theorem Ty.struct {ts : List TypeId} (hd : (tb.desc t).bind fieldTypes = some ts) (h : Ty tb (n + 1) t cs) : TyL (Ty tb n) ts cs := by
  unfold Ty at h
  cases ht : tb.desc t with
  | none => rw [ht] at hd; simp at hd
  | some d =>
    rw [ht] at h hd
    cases d <;> simp only [Option.bind_some, fieldTypes] at hd <;> first | (cases hd; done) | skip
    cases hd
    exact tyL_of h
theorem TyV.agg {x : V} (ha : tb.agg t = some true) (h : TyV tb n t x) : ∃ cs, x = .agg cs ∧ Ty tb n t cs := by
  unfold TyV at h; rw [ha] at h; exact h
theorem TyV.cell {x : V} (ha : tb.agg t = some false) (h : TyV tb n t x) : Ty tb n t [x] := by
  unfold TyV at h; rw [ha] at h; exact h
end
end
end Go.Sx
