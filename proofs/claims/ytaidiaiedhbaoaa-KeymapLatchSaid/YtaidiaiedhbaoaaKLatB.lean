/- KeymapLatch: lists of bytes as unknowns. -/
import Derived.Test.YtaidiaiedhbaoaaSxM
set_option linter.unusedVariables false
namespace Go.Sx
noncomputable section

theorem bytes_of {tb : Tb} {n : Nat} {e : TypeId} (hd : tb.desc e = some (.int .u8)) : ∀ {es : List (List V)}, (∀ c, c ∈ es → Ty tb (n + 1) e c) → ∃ is : List Int, es = is.map (fun i => [V.val (.int .u8 i)]) ∧ ∀ i, i ∈ is → IntKind.u8.min ≤ i ∧ i ≤ IntKind.u8.max
  | [], _ => ⟨[], rfl, fun i h => by simp at h⟩
  | c :: es, h => by
    obtain ⟨i, rfl, hi⟩ := Ty.int hd (h _ List.mem_cons_self)
    obtain ⟨is, rfl, his⟩ := bytes_of hd (fun c hc => h c (List.mem_cons_of_mem _ hc))
    refine ⟨i :: is, rfl, fun j hj => ?_⟩
    rcases List.mem_cons.1 hj with rfl | hj
    · exact hi
    · exact his j hj

def symBytes (n : Nat) : V := .list false ((List.range n).map fun j => [V.sym (.int .u8) (.ivar .u8 j)]) .unk
def rhoB (is : List Int) (j : Nat) : Value := .int .u8 (is.getD j 0)

theorem symBytes_of (is : List Int) (hb : ∀ i, i ∈ is → IntKind.u8.min ≤ i ∧ i ≤ IntKind.u8.max) : SymOf (rhoB is) (.list false (is.map fun i => [V.val (.int .u8 i)]) .unk) (symBytes is.length) := by
  intro w v hv
  rcases hv.list_inv with ⟨h0, _⟩ | ⟨_, a, cap, sz, f, rfl, hli⟩
  · cases h0
  · have hcap : is.length ≤ cap := by simpa using hli.le
    have := VRel.list_mk (φ := allFroz (rhoB is) w) (γ := fun _ => none) (es := (List.range is.length).map fun j => [V.sym (.int .u8) (.ivar .u8 j)]) (tok := .unk) sz f hli.spot (by simpa using hcap) hli.max
      (fun c hc => by
        obtain ⟨j, hj, rfl⟩ := List.mem_map.1 hc
        have hj := List.mem_range.1 hj
        have := hli.row [V.val (.int .u8 is[j])] (List.mem_map.2 ⟨_, List.getElem_mem hj, rfl⟩)
        exact this)
      (fun k u hk => by
        rw [flat_single (fun j => V.sym (.int .u8) (.ivar .u8 j)), List.getElem?_map] at hk
        obtain ⟨j, hj, rfl⟩ := Option.map_eq_some_iff.1 hk
        have hkl := getElem?_lt hj
        simp only [List.length_range] at hkl
        rw [List.getElem?_range hkl] at hj
        cases hj
        have := hli.cell k (V.val (.int .u8 is[k])) (by rw [flat_single (fun i => V.val (.int .u8 i)), List.getElem?_map]; simp [hkl])
        refine ⟨rfl, this.2.1, ?_⟩
        have hv := this.2.2
        generalize f k = x at hv
        cases hv
        refine .sym ?_
        have hw := hb is[k] (List.getElem_mem hkl)
        have e : (SE.ivar .u8 k).num (rhoB is) = is[k] := by
          show IntKind.u8.wrap (is.getD k 0) = is[k]
          rw [List.getD_eq_getElem?_getD, List.getElem?_eq_getElem hkl]
          exact wrap_id .u8 _ hw.1 hw.2
        show Value.int .u8 is[k] = Value.int .u8 ((SE.ivar .u8 k).num (rhoB is))
        rw [e]) trivial
    simpa [symBytes] using this
end
end Go.Sx
