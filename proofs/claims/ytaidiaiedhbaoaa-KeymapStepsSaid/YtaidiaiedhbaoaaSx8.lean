/- Operations on memory: boxes, loads, stores, made slices. -/
import Derived.Test.YtaidiaiedhbaoaaSx7
import Derived.Laws.MakeOwn
/- Operations on memory: boxes, loads, stores, made slices. -/
set_option linter.unusedVariables false
set_option linter.unusedSimpArgs false
namespace Go.Sx
noncomputable section

/-- What an operation hands on: a value, or none. -/
def NextIs (r : Result Next) (cv : Value) (w' : World) : Prop := r = .ok (.value cv) w' ∨ (r = .ok .skip w' ∧ cv = undef)

def MemOut (P : Program) (N : Nat) (φ : Froz) (γ : Place) (H : Heap) (w : World) (v : V) (H' : Heap) (T : Nat → Prop) (e : Sem Next) : Prop :=
  ∃ φ' γ' cv w', NextIs (e.run P w) cv w' ∧ Step N φ γ H w φ' γ' H' w' T ∧ VRel φ' γ' v cv

theorem MemOut.value {P : Program} {N : Nat} {φ φ' : Froz} {γ γ' : Place} {H H' : Heap} {w w' : World} {v : V} {T : Nat → Prop} {e : Sem Value} {cv : Value} (h : e.run P w = .ok cv w') (hs : Step N φ γ H w φ' γ' H' w' T) (hv : VRel φ' γ' v cv) :
    MemOut P N φ γ H w v H' T (do pure (.value (← e))) := ⟨φ', γ', cv, w', .inl (by simp [h]), hs, hv⟩
theorem MemOut.unit {P : Program} {N : Nat} {φ φ' : Froz} {γ γ' : Place} {H H' : Heap} {w w' : World} {T : Nat → Prop} {e : Sem Unit} (h : e.run P w = .ok () w') (hs : Step N φ γ H w φ' γ' H' w' T) :
    MemOut P N φ γ H w V.undef H' T (do e; pure .skip) := ⟨φ', γ', undef, w', .inr ⟨by simp [h], rfl⟩, hs, .tuple rfl (fun j v hj => by simp at hj)⟩

theorem NoT.eq : NoT = fun _ => False := rfl

section ops
variable {P : Program} {tb : Tb} {N : Nat} {φ : Froz} {γ : Place} {H : Heap} {w : World}

/-- A new box. -/
theorem box_step {H' : Heap} (hr : Rel N φ γ H w) (hf : H.next < H'.next → γ H.next = none) {cs : List V} {arr : Array Value} (hc : CellsRel φ γ cs arr) (T : TypeId) {v : V} (h : newBox H cs = some (v, H')) :
    Step N φ γ H w φ (PAdd γ H.next (w.heap.size, 0, 0)) H' (w.alloc (.cells arr T)) NoT ∧ VRel φ (PAdd γ H.next (w.heap.size, 0, 0)) v (.pointer (some ⟨w.heap.size, 0, none⟩)) := by
  unfold newBox at h
  split at h
  · obtain ⟨H2, hn, he⟩ := Option.map_eq_some_iff.1 h
    simp only [Prod.mk.injEq] at he
    obtain ⟨rfl, rfl⟩ := he
    have hf := hf (Heap.new_lt hn)
    refine ⟨Step.new hr _ (FLe.refl _) (fun _ _ _ h => .inl h) hn hf 0 0 ⟨arr, T, ?_, by simp [hc.1], Nat.zero_le _, fun j v hj => ⟨(hc.2 j v hj).1, by simpa using (hc.2 j v hj).2.mono (FLe.refl _) (PLe.add _ hf)⟩⟩ (fun _ off _ => hr.nofroz off), .ptr (m := 0) (e := 0) (PAdd.self _ _ _)⟩
    show (w.heap.push _)[w.heap.size]? = _
    simp
  · exact absurd h (by simp)

theorem alloc_ok {H' : Heap} (hok : tb.Ok P) (hr : Rel N φ γ H w) (hf : H.next < H'.next → γ H.next = none) {t : TypeId} {z v : V} (hz : tb.zero t = some z) (h : newBox H z.cells = some (v, H')) : MemOut P N φ γ H w v H' NoT (do pure (.value (← Instr.alloc t true (.tuple #[])))) := by
  obtain ⟨zv, hzv, hzo⟩ := run_zeroValue' hok w hz
  have := box_step hr hf (zero_cells hzo) t h
  exact .value (by simp [Instr.alloc, hzv, newVar, newRow]) this.1 this.2

theorem boxOp_ok {H' : Heap} (hr : Rel N φ γ H w) (hf : H.next < H'.next → γ H.next = none) {t : TypeId} {x v : V} {x' : Value} (hx : VRel φ γ x x') (h : newBox H x.cells = some (v, H')) : MemOut P N φ γ H w v H' NoT (do pure (.value (← Instr.box t x'))) := by
  have ho : x.cells.all V.one = true := by
    unfold newBox at h
    split at h
    · assumption
    · exact absurd h (by simp)
  have := box_step hr hf (hx.cellsRel ho) t h
  exact .value (by simp [Instr.box, newVar, newRow]) this.1 this.2

/-- The cells that an address leads to. -/
theorem loadCells_ok (hr : Rel N φ γ H w) {x : V} {x' : Value} {cs : List V} (hx : VRel φ γ x x') (h : loadCellsV H x = some cs) :
    ∃ (a : Addr) (f : Nat → Value), x' = .pointer (some a) ∧ ∀ (j : Nat) (v : V), cs[j]? = some v → v.one = true ∧ VRel φ γ v (f j) ∧ w.cell? (a.add j) = some (f j) := by
  unfold loadCellsV at h
  split at h
  · rename_i b off
    split at h
    · rename_i cs2 hg
      cases h
      cases hx with
      | ptr hb =>
        rename_i cb m e
        obtain ⟨arr, T, ha, hsz, _, hc⟩ := hr.blk _ _ _ hb hg
        refine ⟨_, fun j => arr.getD (m + off + j) undef, rfl, fun j v hj => ?_⟩
        rw [List.getElem?_drop] at hj
        have := hc _ _ hj
        have hl := getElem?_lt hj
        have hs : m + off + j < arr.size := by simp only at hsz; omega
        refine ⟨this.1, by simpa [Nat.add_assoc] using this.2, ?_⟩
        rw [add_eq rfl]
        unfold World.cell?
        simp only at ha
        rw [ha]
        simp [Array.getD_eq_getD_getElem?, hs]
    · exact absurd h (by simp)
  · cases h
    cases hx with
    | cptr f h1 h2 h3 =>
      refine ⟨_, f, rfl, fun j v hj => ⟨(h2 j v hj).1, h3 j v hj, ?_⟩⟩
      rw [add_eq h1]
      exact hr.froz _ _ _ (h2 j v hj).2
  · exact absurd h (by simp)

theorem load_run (hok : tb.Ok P) (hr : Rel N φ γ H w) {T : TypeId} {x v : V} {x' : Value} (hx : VRel φ γ x x') (h : evalLoad tb H T x = some v) : ∃ a cv, x' = .pointer (some a) ∧ (loadVar T a).run P w = .ok cv w ∧ VRel φ γ v cv := by
  unfold evalLoad at h
  simp only [Option.bind_eq_bind, Option.bind_eq_some_iff] at h
  obtain ⟨n, hn, g, hg, cs, hcs, h⟩ := h
  obtain ⟨a, f, rfl, hc⟩ := loadCells_ok hr hx hcs
  cases g with
  | true =>
    simp only [if_true] at h
    split at h
    · rename_i hle
      cases h
      have hrun : (loadCells a n).run P w = .ok ((List.range n).map f).toArray w := run_loadCells w a n f (fun j hj => (hc j cs[j] (by simp [show j < cs.length by omega])).2.2)
      refine ⟨a, _, rfl, by simp [loadVar, run_isAgg' hok w hg, run_sizeOf' hok w hn, hrun]; rfl, agg_of_cells ⟨by simp; omega, fun j v hj => ?_⟩⟩
      have hl := getElem?_lt hj
      simp only [List.length_take] at hl
      rw [List.getElem?_take, if_pos (by omega)] at hj
      have := hc j v hj
      refine ⟨this.1, ?_⟩
      have e : ((List.range n).map f).toArray.getD j undef = f j := by
        simp [Array.getD_eq_getD_getElem?, show j < n by omega]
      rw [e]
      exact this.2.1
    · exact absurd h (by simp)
  | false =>
    simp only [Bool.false_eq_true, if_false] at h
    have h0 : cs[0]? = some v := by rw [← h]; cases cs <;> rfl
    have := hc 0 v h0
    have hz : a.add 0 = a := by simp [Addr.add]
    rw [hz] at this
    exact ⟨a, f 0, rfl, by simp [loadVar, run_isAgg' hok w hg, load, Sem.run, this.2.2], this.2.1⟩

theorem load_ok (hok : tb.Ok P) (hr : Rel N φ γ H w) {T : TypeId} {x v : V} {x' : Value} (hx : VRel φ γ x x') (h : evalLoad tb H T x = some v) : MemOut P N φ γ H w v H NoT (do pure (.value (← Instr.loadAt T x'))) := by
  obtain ⟨a, cv, rfl, hrun, hv⟩ := load_run hok hr hx h
  exact .value (by simp [Instr.loadAt, Instr.sureAddr, hrun]) (Step.refl hr) hv

/-- Cells of a box are written. -/
theorem box_write (hr : Rel N φ γ H w) {b cb m e : Nat} {cs : List V} (hb : γ b = some (cb, m, e)) (hg : H.get b = some (.cells cs)) {off : Nat} {xs : List V} {vs : List Value} (hl : vs.length = xs.length) (hle : off + xs.length ≤ cs.length)
    (hv : ∀ (j : Nat) (u : V), xs[j]? = some u → u.one = true ∧ VRel φ γ u (vs.getD j undef)) :
    ∃ w', (storeCells ⟨cb, m + off, none⟩ vs).run P w = .ok () w' ∧ Step N φ γ H w φ γ (H.put b (.cells (cs.take off ++ xs ++ cs.drop (off + xs.length)))) w' (fun i => i = b) := by
  obtain ⟨arr, T2, ha, hsz, he, hc⟩ := hr.blk _ _ _ hb hg
  simp only at ha hsz he hc
  have hst := run_storeCells_at P cb (m + off) T2 vs 0 arr w ha (by omega) (fun u hu => by
    obtain ⟨j, hj⟩ := List.mem_iff_getElem?.1 hu
    have hjl := getElem?_lt hj
    have := hv j xs[j] (by simp [show j < xs.length by omega])
    have e : vs.getD j undef = u := by simp [List.getD_eq_getElem?_getD, hj]
    rw [e] at this
    exact this.2.one this.1)
  obtain ⟨A, hA⟩ : ∃ A, A = (arr.toList.take (m + off + 0) ++ vs ++ arr.toList.drop (m + off + 0 + vs.length)).toArray := ⟨_, rfl⟩
  rw [← hA] at hst
  have hst : (storeCells ⟨cb, m + off, none⟩ vs).run P w = .ok () (w.setRow cb A) := by simpa using hst
  have hAs : A.size = arr.size := by subst hA; simp; omega
  refine ⟨w.setRow cb A, hst, Step.put hr hb hg rfl (FLe.refl _) rfl rfl rfl (size_setRow _ _ _) (fun i hi => setRow_other w cb i _ hi) ?_ (fun i off v hv => .inl hv) ⟨A, T2, setRow_heap w cb arr _ T2 (0, 0) ha, ?_, ?_, ?_⟩ ?_⟩
  · intro i o u hu
    have hne : i ≠ cb := by
      rintro rfl
      have := hr.free _ _ _ hb hg rfl o (Nat.zero_le _)
      simp only at this
      rw [this] at hu
      exact absurd hu (by simp)
    have := hr.froz _ _ _ hu
    rw [← this]
    exact World.cell?_of_block (w := w) (setRow_other w cb i _ hne)
  · simp only [hAs, List.length_append, List.length_take, List.length_drop]; omega
  · simp only [hAs]; exact he
  · intro j u hj
    have e0 : ∀ j, A.getD (m + j) undef = (arr.toList.take (m + off) ++ vs ++ arr.toList.drop (m + off + vs.length))[m + j]?.getD undef := by
      intro j
      subst hA
      simp [Array.getD_eq_getD_getElem?]
    simp only
    rw [e0]
    by_cases hj1 : j < off
    · rw [List.append_assoc, List.getElem?_append_left (by simp; omega), List.getElem?_take, if_pos (by omega)] at hj ⊢
      have := hc j u hj
      rwa [Array.getElem?_toList, ← Array.getD_eq_getD_getElem?]
    · by_cases hj2 : j < off + xs.length
      · rw [List.append_assoc, List.getElem?_append_right (by simp; omega), List.getElem?_append_left (by simp; omega)] at hj ⊢
        have e1 : j - (List.take off cs).length = j - off := by simp; omega
        have e2 : m + j - (List.take (m + off) arr.toList).length = j - off := by simp; omega
        rw [e1] at hj
        rw [e2, ← List.getD_eq_getElem?_getD]
        exact hv _ u hj
      · rw [List.append_assoc, List.getElem?_append_right (by simp; omega), List.getElem?_append_right (by simp; omega), List.getElem?_drop] at hj ⊢
        have e1 : off + xs.length + (j - (List.take off cs).length - xs.length) = j := by simp; omega
        have e2 : m + off + vs.length + (m + j - (List.take (m + off) arr.toList).length - vs.length) = m + j := by simp; omega
        rw [e1] at hj
        rw [e2, Array.getElem?_toList, ← Array.getD_eq_getD_getElem?]
        exact hc j u hj
  · intro _ o _
    exact hr.free _ _ _ hb hg rfl o (Nat.zero_le _)

theorem store_ok (hok : tb.Ok P) (hr : Rel N φ γ H w) {T : TypeId} {x v : V} {x' v' : Value} {H' : Heap} (hx : VRel φ γ x x') (hv : VRel φ γ v v') (h : evalStore tb H T x v = some H') :
    ∃ T', MemOut P N φ γ H w V.undef H' T' (do Instr.storeAt T x' v'; pure .skip) := by
  unfold evalStore at h
  simp only [Option.bind_eq_bind, Option.bind_eq_some_iff] at h
  obtain ⟨n, hn, h⟩ := h
  split at h
  · exact absurd h (by simp)
  · rename_i hcond
    simp only [Bool.or_eq_true, decide_eq_true_eq, Bool.not_eq_true', not_or, Bool.not_eq_false] at hcond
    obtain ⟨h1, h2⟩ := hcond
    have hvc := hv.cellsRel h2
    split at h
    · rename_i b off
      split at h
      · rename_i cs hg
        split at h
        · rename_i hle
          cases h
          cases hx with
          | ptr hb =>
            rename_i cb m e
            have hvl : v.cells.length = n := by simpa using h1
            have hle2 : off + v'.cells.toList.length ≤ cs.length := by simp [hvc.1, hvl]; omega
            obtain ⟨w2, hst, hs⟩ := box_write (P := P) hr hb hg (off := off) (xs := v.cells) (vs := v'.cells.toList) (by simp [hvc.1]) (by omega) (fun j u hj => by
              have := hvc.2 j u hj
              simpa [List.getD_eq_getElem?_getD, Array.getD_eq_getD_getElem?] using this)
            have hrun : (Instr.storeAt T (.pointer (some ⟨cb, m + off, none⟩)) v').run P w = .ok () w2 := by simp [Instr.storeAt, Instr.sureAddr, storeVar, run_sizeOf' hok w hn, hvc.1, hvl, hst]
            rw [hvl] at hs
            exact ⟨_, .unit hrun hs⟩
        · exact absurd h (by simp)
      · exact absurd h (by simp)
    · exact absurd h (by simp)

theorem makeMap_ok {H' : Heap} (hr : Rel N φ γ H w) (hf : H.next < H'.next → γ H.next = none) {t : TypeId} (h : H.new (.map [] 0) = some H') : MemOut P N φ γ H w (.map H.next) H' NoT (do pure (.value (← Instr.makeMap t none))) := by
  have hf := hf (Heap.new_lt h)
  refine .value (w' := w.alloc (.map #[] 0)) (by simp [Instr.makeMap]) (Step.new hr _ (FLe.refl _) (fun _ _ _ h => .inl h) h hf 0 0 ⟨#[], ?_, rfl, fun j e hj => by simp at hj⟩ (fun _ off _ => hr.nofroz off)) (.map (PAdd.self _ _ _))
  show (w.heap.push _)[w.heap.size]? = _
  simp

end ops
end
end Go.Sx
