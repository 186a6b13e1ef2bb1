/- Composite values; then all the operations without memory in one theorem. -/
import Derived.Test.YtaidiaiedhbaoaaSx6
/- Composite values; then all the operations without memory in one theorem. -/
set_option linter.unusedVariables false
set_option linter.unusedSimpArgs false
namespace Go.Sx
noncomputable section

theorem foldl_set (off : Nat) : ∀ (vs : List Value) (k : Nat) (arr : Array Value), off + k + vs.length ≤ arr.size →
    ((vs.zipIdx k).foldl (fun cs (p : Value × Nat) => cs.setIfInBounds (off + p.2) p.1) arr).size = arr.size ∧
    ∀ i, ((vs.zipIdx k).foldl (fun cs (p : Value × Nat) => cs.setIfInBounds (off + p.2) p.1) arr)[i]? = if off + k ≤ i ∧ i < off + k + vs.length then vs[i - (off + k)]? else arr[i]?
  | [], k, arr, _ => by
    refine ⟨rfl, fun i => ?_⟩
    rw [if_neg (by simp)]
    rfl
  | v :: vs, k, arr, h => by
    simp only [List.length_cons] at h
    rw [List.zipIdx_cons, List.foldl_cons]
    have ih := foldl_set off vs (k + 1) (arr.setIfInBounds (off + k) v) (by simp; omega)
    refine ⟨by rw [ih.1]; simp, fun i => ?_⟩
    rw [ih.2 i]
    by_cases h1 : i = off + k
    · subst h1
      rw [if_neg (by omega), if_pos (by simp)]
      simp [show off + k < arr.size by omega]
    · by_cases h2 : off + (k + 1) ≤ i ∧ i < off + (k + 1) + vs.length
      · rw [if_pos h2, if_pos (by simp; omega), show i - (off + k) = (i - (off + (k + 1))) + 1 by omega, List.getElem?_cons_succ]
      · rw [if_neg h2, if_neg (by simp; omega), Array.getElem?_setIfInBounds_ne (by omega)]

theorem fill_ok {φ : Froz} {γ : Place} {place : Nat → Option (Nat × Nat)} : ∀ {parts : List (Nat × V)} {parts' : List (Nat × Value)} {cells r : List V} {arr : Array Value},
    parts'.length = parts.length → (∀ (j : Nat) (p : Nat × V), parts[j]? = some p → ∃ x, parts'[j]? = some (p.1, x) ∧ VRel φ γ p.2 x) → CellsRel φ γ cells arr → fillV place cells parts = some r → ∃ arr', Instr.fill place arr parts' = some arr' ∧ CellsRel φ γ r arr'
  | [], parts', cells, r, arr, hl, _, hc, h => by
    have : parts' = [] := List.length_eq_zero_iff.1 (by simpa using hl)
    subst this
    simp [fillV] at h
    subst h
    exact ⟨arr, rfl, hc⟩
  | (i, v) :: rest, parts', cells, r, arr, hl, hp, hc, h => by
    cases parts' with
    | nil => simp at hl
    | cons q rest' =>
      obtain ⟨x, hq, hv⟩ := hp 0 (i, v) rfl
      simp at hq
      subst hq
      unfold fillV at h
      unfold Instr.fill
      split at h
      · exact absurd h (by simp)
      · rename_i off sz hpl
        rw [hpl]
        simp only
        split at h
        · exact absurd h (by simp)
        · rename_i hcond
          simp only [Bool.or_eq_true, decide_eq_true_eq, Bool.not_eq_true', not_or, Bool.not_eq_false] at hcond
          obtain ⟨⟨h1, h2⟩, h3⟩ := hcond
          have hvc := hv.cellsRel h3
          have hs1 : x.cells.size = sz := by rw [hvc.1]; simpa using h1
          have hs2 : off + sz ≤ arr.size := by rw [hc.1]; omega
          rw [if_neg (by simp [hs1]; omega)]
          have hfold := foldl_set off x.cells.toList 0 arr (by simp; omega)
          have hconv : (Array.foldl (fun cs (p : Value × Nat) => cs.setIfInBounds (off + p.2) p.1) arr x.cells.zipIdx) = (x.cells.toList.zipIdx 0).foldl (fun cs (p : Value × Nat) => cs.setIfInBounds (off + p.2) p.1) arr := by
            rw [← Array.foldl_toList]
            simp
          have hlen : v.cells.length = sz := by simpa using h1
          refine fill_ok (by simpa using hl) (fun j p hj => by simpa using hp (j + 1) p (by simpa using hj)) (arr := _) ⟨?_, ?_⟩ h
          · show (Array.foldl (fun cs (p : Value × Nat) => cs.setIfInBounds (off + p.2) p.1) arr x.cells.zipIdx).size = _
            rw [hconv, hfold.1]
            simp [hc.1, hlen]
            have := hc.1
            omega
          · intro j u hj
            show u.one = true ∧ VRel φ γ u ((Array.foldl (fun cs (p : Value × Nat) => cs.setIfInBounds (off + p.2) p.1) arr x.cells.zipIdx).getD j undef)
            rw [hconv, Array.getD_eq_getD_getElem?, hfold.2 j]
            simp only [Nat.add_zero, Array.length_toList, hs1]
            have hcl := hc.1
            by_cases hj1 : j < off
            · rw [if_neg (by omega), ← Array.getD_eq_getD_getElem?]
              rw [List.append_assoc, List.getElem?_append_left (by simp; omega), List.getElem?_take, if_pos hj1] at hj
              exact hc.2 j u hj
            · by_cases hj2 : j < off + sz
              · rw [if_pos (by omega)]
                rw [List.append_assoc, List.getElem?_append_right (by simp; omega), List.getElem?_append_left (by simp; omega)] at hj
                have e : j - (List.take off cells).length = j - off := by simp; omega
                rw [e] at hj
                have := hvc.2 _ u hj
                rw [Array.getElem?_toList, ← Array.getD_eq_getD_getElem?]
                exact this
              · rw [if_neg (by omega), ← Array.getD_eq_getD_getElem?]
                rw [List.append_assoc, List.getElem?_append_right (by simp; omega), List.getElem?_append_right (by simp; omega), List.getElem?_drop] at hj
                have e : off + sz + (j - (List.take off cells).length - v.cells.length) = j := by simp [hlen]; omega
                rw [e] at hj
                exact hc.2 j u hj

theorem fillV_len {place : Nat → Option (Nat × Nat)} : ∀ {parts : List (Nat × V)} {cells r : List V}, fillV place cells parts = some r → r.length = cells.length
  | [], cells, r, h => by simp [fillV] at h; subst h; rfl
  | (i, v) :: rest, cells, r, h => by
    unfold fillV at h
    split at h
    · exact absurd h (by simp)
    · split at h
      · exact absurd h (by simp)
      · rename_i hcond
        simp only [Bool.or_eq_true, decide_eq_true_eq, Bool.not_eq_true', not_or, Bool.not_eq_false] at hcond
        obtain ⟨⟨h1, h2⟩, h3⟩ := hcond
        rw [fillV_len h]
        simp at h1 h2 ⊢
        omega

theorem zero_cells {φ : Froz} {γ : Place} {zv : Value} {z : V} (h : ofValue zv = some z) : CellsRel φ γ z.cells zv.cells := (ofValue_rel h).cellsRel (ofValue_cells h)

/-- The parts of a composite value. -/
def PartsRel (φ : Froz) (γ : Place) (parts : List (Nat × V)) (parts' : List (Nat × Value)) : Prop :=
  parts'.length = parts.length ∧ ∀ (j : Nat) (p : Nat × V), parts[j]? = some p → ∃ x, parts'[j]? = some (p.1, x) ∧ VRel φ γ p.2 x

theorem chunk_len {sz : Nat} : ∀ (n : Nat) (l : List V), (chunk sz n l).length = n
  | 0, _ => rfl
  | n + 1, l => by simp [chunk, chunk_len n]
theorem chunk_row {sz : Nat} : ∀ (n : Nat) (l : List V), n * sz ≤ l.length → ∀ c, c ∈ chunk sz n l → c.length = sz
  | 0, _, _, c, hc => by simp [chunk] at hc
  | n + 1, l, h, c, hc => by
    rw [Nat.succ_mul] at h
    simp only [chunk, List.mem_cons] at hc
    rcases hc with rfl | hc
    · simp; omega
    · exact chunk_row n _ (by simp; omega) c hc
theorem chunk_flat {sz : Nat} : ∀ (n : Nat) (l : List V), n * sz = l.length → (chunk sz n l).flatten = l
  | 0, l, h => by simp at h; simp [chunk, List.length_eq_zero_iff.1 h.symm]
  | n + 1, l, h => by
    rw [Nat.succ_mul] at h
    simp only [chunk, List.flatten_cons]
    rw [chunk_flat n _ (by simp; omega), List.take_append_drop]

theorem zeros_rel {φ : Froz} {γ : Place} {z : List V} {zc : Array Value} (h : CellsRel φ γ z zc) {sz : Nat} (hz : z.length = sz) (n : Nat) :
    CellsRel φ γ ((List.replicate n z).flatten) ((Array.range (n * sz)).map (zc[· % zc.size]!)) := by
  have hs : zc.size = sz := h.1.trans hz
  have hlen : ((List.replicate n z).flatten).length = n * sz := by simp [hz]
  refine ⟨by rw [hlen]; simp, fun j v hj => ?_⟩
  have hl := getElem?_lt hj
  rw [hlen] at hl
  have hsz : 0 < sz := by
    rcases Nat.eq_zero_or_pos sz with h | h
    · subst h; simp at hl
    · exact h
  have hrow : ∀ c, c ∈ List.replicate n z → c.length = sz := fun c hc => by rw [(List.mem_replicate.1 hc).2, hz]
  obtain ⟨i, k, c, rfl, hi, hk⟩ := flat_inv hrow hj
  have hc : c = z := by
    have := List.mem_of_getElem? hi
    exact (List.mem_replicate.1 this).2
  subst hc
  have hk2 := getElem?_lt hk
  have hmod : (i * sz + k) % sz = k := by
    rw [Nat.add_comm, Nat.add_mul_mod_self_right, Nat.mod_eq_of_lt (by omega)]
  have := h.2 k v hk
  refine ⟨this.1, ?_⟩
  have e : ((Array.range (n * sz)).map (zc[· % zc.size]!)).getD (i * sz + k) undef = zc.getD k undef := by
    rw [Array.getD_eq_getD_getElem?]
    have hkz : k < zc.size := by omega
    simp only [hs, hmod, Array.getD_eq_getD_getElem?, getElem!_def, Array.getElem?_map, Array.getElem?_range, hl, if_true, Option.map_some, Option.getD_some, Array.getElem?_eq_getElem hkz]
  rw [e]
  exact this.2

section ops
variable {P : Program} {tb : Tb} (hok : tb.Ok P) {N : Nat} {φ : Froz} {γ : Place} {H : Heap} {w : World} (hr : Rel N φ γ H w)
include hok hr

omit hr in
theorem places_run (w : World) : ∀ {l : List Field} {r : List (Nat × Nat)}, l.mapM (fun f => (tb.size f.type).map fun s => (f.offset, s)) = some r → (l.mapM (fun f => do pure (f.offset, ← sizeOf f.type)) : Sem (List (Nat × Nat))).run P w = .ok r w
  | [], r, h => by simp at h; subst h; rfl
  | f :: l, r, h => by
    rw [List.mapM_cons] at h ⊢
    simp only [Option.bind_eq_bind, Option.bind_eq_some_iff, Option.pure_def, Option.some.injEq, Option.map_eq_some_iff] at h
    obtain ⟨p, ⟨s, hs, rfl⟩, q, hq, rfl⟩ := h
    have ih := places_run w hq
    simp only [bind_pure_comp] at ih ⊢
    simp [run_sizeOf' hok w hs, ih]

theorem build_ok {T : TypeId} {parts : List (Nat × V)} {parts' : Array (Nat × Value)} {v : V} (h : evalBuild tb T parts = some v) (hp : PartsRel φ γ parts parts'.toList) : PureOut P N φ γ H w v (Instr.build T parts') := by
  unfold evalBuild at h
  simp only [Option.bind_eq_bind, Option.bind_eq_some_iff] at h
  obtain ⟨z, hz, h⟩ := h
  obtain ⟨zv, hzv, hzo⟩ := run_zeroValue' hok w hz
  split at h
  · rename_i fs hd
    simp only [Option.bind_eq_some_iff, Option.some.injEq] at h
    obtain ⟨places, hpl, cs, hcs, rfl⟩ := h
    obtain ⟨arr, hf, hc⟩ := fill_ok hp.1 hp.2 (zero_cells hzo) hcs
    refine .same hr ?_ (agg_of_cells hc)
    have hm : (fs.mapM (fun f => do pure (f.offset, ← sizeOf f.type)) : Sem (Array (Nat × Nat))).run P w = .ok places.toArray w := by
      rw [Array.mapM_eq_mapM_toList, Sem.run_map, places_run hok w hpl]
      rfl
    simp only [Instr.build, Sem.run_bind, hzv, Result.andThen_ok, run_underlying (hok.desc _ _ hd), hm]
    have : (fun (x : Nat) => places.toArray[x]?) = fun (i : Nat) => places[i]? := by funext i; simp
    rw [this, hf]
    rfl
  · rename_i n e hd
    simp only [Option.bind_eq_some_iff, Option.some.injEq] at h
    obtain ⟨sz, hsz, cs, hcs, rfl⟩ := h
    obtain ⟨arr, hf, hc⟩ := fill_ok hp.1 hp.2 (zero_cells hzo) hcs
    refine .same hr ?_ (agg_of_cells hc)
    simp only [Instr.build, Sem.run_bind, hzv, Result.andThen_ok, run_underlying (hok.desc _ _ hd), run_sizeOf' hok w hsz]
    rw [hf]
    rfl
  · exact absurd h (by simp)

theorem buildSlice_ok {T : TypeId} {len : Nat} {parts : List (Nat × V)} {parts' : Array (Nat × Value)} {v : V} (h : evalBuildSlice tb T len parts = some v) (hp : PartsRel φ γ parts parts'.toList) : PureOut P N φ γ H w v (Instr.buildSlice T len parts') := by
  unfold evalBuildSlice at h
  simp only [Option.bind_eq_bind, Option.bind_eq_some_iff] at h
  obtain ⟨e, he, sz, hsz, h⟩ := h
  split at he
  · rename_i e2 hd
    cases he
    split at h
    · exact absurd h (by simp)
    · rename_i hcond
      simp only [Bool.or_eq_true, decide_eq_true_eq, not_or] at hcond
      simp only [Option.bind_eq_some_iff] at h
      obtain ⟨z, hz, h⟩ := h
      split at h
      · exact absurd h (by simp)
      · rename_i hzl
        simp only [Option.bind_eq_some_iff, Option.some.injEq] at h
        obtain ⟨cs, hcs, rfl⟩ := h
        have hzl' : z.cells.length = sz := by simpa using hzl
        obtain ⟨zv, hzv, hzo⟩ := run_zeroValue' hok w hz
        have hz0 := zeros_rel (zero_cells (φ := φ) (γ := γ) hzo) hzl' len
        obtain ⟨arr, hf, hc⟩ := fill_ok hp.1 hp.2 hz0 hcs
        have hcl : cs.length = len * sz := by rw [fillV_len hcs]; simp [hzl']
        have hsize : arr.size = len * sz := hc.1.trans hcl
        have hlen := chunk_len (sz := sz) len cs
        have hrun : (Instr.buildSlice T len parts').run P w = .ok (.slice (some ⟨w.heap.size, 0, none⟩) len len) (w.alloc (.cells arr e)) := by
          have h24 : ¬ (len * sz > 2 ^ 24) := by have : (2 : Nat) ^ 24 = 16777216 := by decide
                                                 omega
          simp only [Instr.buildSlice, Sem.run_bind, run_underlying (hok.desc _ _ hd), Result.andThen_ok, run_sizeOf' hok w hsz]
          rw [if_neg h24]
          by_cases h0 : len * sz = 0
          · rw [h0] at hf ⊢
            simp only [if_true, Sem.run_bind, Sem.run_pure, Result.andThen_ok]
            have e1 : (Array.range 0).map (fun x => (#[] : Array Value)[x % (#[] : Array Value).size]!) = (Array.range 0).map (fun x => zv.cells[x % zv.cells.size]!) := by simp
            rw [e1, hf]
            simp [newRow]
          · rw [if_neg h0]
            simp only [Sem.run_bind, hzv, Sem.run_pure, Result.andThen_ok]
            rw [hf]
            simp [newRow]
        refine ⟨_, _, _, hrun, Step.row hr arr e (0, 0) (len * sz) (by omega), ?_⟩
        have := list_of_row hr (es := chunk sz len cs) (tok := .full) (cs := arr) (sz := sz) (cap := len) (chunk_row len cs (by omega)) (by rw [hlen]; exact Nat.le_refl _) (by unfold maxLen; have := Nat.le_mul_of_pos_right len (show 0 < sz by omega); omega)
          (fun k v hk => by rw [chunk_flat len cs hcl.symm] at hk; exact hc.2 k v hk) (by show len = _; rw [hlen])
        rw [hlen] at this
        exact this
  · exact absurd he (by simp)

end ops

section rels
variable {P : Program} {tb : Tb} {N : Nat} {φ : Froz} {γ : Place} {H : Heap} {w : World}

theorem args_rel {env : Env} {a : Act} (he : ERel φ γ env a) (hg : GlobOk φ tb) (args : Array Operand) : ∀ (j : Nat) (v : V), (args.toList.map (ev tb env))[j]? = some v → VRel φ γ v ((args.map a.eval).getD j undef) := by
  intro j v hj
  rw [List.getElem?_map] at hj
  obtain ⟨o, ho, rfl⟩ := Option.map_eq_some_iff.1 hj
  have e : (args.map a.eval).getD j undef = a.eval o := by
    rw [Array.getElem?_toList] at ho
    simp [Array.getD_eq_getD_getElem?, ho]
  rw [e]
  exact ev_rel he hg o

theorem parts_rel {env : Env} {a : Act} (he : ERel φ γ env a) (hg : GlobOk φ tb) (parts : Array (Nat × Operand)) : PartsRel φ γ (parts.toList.map fun p => (p.1, ev tb env p.2)) ((parts.map fun p => (p.1, a.eval p.2)).toList) := by
  refine ⟨by simp, fun j p hj => ?_⟩
  rw [List.getElem?_map] at hj
  obtain ⟨o, ho, rfl⟩ := Option.map_eq_some_iff.1 hj
  refine ⟨a.eval o.2, ?_, ev_rel he hg o.2⟩
  rw [Array.getElem?_toList] at ho
  simp [ho]

theorem opt_rel {env : Env} {a : Act} (he : ERel φ γ env a) (hg : GlobOk φ tb) (o : Option Operand) : ORel φ γ (o.map (ev tb env)) (o.map a.eval) := by
  cases o with
  | none => trivial
  | some o => exact ev_rel he hg o

/-- An operation, as the model has it. -/
def NextOut (P : Program) (N : Nat) (φ : Froz) (γ : Place) (H : Heap) (w : World) (v : V) (e : Sem Next) : Prop :=
  ∃ φ' cv w', e.run P w = .ok (.value cv) w' ∧ Step N φ γ H w φ' γ H w' NoT ∧ VRel φ' γ v cv

theorem NextOut.of {v : V} {e : Sem Value} (h : PureOut P N φ γ H w v e) : NextOut P N φ γ H w v (do pure (.value (← e))) := by
  obtain ⟨φ', cv, w', h1, h2, h3⟩ := h
  exact ⟨φ', cv, w', by simp [h1], h2, h3⟩
theorem NextOut.pure {v : V} {cv : Value} (hr : Rel N φ γ H w) (h : VRel φ γ v cv) : NextOut P N φ γ H w v (Pure.pure (.value cv)) := ⟨φ, cv, w, rfl, Step.refl hr, h⟩

theorem max_ok {isMax : Bool} {args : List V} {args' : Array Value} {v : V} {ty : TypeId} {ats : Array TypeId} (hr : Rel N φ γ H w) (h : evalMax P isMax args = some v) (hl : args'.size = args.length) (ha : ∀ (j : Nat) (u : V), args[j]? = some u → VRel φ γ u (args'.getD j undef)) :
    PureOut P N φ γ H w v (if isMax then Builtin.max_ ats ty args' else Builtin.min_ ats ty args') := by
  unfold evalMax at h
  split at h
  · rename_i k a k' b
    cases h
    have h0 := ha 0 _ rfl
    have h1 := ha 1 _ rfl
    simp at hl
    have e : args' = #[.int k a, .int k' b] := by
      apply Array.ext
      · simpa using hl
      · intro i hi1 hi2
        have h0' : args'.getD 0 undef = .int k a := by cases h : args'.getD 0 undef <;> rw [h] at h0 <;> cases h0; rfl
        have h1' : args'.getD 1 undef = .int k' b := by cases h : args'.getD 1 undef <;> rw [h] at h1 <;> cases h1; rfl
        match i, hi1, hi2 with
        | 0, hi1, _ => simpa [Array.getD_eq_getD_getElem?, hl] using h0'
        | 1, hi1, _ => simpa [Array.getD_eq_getD_getElem?, hl] using h1'
        | i + 2, hi1, hi2 => simp at hi2; omega
    subst e
    cases isMax with
    | true => exact .same hr (by simp [Builtin.max_, Builtin.max2]) (.val rfl)
    | false => exact .same hr (by simp [Builtin.min_, Builtin.min2]) (.val rfl)
  · rename_i x y
    split at h
    · rename_i k a k' b hx hy
      cases h
      have hi := toSE_ok hx (ha 0 _ rfl)
      have hj := toSE_ok hy (ha 1 _ rfl)
      simp at hl
      have e : args' = #[.int k (a.num φ.rho), .int k' (b.num φ.rho)] := by
        apply Array.ext
        · simpa using hl
        · intro n hi1 hi2
          match n, hi1, hi2 with
          | 0, hi1, _ => simpa [SE.val, Array.getD_eq_getD_getElem?, hl] using hi
          | 1, hi1, _ => simpa [SE.val, Array.getD_eq_getD_getElem?, hl] using hj
          | n + 2, hi1, hi2 => simp at hi2; omega
      subst e
      cases isMax with
      | true => exact .same (cv := .int k (if b.num φ.rho > a.num φ.rho then b.num φ.rho else a.num φ.rho)) hr (by simp [Builtin.max_, Builtin.max2]) (.sym (by first | (simp [SE.val, SE.num, SE.all]; done) | (simp [SE.val, SE.num, SE.all]; rfl)))
      | false => exact .same (cv := .int k (if b.num φ.rho < a.num φ.rho then b.num φ.rho else a.num φ.rho)) hr (by simp [Builtin.min_, Builtin.min2]) (.sym (by first | (simp [SE.val, SE.num, SE.all]; done) | (simp [SE.val, SE.num, SE.all]; rfl)))
    · exact absurd h (by simp)
  · rename_i x y z
    split at h
    · rename_i k a k' b k'' c hx hy hz
      cases h
      have hi := toSE_ok hx (ha 0 _ rfl)
      have hj := toSE_ok hy (ha 1 _ rfl)
      have hk := toSE_ok hz (ha 2 _ rfl)
      simp at hl
      have e : args' = #[.int k (a.num φ.rho), .int k' (b.num φ.rho), .int k'' (c.num φ.rho)] := by
        apply Array.ext
        · simpa using hl
        · intro n hi1 hi2
          match n, hi1, hi2 with
          | 0, hi1, _ => simpa [SE.val, Array.getD_eq_getD_getElem?, hl] using hi
          | 1, hi1, _ => simpa [SE.val, Array.getD_eq_getD_getElem?, hl] using hj
          | 2, hi1, _ => simpa [SE.val, Array.getD_eq_getD_getElem?, hl] using hk
          | n + 3, hi1, hi2 => simp at hi2; omega
      subst e
      cases isMax with
      | true => exact .same (cv := .int k (SE.num φ.rho (.max true (.max true a b) c))) hr (by simp [Builtin.max_, Builtin.max2, SE.num, SE.all]) (.sym rfl)
      | false => exact .same (cv := .int k (SE.num φ.rho (.max false (.max false a b) c))) hr (by simp [Builtin.min_, Builtin.min2, SE.num, SE.all]) (.sym rfl)
    · exact absurd h (by simp)
  · exact absurd h (by simp)

end rels

section ops
variable {P : Program} {tb : Tb} (hok : tb.Ok P) {N : Nat} {φ : Froz} {γ : Place} {H : Heap} {w : World} (hr : Rel N φ γ H w)
include hok hr

theorem pure_ok {env : Env} {a : Act} (he : ERel φ γ env a) (hg : GlobOk φ tb) (o : Oper) {v : V} (h : evalPure P tb env o.op = some v) : NextOut P N φ γ H w v (execOp a.eval o) := by
  obtain ⟨dst, op, ty, pos, after, guard⟩ := o
  simp only at h
  unfold evalPure at h
  split at h
  · cases h; exact .pure hr (ev_rel he hg _)
  · cases h; exact .pure hr (ev_rel he hg _)
  · rename_i c x y
    split at h
    · rename_i t bx by_ hc hbx hby
      cases h
      have hcr := ev_rel he hg c
      have hxr := ev_rel he hg x
      have hyr := ev_rel he hg y
      rw [hc] at hcr
      rw [hbx] at hxr
      rw [hby] at hyr
      have hce : a.eval c = .bool t := by cases h : a.eval c <;> rw [h] at hcr <;> cases hcr; rfl
      refine ⟨φ, if t then a.eval x else a.eval y, w, ?_, Step.refl hr, ?_⟩
      · simp [execOp, hce, asBool]
      · cases t
        · exact hyr
        · exact hxr
    · rename_i t hc hov
      cases h
      have hcr := ev_rel he hg c
      rw [hc] at hcr
      have hce : a.eval c = .bool t := by cases h : a.eval c <;> rw [h] at hcr <;> cases hcr; rfl
      refine ⟨φ, if t then a.eval x else a.eval y, w, ?_, Step.refl hr, ?_⟩
      · simp [execOp, hce, asBool]
      · cases t
        · exact ev_rel he hg y
        · exact ev_rel he hg x
    · rename_i e hc
      cases h
      have hcr := ev_rel he hg c
      rw [hc] at hcr
      have hce : a.eval c = .bool (e.truth tb.rho) := by
        generalize a.eval c = cv at hcr
        cases hcr with
        | sym h2 => rw [h2, hg.rho]; rfl
      refine ⟨φ, if e.truth tb.rho then a.eval x else a.eval y, w, ?_, Step.refl hr, ?_⟩
      · simp [execOp, hce, asBool]
      · cases e.truth tb.rho
        · exact ev_rel he hg y
        · exact ev_rel he hg x
    · exact absurd h (by simp)
  · exact NextOut.of (build_ok hok hr h (parts_rel he hg _))
  · exact NextOut.of (buildSlice_ok hok hr h (parts_rel he hg _))
  · rename_i x
    split at h
    · rename_i b off hx
      cases h
      have := ev_rel he hg x
      rw [hx] at this
      generalize hc : a.eval x = c at this
      cases this with
      | ptr hb => exact ⟨φ, _, w, by simp [execOp, hc], Step.refl hr, .ptr hb⟩
    · rename_i cs hx
      cases h
      have := ev_rel he hg x
      rw [hx] at this
      generalize hc : a.eval x = c at this
      have h2 := this
      cases this with
      | cptr f h1 _ _ => exact ⟨φ, _, w, by simp [execOp, hc], Step.refl hr, h2⟩
    · exact absurd h (by simp)
  · rename_i op t x y _
    obtain ⟨cv, hrun, hv⟩ := bin_ok hok hg.rho x y h (ev_rel he hg x) (ev_rel he hg y) w
    exact NextOut.of (.same hr hrun hv)
  · exact NextOut.of (un_ok hr h (ev_rel he hg _))
  · exact NextOut.of (conv_ok hok hg.rho hr h (ev_rel he hg _))
  · rename_i t x
    split at h
    · exact absurd h (by simp)
    · rename_i d hni hd
      cases h
      refine NextOut.of (.same hr ?_ (.iface (ev_rel he hg x)))
      have := run_underlying (hok.desc _ _ hd) w
      cases d <;> first | exact absurd rfl (hni _) | simp [Instr.makeInterface, this]
    · exact absurd h (by simp)
  · cases h
    exact NextOut.of (.same hr (by simp [Instr.makeFunc]) (.func (by simp) (by simp) (args_rel he hg _) (args_rel he hg _)))
  · exact NextOut.of (slice_ok hok hr hg.rho h (ev_rel he hg _) (opt_rel he hg _) (opt_rel he hg _) (opt_rel he hg _))
  · exact NextOut.of (fieldAddr_ok hok hr h (ev_rel he hg _))
  · exact NextOut.of (field_ok hok hr h (ev_rel he hg _))
  · exact NextOut.of (indexAddr_ok hok hr hg.rho h (ev_rel he hg _) (ev_rel he hg _))
  · exact NextOut.of (index_ok hok hr hg.rho h (ev_rel he hg _) (ev_rel he hg _))
  · rename_i x i
    split at h
    · rename_i vs hx
      have := ev_rel he hg x
      rw [hx] at this
      exact NextOut.of (extract_ok hr h this)
    · exact absurd h (by simp)
  · rename_i args ats
    have := max_ok (P := P) (isMax := true) (ty := ty) (ats := ats) hr h (by simp) (args_rel he hg args)
    have := NextOut.of this
    simpa [execOp, resolve, invoke, builtin] using this
  · rename_i args ats
    have := max_ok (P := P) (isMax := false) (ty := ty) (ats := ats) hr h (by simp) (args_rel he hg args)
    have := NextOut.of this
    simpa [execOp, resolve, invoke, builtin] using this
  · exact absurd h (by simp)
end ops

end
end Go.Sx
