/- Made slices and append. -/
import Derived.Test.YtaidiaiedhbaoaaSx8
import Derived.Laws.Append
import Derived.Laws.AppendOwn
/- Made slices and append. -/
set_option linter.unusedVariables false
set_option linter.unusedSimpArgs false
namespace Go.Sx
noncomputable section

theorem info3 {P : Program} {tb : Tb} (hok : tb.Ok P) {t : TypeId} {sz by_ : Nat} {z : V} (h1 : tb.size t = some sz) (h2 : tb.bytes t = some by_) (h3 : tb.zero t = some z) :
    ∃ i zv, P.info? t = some i ∧ i.size = sz ∧ i.bytes = by_ ∧ i.zero = some zv ∧ ofValue zv = some z := by
  unfold Tb.size at h1
  unfold Tb.bytes at h2
  unfold Tb.zero at h3
  obtain ⟨⟨a, b, z0⟩, hi, rfl⟩ := Option.map_eq_some_iff.1 h1
  rw [hi] at h2 h3
  simp only [Option.map_some, Option.some.injEq, Option.bind_some, Option.bind_eq_some_iff] at h2 h3
  obtain ⟨zv, hz, ho⟩ := h3
  obtain ⟨i, g1, g2, g3, g4⟩ := hok.info _ _ _ _ hi
  exact ⟨i, zv, g1, g2, g3.trans h2, g4.trans hz, ho⟩

/-- A list told by the first cells of a block of which nothing was told. -/
theorem list_at {φ : Froz} {γ : Place} {b : Nat} (hnf : ∀ o, φ b o = none) {es : List (List V)} {tok : Tok} {cs : Array Value} {sz cap : Nat} (hrow : ∀ c, c ∈ es → c.length = sz) (hle : es.length ≤ cap) (hmax : cap ≤ maxLen)
    (hc : ∀ k v, es.flatten[k]? = some v → v.one = true ∧ VRel φ γ v (cs.getD k undef)) (ht : TokRel γ tok ⟨b, 0, none⟩ es.length cap sz) :
    VRel (FAdd φ b (es.length * sz) (fun k => cs.getD k undef)) γ (.list false es tok) (.slice (some ⟨b, 0, none⟩) es.length cap) := by
  refine .list_mk sz (fun k => cs.getD k undef) (fun _ => rfl) hle hmax hrow (fun k v hk => ⟨(hc k v hk).1, ?_, (hc k v hk).2.mono (FAdd.le hnf) (PLe.refl _)⟩) ht
  have hl := getElem?_lt hk
  rw [flat_len hrow] at hl
  rw [FAdd.at_]
  simp [hl]

/-- A new block, its first cells a list, the rest its holder's. -/
theorem own_step {N : Nat} {φ : Froz} {γ : Place} {H H' : Heap} {w : World} (hr : Rel N φ γ H w) (hf : γ H.next = none) (hn : H.new (.tail true) = some H') {es : List (List V)} {cs : Array Value} {sz cap : Nat} (T : TypeId)
    (hrow : ∀ c, c ∈ es → c.length = sz) (hle : es.length ≤ cap) (hmax : cap ≤ maxLen) (hc : ∀ k v, es.flatten[k]? = some v → v.one = true ∧ VRel φ γ v (cs.getD k undef)) (hs : cs.size = cap * sz) :
    Step N φ γ H w (FAdd φ w.heap.size (es.length * sz) (fun k => cs.getD k undef)) (PAdd γ H.next (w.heap.size, es.length * sz, cap * sz)) H' (w.alloc (.cells cs T)) NoT ∧
    VRel (FAdd φ w.heap.size (es.length * sz) (fun k => cs.getD k undef)) (PAdd γ H.next (w.heap.size, es.length * sz, cap * sz)) (.list false es (.own H.next sz)) (.slice (some ⟨w.heap.size, 0, none⟩) es.length cap) := by
  have hms : es.length * sz ≤ cap * sz := Nat.mul_le_mul_right _ hle
  refine ⟨Step.new hr _ (FAdd.le hr.nofroz) (fun b off v hv => ?_) hn hf _ _ ⟨cs, T, ?_, hs, hms⟩ (fun _ off ho => ?_), ?_⟩
  · rw [FAdd.at_] at hv
    split at hv
    · rename_i hh
      obtain ⟨rfl, ho⟩ := hh
      refine .inr ⟨rfl, cell_new ?_⟩
      cases hv
      simp [Array.getD_eq_getD_getElem?, show off < cs.size by omega]
    · exact .inl hv
  · show (w.heap.push _)[w.heap.size]? = _
    simp
  · simp only [Blk.mark] at ho
    rw [FAdd.at_, if_neg (by omega)]
    exact hr.nofroz off
  · refine list_at hr.nofroz hrow hle hmax (fun k v hk => ⟨(hc k v hk).1, (hc k v hk).2.mono (FLe.refl _) (PLe.add _ hf)⟩) ?_
    refine ⟨rfl, ?_⟩
    rw [PAdd.self]
    simp

theorem makeSlice_ok {P : Program} {tb : Tb} (hok : tb.Ok P) {N : Nat} {φ : Froz} {γ : Place} {H H' : Heap} {w : World} (hr : Rel N φ γ H w) (hf : H.next < H'.next → γ H.next = none) {T : TypeId} {l c v : V} {l' c' : Value}
    (hl : VRel φ γ l l') (hc : VRel φ γ c c') (h : evalMakeSlice tb H T l c = some (v, H')) : MemOut P N φ γ H w v H' NoT (do pure (.value (← Instr.makeSlice T l' c'))) := by
  unfold evalMakeSlice at h
  split at h
  · rename_i e l c hd
    simp only [Option.bind_eq_bind, Option.bind_eq_some_iff] at h
    obtain ⟨sz, hsz, by_, hby, z, hz, h⟩ := h
    split at h
    · exact absurd h (by simp)
    · rename_i hcond
      simp only [Bool.or_eq_true, decide_eq_true_eq, Bool.not_eq_true', not_or, Bool.not_eq_false, Bool.and_eq_true] at hcond
      obtain ⟨⟨⟨h1, h2⟩, h3⟩, ⟨h4, h5⟩, h6⟩ := hcond
      cases hl; cases hc
      obtain ⟨i, zv, g1, g2, g3, g4, g5⟩ := info3 hok hsz hby hz
      have hb1 : (i.bytes : Int) * c ≤ 281474976710656 := by rw [g3, Int.mul_comm]; omega
      have hcle : c ≤ 140737488355328 := by
        have : (1 : Int) ≤ by_ := by omega
        have := Int.mul_le_mul_of_nonneg_left this (show 0 ≤ c by omega)
        omega
      have hrun := run_make (P := P) w T e i zv (hok.desc _ _ hd) g1 g4 .i64 .i64 l c h4 h5 hb1 (by omega)
      rw [g2] at hrun
      have hzl : z.cells.length = sz := by simpa using h3
      have hz0 := zeros_rel (zero_cells (φ := φ) (γ := γ) g5) hzl c.toNat
      have hlen : (List.replicate l.toNat z.cells).length = l.toNat := by simp
      have hrow : ∀ d, d ∈ List.replicate l.toNat z.cells → d.length = sz := fun d hd => by rw [(List.mem_replicate.1 hd).2, hzl]
      have hcell : ∀ k v, (List.replicate l.toNat z.cells).flatten[k]? = some v → v.one = true ∧ VRel φ γ v ((madeCells zv.cells (c.toNat * sz)).getD k undef) := by
        intro k v hk
        refine hz0.2 k v ?_
        have : (List.replicate c.toNat z.cells) = List.replicate l.toNat z.cells ++ List.replicate (c.toNat - l.toNat) z.cells := by
          rw [List.replicate_append_replicate]
          congr 1
          omega
        rw [this, List.flatten_append]
        rw [List.getElem?_append_left (getElem?_lt hk)]
        exact hk
      have hmax : c.toNat ≤ maxLen := by unfold maxLen; omega
      split at h
      · rename_i hlc
        obtain ⟨hlc, hpos⟩ := hlc
        subst hlc
        obtain ⟨r, hbx, he⟩ := Option.map_eq_some_iff.1 h
        simp only [Prod.mk.injEq] at he
        obtain ⟨rfl, rfl⟩ := he
        have hbs := box_step hr hf (hz0) e (v := r.1) (H' := r.2) hbx
        refine .value hrun hbs.1 ?_
        exact .mslice (PAdd.self _ _ _) (Nat.le_refl _) hmax
      · split at h
        · rename_i hlc
          simp only [Option.some.injEq, Prod.mk.injEq] at h
          obtain ⟨rfl, rfl⟩ := h
          subst hlc
          have := list_at hr.nofroz (tok := .full) hrow (by rw [hlen]; exact Nat.le_refl _) hmax hcell (by show _ = _; rw [hlen])
          rw [hlen] at this
          exact .value hrun (Step.row hr _ e (0, 0) (l.toNat * sz) (by rw [size_madeCells]; exact Nat.le_refl _)) this
        · rename_i hlc
          split at h
          · obtain ⟨H2, hn, he⟩ := Option.map_eq_some_iff.1 h
            simp only [Prod.mk.injEq] at he
            obtain ⟨rfl, rfl⟩ := he
            have hf := hf (Heap.new_lt hn)
            have := own_step hr hf hn e hrow (by rw [hlen]; omega) hmax hcell (size_madeCells _ _)
            rw [hlen] at this
            exact .value hrun this.1 this.2
          · obtain ⟨r, hbx, he⟩ := Option.map_eq_some_iff.1 h
            simp only [Prod.mk.injEq] at he
            obtain ⟨rfl, rfl⟩ := he
            have hbs := box_step hr hf (hz0) e (v := r.1) (H' := r.2) hbx
            refine .value hrun hbs.1 ?_
            exact .mslice (PAdd.self _ _ _) (by omega) hmax
  · exact absurd h (by simp)

/-! ### append -/
/-- What an append adds, as the model finds it. -/
inductive Adds (P : Program) (sz : Nat) (z : Array Value) (w : World) (t2 : TypeId) : Value → Nat → List Value → Prop
  | slice {e : TypeId} {a : Addr} {n c : Nat} {vals : List Value} : P.underlying t2 = some (.slice e) → vals.length = n * sz → (∀ (j : Nat) (u : Value), vals[j]? = some u → w.cell? (a.add j) = some u) → Adds P sz z w t2 (.slice (some a) n c) n vals
  | nil {e : TypeId} : P.underlying t2 = some (.slice e) → Adds P sz z w t2 (.slice none 0 0) 0 []
  | str {s : ByteArray} : P.underlying t2 = some .string → sz = 1 → Adds P sz z w t2 (.string s) s.size (s.data.toList.map fun b => .int .u8 b.toNat)
  | zeros {k k' : IntKind} {m : Int} : P.underlying t2 = some (.int k) → 0 ≤ m → m ≤ 140737488355328 → Adds P sz z w t2 (.int k' m) m.toNat (madeCells z (m.toNat * sz)).toList

theorem zeroCells_made (z : Array Value) (n : Nat) : Builtin.zeroCells z n = madeCells z (n * z.size) := rfl

theorem firstCells_str (s : ByteArray) (w : World) (P : Program) : (Builtin.firstCells 1 s.size (.string s)).run P w = .ok (s.data.toList.map fun b => Value.int .u8 b.toNat).toArray w := by
  simp only [Builtin.firstCells, Sem.run_pure]
  congr 1
  apply Array.ext'
  have : (s.extract 0 s.size).data = s.data := by simp
  rw [this]
  simp

section
variable {P : Program} {w : World} {t1 t2 ty e : TypeId} {i : TypeInfo} {zv : Value} {x : Value} {n : Nat} {vals : List Value}

/-- There is room, or nothing to add. -/
theorem append_room (h1 : P.underlying t1 = some (.slice e)) (hi : P.info? e = some i) (hz : i.zero = some zv) (hsz : zv.cells.size = i.size) (ha : Adds P i.size zv.cells w t2 x n vals) (hb : n * i.bytes ≤ 140737488355328) {base : Option Addr} {sLen sCap : Nat} (hroom : sLen + n ≤ sCap)
    {w' : World} (hst : (match base with | some a => storeCells (a.add (sLen * i.size)) vals | none => pure () : Sem Unit).run P w = .ok () w') :
    (Builtin.append_ #[t1, t2] ty #[.slice base sLen sCap, x]).run P w = .ok (.slice base (sLen + n) sCap) w' := by
  cases ha with
  | slice hu hl hc =>
    rename_i e2 a c
    have hf := run_firstCells_some (P := P) w i.size n a n c vals hl hc
    have hf' : (Builtin.firstCells i.size n (.slice (some a) n c)).run P w = .ok vals.toArray w := hf
    cases base <;> simp [Builtin.append_, run_underlying h1, run_underlying hu, sizeOf, typeInfo, hi, Builtin.lenOf, hroom, hf'] at hst ⊢ <;> simp [hst]
  | nil hu =>
    have hr2 : sLen ≤ sCap := by simpa using hroom
    cases base <;> simp [Builtin.append_, run_underlying h1, run_underlying hu, sizeOf, typeInfo, hi, Builtin.lenOf, hr2, Builtin.firstCells] at hst ⊢ <;> simp [hst]
  | str hu h1' =>
    rename_i s
    have hf := firstCells_str s w P
    rw [← h1'] at hf
    cases base <;> simp [Builtin.append_, run_underlying h1, run_underlying hu, sizeOf, typeInfo, hi, Builtin.lenOf, hroom, hf] at hst ⊢ <;> simp [hst]
  | zeros hu h0 h2 =>
    rename_i k k' m
    have hw : IntKind.i64.wrap m = m := by rw [IntKind.wrap_i64]; omega
    have hneg : ¬ m < 0 := by omega
    have hbig : ¬ (281474976710656 < m * (i.bytes : Int)) := by
      have : (m.toNat : Int) = m := Int.toNat_of_nonneg h0
      have : m * (i.bytes : Int) = ((m.toNat * i.bytes : Nat) : Int) := by rw [Int.natCast_mul, this]
      omega
    have hzc : Builtin.zeroCells zv.cells m.toNat = madeCells zv.cells (m.toNat * i.size) := by rw [zeroCells_made, hsz]
    by_cases hn0 : m.toNat * i.size = 0
    · have hv : (madeCells zv.cells (m.toNat * i.size)).toList = [] := by rw [hn0]; simp [madeCells]
      rw [hv] at hst
      cases base <;> simp [Builtin.append_, run_underlying h1, run_underlying hu, sizeOf, typeInfo, hi, Builtin.lenOf, hroom, asInt, asIntOf, hw, hneg, hbig, hn0] at hst ⊢ <;> simp [hst]
    · cases base <;> simp [Builtin.append_, run_underlying h1, run_underlying hu, sizeOf, typeInfo, zeroValue, hi, hz, Builtin.lenOf, hroom, asInt, asIntOf, hw, hneg, hbig, hn0, hzc] at hst ⊢ <;> simp [hst]

/-- There is no room: a new row. -/
theorem append_grow (h1 : P.underlying t1 = some (.slice e)) (hi : P.info? e = some i) (hz : i.zero = some zv) (hsz : zv.cells.size = i.size) (ha : Adds P i.size zv.cells w t2 x n vals) {sLen sCap : Nat} (hpos : 0 < n) (hroom : sCap < sLen + n) (hb : (sLen + n) * i.bytes ≤ 140737488355328) (hby : i.bytes ≠ 0)
    {base : Option Addr} {olds : List Value} (hold : (Builtin.firstCells i.size sLen (.slice base sLen sCap)).run P w.drew = .ok olds.toArray w.drew) :
    (Builtin.append_ #[t1, t2] ty #[.slice base sLen sCap, x]).run P w = .ok (.slice (some ⟨w.heap.size, 0, none⟩) (sLen + n) (grownCap w (sLen + n) sCap e))
      (w.drew.alloc (.cells (olds.toArray ++ vals.toArray ++ Builtin.zeroCells zv.cells (grownCap w (sLen + n) sCap e - (sLen + n))) e)) := by
  have hn : ¬ (sLen + n ≤ sCap) := by omega
  have hle : sLen + n ≤ 140737488355328 := Nat.le_trans (Nat.le_mul_of_pos_right _ (by omega)) hb
  have h63' : ¬ (9223372036854775807 < ((sLen : Int) + (n : Int))) := by omega
  have hnext := nextslicecap_le hroom
  have h48' : ¬ (281474976710656 < Builtin.nextslicecap (sLen + n) sCap * i.bytes) := by
    have := Nat.mul_le_mul_right i.bytes hnext
    have e : 2 * (sLen + n) * i.bytes = 2 * ((sLen + n) * i.bytes) := by rw [Nat.mul_assoc]
    omega
  cases ha with
  | slice hu hl hc =>
    rename_i e2 a c
    have hf := run_firstCells_some (P := P) w.drew i.size n a n c vals hl (by simpa using hc)
    simp [Builtin.append_, run_underlying h1, run_underlying hu, sizeOf, typeInfo, zeroValue, hi, hz, Builtin.lenOf, hn, h63', h48', Question.forced, hf, hold, newRow, grownCap]
    congr 2
    apply Array.ext'
    simp [List.append_assoc]
  | nil hu =>
    exact absurd hpos (by omega)
  | str hu h1' =>
    rename_i s
    have hf := firstCells_str s w.drew P
    rw [← h1'] at hf
    simp [Builtin.append_, run_underlying h1, run_underlying hu, sizeOf, typeInfo, zeroValue, hi, hz, Builtin.lenOf, hn, h63', h48', Question.forced, hf, hold, newRow, grownCap]
    congr 2
    apply Array.ext'
    simp [List.append_assoc]
  | zeros hu h0 h2 =>
    rename_i k k' m
    have hw : IntKind.i64.wrap m = m := by rw [IntKind.wrap_i64]; omega
    have hneg : ¬ m < 0 := by omega
    have hmn : (m.toNat : Int) = m := Int.toNat_of_nonneg h0
    have hbig : ¬ (281474976710656 < m * (i.bytes : Int)) := by
      have e1 : m * (i.bytes : Int) = ((m.toNat * i.bytes : Nat) : Int) := by rw [Int.natCast_mul, hmn]
      have : m.toNat * i.bytes ≤ (sLen + m.toNat) * i.bytes := Nat.mul_le_mul_right _ (by omega)
      omega
    have hzc : Builtin.zeroCells zv.cells m.toNat = madeCells zv.cells (m.toNat * i.size) := by rw [zeroCells_made, hsz]
    have h63'' : ¬ (9223372036854775807 < (sLen : Int) + m) := by omega
    have h63b : ¬ (9223372036854775807 < (sLen : Int) + max m 0) := by omega
    by_cases hn0 : m.toNat * i.size = 0
    · have hv : (madeCells zv.cells (m.toNat * i.size)) = #[] := by rw [hn0]; simp [madeCells]
      rw [hv]
      simp [Builtin.append_, run_underlying h1, run_underlying hu, sizeOf, typeInfo, zeroValue, hi, hz, Builtin.lenOf, hn, h63'', h63b, h48', Question.forced, hold, newRow, grownCap, asInt, asIntOf, hw, hneg, hbig, hn0]
    · simp [Builtin.append_, run_underlying h1, run_underlying hu, sizeOf, typeInfo, zeroValue, hi, hz, Builtin.lenOf, hn, h63'', h63b, h48', Question.forced, hold, newRow, grownCap, asInt, asIntOf, hw, hneg, hbig, hn0, hzc]
end

end
end Go.Sx
