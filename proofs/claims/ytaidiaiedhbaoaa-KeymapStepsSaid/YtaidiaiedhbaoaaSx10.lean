/- append, whole. -/
import Derived.Test.YtaidiaiedhbaoaaSx9
/- append, whole. -/
set_option linter.unusedVariables false
set_option linter.unusedSimpArgs false
namespace Go.Sx
noncomputable section

section
variable {P : Program} {tb : Tb} (hok : tb.Ok P) {N : Nat} {φ : Froz} {γ : Place} {H : Heap} {w : World} (hr : Rel N φ γ H w)
include hok hr

omit hok in
/-- Cells of a box are read. -/
theorem box_read {b cb m e : Nat} {cs : List V} (hb : γ b = some (cb, m, e)) (hg : H.get b = some (.cells cs)) {off n : Nat} (hle : off + n ≤ cs.length) :
    ∃ f : Nat → Value, (∀ j, j < n → w.cell? ⟨cb, m + off + j, none⟩ = some (f j)) ∧ ∀ (j : Nat) (v : V), ((cs.drop off).take n)[j]? = some v → v.one = true ∧ VRel φ γ v (f j) := by
  obtain ⟨arr, T, ha, hsz, _, hc⟩ := hr.blk _ _ _ hb hg
  simp only at ha hsz hc
  refine ⟨fun j => arr.getD (m + off + j) undef, fun j hj => ?_, fun j v hj => ?_⟩
  · unfold World.cell?
    simp only
    rw [ha]
    simp [Array.getD_eq_getD_getElem?, show m + off + j < arr.size by omega]
  · have hl := getElem?_lt hj
    simp only [List.length_take, List.length_drop] at hl
    rw [List.getElem?_take, if_pos (by omega), List.getElem?_drop] at hj
    simpa [Nat.add_assoc] using hc _ v hj

omit hok in
theorem box_adds {b cb m e : Nat} {cs : List V} (hb : γ b = some (cb, m, e)) (hg : H.get b = some (.cells cs)) {off n sz c : Nat} (hle : off + n * sz ≤ cs.length) {T2 e2 : TypeId} (hd : P.underlying T2 = some (.slice e2)) {z : Array Value} :
    ∃ vals, Adds P sz z w T2 (.slice (some ⟨cb, m + off, none⟩) n c) (chunk sz n ((cs.drop off).take (n * sz))).length vals ∧ (∀ c, c ∈ chunk sz n ((cs.drop off).take (n * sz)) → c.length = sz) ∧ vals.length = (chunk sz n ((cs.drop off).take (n * sz))).length * sz ∧
      ∀ (k : Nat) (v : V), (chunk sz n ((cs.drop off).take (n * sz))).flatten[k]? = some v → v.one = true ∧ VRel φ γ v (vals.getD k undef) := by
  obtain ⟨f, h1, h2⟩ := box_read hr hb hg hle
  have hl : ((cs.drop off).take (n * sz)).length = n * sz := by simp; omega
  rw [chunk_len]
  refine ⟨(List.range (n * sz)).map f, .slice hd (by simp) (fun j u hj => ?_), chunk_row n _ (by omega), by simp, fun k v hk => ?_⟩
  · have hjl := getElem?_lt hj
    simp only [List.length_map, List.length_range] at hjl
    rw [List.getElem?_map, List.getElem?_range hjl] at hj
    cases hj
    rw [add_eq rfl]
    exact h1 j hjl
  · rw [chunk_flat n _ hl.symm] at hk
    have hkl := getElem?_lt hk
    rw [hl] at hkl
    have := h2 k v hk
    rw [List.getD_eq_getElem?_getD, List.getElem?_map, List.getElem?_range hkl]
    exact this

theorem adds_ok {e : TypeId} {sz : Nat} {T2 : TypeId} {x : V} {x' : Value} {news : List (List V)} {z : V} {zv : Value} (hz : tb.zero e = some z) (hzo : ofValue zv = some z) (hzl : z.cells.length = sz) (h : addedOf tb H e sz T2 x = some news) (hx : VRel φ γ x x') :
    ∃ vals, Adds P sz zv.cells w T2 x' news.length vals ∧ (∀ c, c ∈ news → c.length = sz) ∧ vals.length = news.length * sz ∧ ∀ (k : Nat) (v : V), news.flatten[k]? = some v → v.one = true ∧ VRel φ γ v (vals.getD k undef) := by
  unfold addedOf at h
  split at h
  · rename_i k k' m hd
    simp only [Option.bind_eq_bind, Option.bind_eq_some_iff] at h
    obtain ⟨z2, hz2, h⟩ := h
    rw [hz] at hz2
    cases hz2
    split at h
    · rename_i hc
      cases h; cases hx
      have hz0 := zeros_rel (zero_cells (φ := φ) (γ := γ) hzo) hzl m.toNat
      have ha := Adds.zeros (sz := sz) (z := zv.cells) (w := w) (k' := k') (hok.desc _ _ hd) hc.1 hc.2.1
      have hlen : (List.replicate m.toNat z.cells).length = m.toNat := by simp
      refine ⟨(madeCells zv.cells (m.toNat * sz)).toList, by rw [hlen]; exact ha, fun c hc => by rw [(List.mem_replicate.1 hc).2, hzl], by simp [size_madeCells], fun k v hk => ?_⟩
      have := hz0.2 k v hk
      refine ⟨this.1, ?_⟩
      have e : (madeCells zv.cells (m.toNat * sz)).toList.getD k undef = ((Array.range (m.toNat * sz)).map (zv.cells[· % zv.cells.size]!)).getD k undef := by
        rw [List.getD_eq_getElem?_getD, Array.getElem?_toList, ← Array.getD_eq_getD_getElem?]
        rfl
      rw [e]
      exact this.2
    · exact absurd h (by simp)
  · rename_i s hd
    split at h
    · rename_i h1
      cases h; cases hx
      have hlen : (s.data.toList.map fun b : UInt8 => [V.val (.int .u8 b.toNat)]).length = s.size := by simp only [List.length_map, Array.length_toList]; rfl
      refine ⟨s.data.toList.map fun b => .int .u8 b.toNat, by rw [hlen]; exact .str (hok.desc _ _ hd) h1, fun c hc => ?_, by simp [h1], fun k v hk => ?_⟩
      · obtain ⟨b, _, rfl⟩ := List.mem_map.1 hc
        exact h1.symm
      · rw [flat_single (fun b : UInt8 => V.val (.int .u8 b.toNat)), List.getElem?_map] at hk
        obtain ⟨b, hb, rfl⟩ := Option.map_eq_some_iff.1 hk
        refine ⟨rfl, ?_⟩
        have : (s.data.toList.map fun b : UInt8 => Value.int .u8 b.toNat).getD k undef = .int .u8 b.toNat := by
          rw [List.getD_eq_getElem?_getD, List.getElem?_map, hb]
          rfl
        rw [this]
        exact .val rfl
    · exact absurd h (by simp)
  · rename_i e2 nl es tok hd
    split at h
    · rename_i hall
      cases h
      have hrow : ∀ c, c ∈ news → c.length = sz := fun c hc => by simpa using List.all_eq_true.1 hall c hc
      rcases hx.list_inv with ⟨rfl, rfl, rfl⟩ | ⟨rfl, a, cap, sz2, f, rfl, hli⟩
      · exact ⟨[], .nil (hok.desc _ _ hd), by simp, by simp, fun k v hk => by simp at hk⟩
      · refine ⟨(List.range (news.length * sz2)).map f, ?_⟩
        have hse : news.length * sz2 = news.length * sz := by
          cases news with
          | nil => simp
          | cons c l =>
            have h1 := hli.row c List.mem_cons_self
            have h2 := hrow c List.mem_cons_self
            rw [← h1, ← h2]
        refine ⟨.slice (hok.desc _ _ hd) (by simp [hse]) (hli.cells hr), hrow, by simp [hse], fun k v hk => ?_⟩
        have hl := getElem?_lt hk
        rw [flat_len hrow] at hl
        have hc := hli.cell k v hk
        refine ⟨hc.1, ?_⟩
        have : ((List.range (news.length * sz2)).map f).getD k undef = f k := by
          rw [List.getD_eq_getElem?_getD, List.getElem?_map, List.getElem?_range (by omega)]
          rfl
        rw [this]
        exact hc.2.2
    · exact absurd h (by simp)
  · rename_i e2 b off n cap hd
    split at h
    · rename_i cs hg
      split at h
      · rename_i hle
        cases h
        cases hx with
        | mslice hb hlc hcm => exact box_adds hr hb hg hle (hok.desc _ _ hd)
      · exact absurd h (by simp)
    · exact absurd h (by simp)
  · rename_i e2 b off n kc sz2 hd
    split at h
    · rename_i hn0
      cases h
      subst hn0
      cases hx with
      | vslice hb hlk hkc hcm hat => exact ⟨[], .slice (hok.desc _ _ hd) (by simp) (fun j u hj => by simp at hj), by simp, by simp, fun k v hk => by simp at hk⟩
    · rename_i hn0
      split at h
      · rename_i cs hg
        split at h
        · rename_i hle
          cases h
          cases hx with
          | vslice hb hlk hkc hcm hat =>
            obtain ⟨rfl, _⟩ := hat (by omega)
            exact box_adds hr hb hg hle (hok.desc _ _ hd)
        · exact absurd h (by simp)
      · exact absurd h (by simp)
  · exact absurd h (by simp)

end

/-- What touches one block at most. -/
def AppT (tok : Tok) : Nat → Prop := fun i => ∃ s, tok = .own i s

theorem Adds.one {φ : Froz} {γ : Place} {news : List (List V)} {vals : List Value} {sz : Nat} (hrow : ∀ c, c ∈ news → c.length = sz) (hl : vals.length = news.length * sz) (hc : ∀ (k : Nat) (v : V), news.flatten[k]? = some v → v.one = true ∧ VRel φ γ v (vals.getD k undef)) :
    ∀ u, u ∈ vals → u.oneCell' = true := by
  intro u hu
  obtain ⟨k, hk⟩ := List.mem_iff_getElem?.1 hu
  have hkl := getElem?_lt hk
  have hf : k < news.flatten.length := by rw [flat_len hrow]; omega
  have := hc k news.flatten[k] (by simp [hf])
  have e : vals.getD k undef = u := by rw [List.getD_eq_getElem?_getD, hk]; rfl
  rw [e] at this
  exact this.2.one this.1

theorem flat_append_get {φ : Froz} {γ : Place} {es news : List (List V)} {olds vals : List Value} {rest : List Value} {sz : Nat} (h1 : ∀ c, c ∈ es → c.length = sz) (h2 : ∀ c, c ∈ news → c.length = sz) (ho : olds.length = es.length * sz) (hv : vals.length = news.length * sz)
    (hco : ∀ (k : Nat) (v : V), es.flatten[k]? = some v → v.one = true ∧ VRel φ γ v (olds.getD k undef)) (hcv : ∀ (k : Nat) (v : V), news.flatten[k]? = some v → v.one = true ∧ VRel φ γ v (vals.getD k undef)) :
    ∀ (k : Nat) (v : V), (es ++ news).flatten[k]? = some v → v.one = true ∧ VRel φ γ v ((olds ++ vals ++ rest)[k]?.getD undef) := by
  intro k v hk
  rw [List.flatten_append] at hk
  have hle := flat_len h1
  have hln := flat_len h2
  by_cases hk1 : k < es.flatten.length
  · rw [List.getElem?_append_left hk1] at hk
    have := hco k v hk
    rw [List.append_assoc, List.getElem?_append_left (by omega), ← List.getD_eq_getElem?_getD]
    exact this
  · rw [List.getElem?_append_right (by omega)] at hk
    have hl := getElem?_lt hk
    have := hcv _ v hk
    rw [List.append_assoc, List.getElem?_append_right (by omega), List.getElem?_append_left (by omega), ← List.getD_eq_getElem?_getD]
    have e : k - olds.length = k - es.flatten.length := by omega
    rw [e]
    exact this

theorem Step.noT {N : Nat} {φ φ' : Froz} {γ γ' : Place} {H H' : Heap} {w w' : World} {T T' : Nat → Prop} (h : Step N φ γ H w φ' γ' H' w' T) (hT : ∀ b, T b ↔ T' b) : Step N φ γ H w φ' γ' H' w' T' := by
  have : T = T' := funext fun b => propext (hT b)
  exact this ▸ h

section
variable {P : Program} {tb : Tb} (hok : tb.Ok P) {N : Nat} {φ : Froz} {γ : Place} {H : Heap} {w : World} (hr : Rel N φ γ H w)
include hok hr

omit hok in
/-- A new block whose first cells are known, a slice over them. -/
theorem vec_step {H' : Heap} (hf : γ H.next = none) {xs : List V} (hn : H.new (.cells xs) = some H') {arr : Array Value} {len cap sz : Nat} (T : TypeId) (hxl : xs.length = len * sz) (hle : len ≤ cap) (hmax : cap ≤ maxLen) (hs : arr.size = cap * sz)
    (hc : ∀ (k : Nat) (v : V), xs[k]? = some v → v.one = true ∧ VRel φ γ v (arr.getD k undef)) :
    Step N φ γ H w φ (PAdd γ H.next (w.heap.size, 0, cap * sz)) H' (w.alloc (.cells arr T)) NoT ∧ VRel φ (PAdd γ H.next (w.heap.size, 0, cap * sz)) (.vslice H.next 0 len len sz) (.slice (some ⟨w.heap.size, 0, none⟩) len cap) := by
  have hms : len * sz ≤ cap * sz := Nat.mul_le_mul_right _ hle
  refine ⟨Step.new hr _ (FLe.refl _) (fun _ _ _ h => .inl h) hn hf 0 _ ⟨arr, T, ?_, by simp only; omega, by simp only; omega, fun j v hj => ⟨(hc j v hj).1, by simpa using (hc j v hj).2.mono (FLe.refl _) (PLe.add _ hf)⟩⟩ (fun _ off _ => hr.nofroz off), ?_⟩
  · show (w.heap.push _)[w.heap.size]? = _
    simp
  · exact .vslice (PAdd.self _ _ _) (Nat.le_refl _) hle hmax (fun _ => ⟨rfl, by omega⟩)

end

section
variable {P : Program} {tb : Tb} (hok : tb.Ok P) {N : Nat} {φ : Froz} {γ : Place} {H : Heap} {w : World} (hr : Rel N φ γ H w)
  {T1 T2 ty e : TypeId} {i : TypeInfo} {zv : Value} {sz by_ : Nat} {news : List (List V)} {vals : List Value} {x' : Value}
  (hd : P.underlying T1 = some (.slice e)) (g1 : P.info? e = some i) (g2 : i.size = sz) (g3 : i.bytes = by_) (g4 : i.zero = some zv) (hzs : zv.cells.size = i.size) (c1 : sz ≠ 0) (c2 : by_ ≠ 0)
  (ha : Adds P i.size zv.cells w T2 x' news.length vals) (hnrow : ∀ c, c ∈ news → c.length = sz) (hvl : vals.length = news.length * sz) (hvc : ∀ (k : Nat) (v : V), news.flatten[k]? = some v → v.one = true ∧ VRel φ γ v (vals.getD k undef))
include hr hd g1 g2 g3 g4 hzs c1 c2 ha hnrow hvl hvc

omit hr g2 g3 c1 c2 in
theorem append_none {len : Nat} {base : Option Addr} {cap : Nat} (hn : news = []) (hle : len ≤ cap) : (Builtin.append_ #[T1, T2] ty #[.slice base len cap, x']).run P w = .ok (.slice base len cap) w := by
  subst hn
  have hv0 : vals = [] := List.length_eq_zero_iff.1 (by rw [hvl]; simp)
  subst hv0
  have := append_room (ty := ty) hd g1 g4 hzs ha (by simp) (show len + 0 ≤ cap from hle) (base := base) (w' := w) (by cases base <;> simp [storeCells])
  simpa using this

omit hr c1 in
/-- A new row: a box with the elders' cells and the new. -/
theorem vec_grow {len sCap : Nat} {es : List V} {olds : List Value} {H1 H2 : Heap} (hpos : 0 < news.length) (hbb : (len + news.length) * by_ ≤ 140737488355328) (hel : es.length = len * sz) (hol : olds.length = len * sz)
    (hoc : ∀ (k : Nat) (v : V), es[k]? = some v → v.one = true ∧ VRel φ γ v (olds.getD k undef)) {base : Option Addr} (hold : (Builtin.firstCells i.size len (.slice base len sCap)).run P w.drew = .ok olds.toArray w.drew) (hcap : sCap < len + news.length)
    (hr1 : Rel N φ γ H1 w) (hf1 : γ H1.next = none) (hn1 : H1.new (.cells (es ++ news.flatten)) = some H2) :
    ∃ cv w' x, (Builtin.append_ #[T1, T2] ty #[.slice base len sCap, x']).run P w = .ok cv w' ∧ Step N φ γ H1 w φ (PAdd γ H1.next x) H2 w' NoT ∧ VRel φ (PAdd γ H1.next x) (.vslice H1.next 0 (len + news.length) (len + news.length) sz) cv := by
  have hby0 : i.bytes ≠ 0 := by rw [g3]; exact c2
  have hbb' : (len + news.length) * i.bytes ≤ 140737488355328 := by rw [g3]; exact hbb
  have hle47 : len + news.length ≤ 140737488355328 := Nat.le_trans (Nat.le_mul_of_pos_right _ (by omega)) hbb'
  have hrun := append_grow (ty := ty) hd g1 g4 hzs ha hpos hcap hbb' hby0 hold
  have hgc := grownCap_ge w (len + news.length) sCap e
  have hgl := grownCap_lt w (len + news.length) sCap e (by omega)
  have hnl := flat_len hnrow
  have hsize : (olds.toArray ++ vals.toArray ++ Builtin.zeroCells zv.cells (grownCap w (len + news.length) sCap e - (len + news.length))).size = grownCap w (len + news.length) sCap e * sz := by
    simp only [Array.size_append, List.size_toArray, size_zeroCells, hol, hvl, hzs, g2]
    rw [← Nat.add_mul, ← Nat.add_mul]
    congr 1
    omega
  have hcells : ∀ (k : Nat) (v : V), (es ++ news.flatten)[k]? = some v → v.one = true ∧ VRel φ γ v ((olds.toArray ++ vals.toArray ++ Builtin.zeroCells zv.cells (grownCap w (len + news.length) sCap e - (len + news.length))).getD k undef) := by
    intro k v hk
    rw [Array.getD_eq_getD_getElem?, ← Array.getElem?_toList]
    have e0 : (olds.toArray ++ vals.toArray ++ Builtin.zeroCells zv.cells (grownCap w (len + news.length) sCap e - (len + news.length))).toList = olds ++ vals ++ (Builtin.zeroCells zv.cells (grownCap w (len + news.length) sCap e - (len + news.length))).toList := by simp
    rw [e0]
    by_cases hk1 : k < es.length
    · rw [List.getElem?_append_left hk1] at hk
      have := hoc k v hk
      rw [List.append_assoc, List.getElem?_append_left (by omega)]
      simpa [List.getD_eq_getElem?_getD] using this
    · rw [List.getElem?_append_right (by omega)] at hk
      have hl := getElem?_lt hk
      have := hvc _ v hk
      rw [List.append_assoc, List.getElem?_append_right (by omega), List.getElem?_append_left (by omega)]
      have e1 : k - olds.length = k - es.length := by omega
      rw [e1]
      simpa [List.getD_eq_getElem?_getD] using this
  have := vec_step (hr1.heap (w' := w.drew) rfl) hf1 hn1 e (by simp [hnl, hel, Nat.add_mul]) hgc hgl hsize hcells
  exact ⟨_, _, _, hrun, this.1.drew, this.2⟩

omit c1 in
/-- append to a slice over a box. -/
theorem appendBox_ok {H' : Heap} (hf : H.next < H'.next → γ H.next = none) {b cb m e0 : Nat} {cs : List V} (hb : γ b = some (cb, m, e0)) (hg : H.get b = some (.cells cs)) {off len kc cap : Nat} {a : Addr} (hlk : len ≤ kc) (hkc : kc ≤ cap) (hcm : cap ≤ maxLen) {place v : V} {dead : Bool}
    (hat : 0 < cap → a = ⟨cb, m + off, none⟩) (hend : dead = true → 0 < cap → m + off + cap * sz ≤ e0) (hdead : dead = false → kc = cap) (hplace : len + news.length ≤ kc → VRel φ γ place (.slice (some a) (len + news.length) cap))
    (hpos : 0 < news.length) (hbb : (len + news.length) * by_ ≤ 140737488355328) (h : appendBox H cs b off len sz news place kc dead = some (v, H')) :
    ∃ T, MemOut P N φ γ H w v H' T (do pure (.value (← Builtin.append_ #[T1, T2] ty #[.slice (some a) len cap, x']))) := by
  have hnl := flat_len hnrow
  have hone := Adds.one hnrow hvl hvc
  unfold appendBox at h
  split at h
  · exact absurd h (by simp)
  · rename_i hcond
    simp only [Bool.not_eq_true', Bool.not_eq_false, Bool.and_eq_true, decide_eq_true_eq] at hcond
    obtain ⟨hle, hallone⟩ := hcond
    split at h
    · rename_i hroom
      split at h
      · rename_i hle2
        cases h
        have ha0 := hat (by omega)
        subst ha0
        obtain ⟨w2, hst, hs⟩ := box_write (P := P) hr hb hg (off := off + len * sz) (xs := news.flatten) (vs := vals) (by omega) (by rw [hnl]; rw [Nat.add_mul] at hle2; omega) hvc
        have hrun : (Builtin.append_ #[T1, T2] ty #[.slice (some ⟨cb, m + off, none⟩) len cap, x']).run P w = .ok (.slice (some ⟨cb, m + off, none⟩) (len + news.length) cap) w2 := by
          refine append_room (ty := ty) hd g1 g4 hzs ha ?_ (by omega) (base := some ⟨cb, m + off, none⟩) ?_
          · have : news.length * i.bytes ≤ (len + news.length) * i.bytes := Nat.mul_le_mul_right _ (by omega)
            rw [g3] at this ⊢
            omega
          · show (storeCells ((⟨cb, m + off, none⟩ : Addr).add (len * i.size)) vals).run P w = _
            rw [add_eq rfl, g2]
            rw [← Nat.add_assoc] at hst
            exact hst
        have e1 : off + (len + news.length) * sz = off + len * sz + news.flatten.length := by rw [hnl, Nat.add_mul, Nat.add_assoc]
        rw [e1]
        exact ⟨_, .value hrun hs ((hplace hroom).mono hs.fle hs.ple)⟩
      · exact absurd h (by simp)
    · rename_i hroom
      obtain ⟨H2, hn, he⟩ := Option.map_eq_some_iff.1 h
      simp only [Prod.mk.injEq] at he
      obtain ⟨rfl, rfl⟩ := he
      have hel : ((cs.drop off).take (len * sz)).length = len * sz := by simp; omega
      obtain ⟨f, hf1, hf2⟩ := box_read hr hb hg (off := off) (n := len * sz) (by omega)
      have hoc : ∀ (k : Nat) (v : V), ((cs.drop off).take (len * sz))[k]? = some v → v.one = true ∧ VRel φ γ v (((List.range (len * sz)).map f).getD k undef) := by
        intro k v hk
        have hkl := getElem?_lt hk
        rw [hel] at hkl
        rw [List.getD_eq_getElem?_getD, List.getElem?_map, List.getElem?_range hkl]
        exact hf2 k v hk
      have hold : (Builtin.firstCells i.size len (.slice (some a) len cap)).run P w.drew = .ok ((List.range (len * sz)).map f).toArray w.drew := by
        refine run_firstCells_some w.drew i.size len a len cap _ (by simp [g2]) (fun j u hj => ?_)
        have hjl := getElem?_lt hj
        simp only [List.length_map, List.length_range] at hjl
        rw [List.getElem?_map, List.getElem?_range hjl] at hj
        cases hj
        have ha0 := hat (by
          rcases Nat.eq_zero_or_pos cap with h0 | h0
          · have : len = 0 := by omega
            subst this
            simp at hjl
          · exact h0)
        subst ha0
        rw [add_eq rfl]
        exact hf1 j hjl
      cases dead with
      | false =>
        have hkc2 := hdead rfl
        simp only [Bool.false_eq_true, if_false] at hn
        have hf := hf (Heap.new_lt hn)
        obtain ⟨cv, w', x, h1, h2, h3⟩ := vec_grow hd g1 g2 g3 g4 hzs c2 ha hnrow hvl hvc (ty := ty) hpos hbb hel (by simp) hoc hold (by omega) hr hf hn
        exact ⟨_, .value h1 h2 h3⟩
      | true =>
        simp only [if_true] at hn
        have hf := hf (show H.next < H2.next from Heap.new_lt (H := H.put b (.tail false)) hn)
        by_cases hcap : len + news.length ≤ cap
        · have ha0 := hat (by omega)
          subst ha0
          have hend := hend rfl (by omega)
          obtain ⟨arr, T, ha1, ha2, ha3, ha4⟩ := hr.blk _ _ _ hb hg
          simp only at ha1 ha2 ha3 ha4
          have hin : (len + news.length) * sz ≤ cap * sz := Nat.mul_le_mul_right _ hcap
          rw [Nat.add_mul] at hin
          obtain ⟨A, hA⟩ : ∃ A, A = (arr.toList.take (m + off + len * sz + 0) ++ vals ++ arr.toList.drop (m + off + len * sz + 0 + vals.length)).toArray := ⟨_, rfl⟩
          have hst := run_storeCells_at P cb (m + off + len * sz) T vals 0 arr w ha1 (by omega) hone
          rw [← hA] at hst
          have hAs : A.size = arr.size := by subst hA; simp; omega
          have hfree := hr.free _ _ _ hb hg rfl
          simp only at hfree
          have hput : Step N φ γ H w φ γ (H.put b (.tail false)) (w.setRow cb A) (fun i => i = b) := by
            refine Step.put hr hb hg rfl (FLe.refl _) rfl rfl rfl (size_setRow _ _ _) (fun i hi => setRow_other w cb i A hi) ?_ (fun _ _ _ h => .inl h) trivial (fun h => by simp [Blk.solid] at h)
            intro i o u hu
            have hne : i ≠ cb := by
              rintro rfl
              rw [hfree o (Nat.zero_le _)] at hu
              exact absurd hu (by simp)
            have := hr.froz _ _ _ hu
            rw [← this]
            exact World.cell?_of_block (w := w) (setRow_other w cb i A hne)
          have hbr : BlkRel φ (PAdd γ H.next (cb, m + off, e0)) (w.setRow cb A) (cb, m + off, e0) (.cells ((cs.drop off).take (len * sz) ++ news.flatten)) := by
            refine ⟨A, T, setRow_heap w cb arr A T (0, 0) ha1, by simp only [List.length_append, hel, hnl, hAs]; omega, by simp only [hAs]; exact ha3, fun j u hj => ?_⟩
            have mono : ∀ {u : V} {c : Value}, VRel φ γ u c → VRel φ (PAdd γ H.next (cb, m + off, e0)) u c := fun h => h.mono (FLe.refl _) (PLe.add _ hf)
            have e2 : A.getD (m + off + j) undef = (arr.toList.take (m + off + len * sz) ++ vals ++ arr.toList.drop (m + off + len * sz + vals.length))[m + off + j]?.getD undef := by
              subst hA
              simp [Array.getD_eq_getD_getElem?]
            simp only
            rw [e2]
            by_cases hj1 : j < len * sz
            · rw [List.getElem?_append_left (by omega)] at hj
              rw [List.getElem?_take, if_pos hj1, List.getElem?_drop] at hj
              rw [List.append_assoc, List.getElem?_append_left (by simp; omega), List.getElem?_take, if_pos (by omega)]
              have := ha4 _ u hj
              refine ⟨this.1, mono ?_⟩
              rw [Array.getElem?_toList, ← Array.getD_eq_getD_getElem?, Nat.add_assoc]
              exact this.2
            · rw [List.getElem?_append_right (by omega)] at hj
              have hjl := getElem?_lt hj
              rw [hnl] at hjl
              have := hvc _ u hj
              rw [hel] at this hjl
              rw [List.append_assoc, List.getElem?_append_right (by simp; omega), List.getElem?_append_left (by simp; omega)]
              have e3 : m + off + j - (List.take (m + off + len * sz) arr.toList).length = j - len * sz := by simp; omega
              rw [e3, ← List.getD_eq_getElem?_getD]
              exact ⟨this.1, mono this.2⟩
          have hover := Step.over hput hn (show γ H.next = none from hf) (b0 := b) (y := (cb, m, e0)) (x := (cb, m + off, e0)) rfl hb rfl hbr (fun _ o _ => hfree o (Nat.zero_le _)) (fun b' z' j hz' hj hsj => by
            rw [Heap.put_get _] at hj
            split at hj
            · cases hj; simp [Blk.solid] at hsj
            · rename_i hne
              have hh := hr.inj b' z' j b _ _ hz' hb hj hg hsj rfl hne
              exact hh)
          have hrun : (Builtin.append_ #[T1, T2] ty #[.slice (some ⟨cb, m + off, none⟩) len cap, x']).run P w = .ok (.slice (some ⟨cb, m + off, none⟩) (len + news.length) cap) (w.setRow cb A) := by
            refine append_room (ty := ty) hd g1 g4 hzs ha ?_ hcap (base := some ⟨cb, m + off, none⟩) ?_
            · have : news.length * i.bytes ≤ (len + news.length) * i.bytes := Nat.mul_le_mul_right _ (by omega)
              rw [g3] at this ⊢
              omega
            · show (storeCells ((⟨cb, m + off, none⟩ : Addr).add (len * i.size)) vals).run P w = _
              rw [add_eq rfl, g2]
              exact hst
          exact ⟨_, .value hrun hover (.vslice (PAdd.self _ _ _) (Nat.le_refl _) hcap hcm (fun _ => ⟨rfl, by simpa using hend⟩))⟩
        · have hput : Step N φ γ H w φ γ (H.put b (.tail false)) w (fun i => i = b) := Step.put hr hb hg rfl (FLe.refl _) rfl rfl rfl rfl (fun _ _ => rfl) hr.froz (fun _ _ _ h => .inl h) trivial (fun h => by simp [Blk.solid] at h)
          obtain ⟨cv, w', x, h1, h2, h3⟩ := vec_grow hd g1 g2 g3 g4 hzs c2 ha hnrow hvl hvc (ty := ty) hpos hbb hel (by simp) hoc hold (by omega) hput.rel hf hn
          exact ⟨fun i => i = b, .value h1 ((hput.trans h2).noT (fun b => by simp [NoT])) h3⟩

theorem appendList_ok {H' : Heap} (hf : H.next < H'.next → γ H.next = none) {nl : Bool} {es : List (List V)} {tok : Tok} {v : V} {s' : Value} (hs : VRel φ γ (.list nl es tok) s') (hbb : (es.length + news.length) * by_ ≤ 140737488355328) {lin : Bool} (h : appendList lin tb H e sz nl es tok news = some (v, H')) :
    ∃ T, MemOut P N φ γ H w v H' T (do pure (.value (← Builtin.append_ #[T1, T2] ty #[s', x']))) ∧ ((∀ b c, tok ≠ .own b c) → T = NoT) := by
  unfold appendList at h
  split at h
  · exact absurd h (by simp)
  · rename_i c5
    have herow : ∀ c, c ∈ es → c.length = sz := fun c hc => by
      simp at c5
      exact c5 c hc
    have hone := Adds.one hnrow hvl hvc
    have hbb0 := hbb
    have hbb : (es.length + news.length) * i.bytes ≤ 140737488355328 := by rw [g3]; exact hbb
    have hby0 : i.bytes ≠ 0 := by rw [g3]; exact c2
    have hle47 : es.length + news.length ≤ 140737488355328 := Nat.le_trans (Nat.le_mul_of_pos_right _ (by omega)) hbb
    split at h
    · -- nothing to add
      rename_i hemp
      have hn0 : news = [] := by simpa using hemp
      subst hn0
      cases h
      refine ⟨NoT, ?_, fun _ => rfl⟩
      have hv0 : vals = [] := List.length_eq_zero_iff.1 (by rw [hvl]; simp)
      subst hv0
      rcases hs.list_inv with ⟨rfl, rfl, rfl⟩ | ⟨rfl, a, cap, sz2, f, rfl, hli⟩
      · exact .value (append_room (ty := ty) hd g1 g4 hzs ha (by simp) (Nat.le_refl _) (base := none) rfl) (Step.refl hr) hs
      · exact .value (append_room (ty := ty) hd g1 g4 hzs ha (by simp) (show es.length + 0 ≤ cap from hli.le) (base := some a) (by simp [storeCells])) (Step.refl hr) hs
    · rename_i hemp
      have hpos : 0 < news.length := by
        cases news with
        | nil => exact absurd rfl hemp
        | cons _ _ => simp
      have hrow2 : ∀ c, c ∈ es ++ news → c.length = sz := fun c hc => (List.mem_append.1 hc).elim (herow c) (hnrow c)
      -- a new row
      have grow : ∀ (base : Option Addr) (sCap : Nat) (olds : List Value) (H1 H2 : Heap) (φ1 : Froz), olds.length = es.length * sz → (∀ (k : Nat) (v : V), es.flatten[k]? = some v → v.one = true ∧ VRel φ γ v (olds.getD k undef)) →
          (Builtin.firstCells i.size es.length (.slice base es.length sCap)).run P w.drew = .ok olds.toArray w.drew → sCap < es.length + news.length → Rel N φ γ H1 w → γ H1.next = none → H1.new (.tail true) = some H2 →
          ∃ φ' cv w', (Builtin.append_ #[T1, T2] ty #[.slice base es.length sCap, x']).run P w = .ok cv w' ∧ Step N φ γ H1 w φ' (PAdd γ H1.next (w.heap.size, (es ++ news).length * sz, grownCap w (es.length + news.length) sCap e * sz)) H2 w' NoT ∧
            VRel φ' (PAdd γ H1.next (w.heap.size, (es ++ news).length * sz, grownCap w (es.length + news.length) sCap e * sz)) (.list false (es ++ news) (.own H1.next sz)) cv := by
        intro base sCap olds H1 H2 φ1 hol hoc hold hcap hr1 hf1 hn1
        have hrun := append_grow (ty := ty) hd g1 g4 hzs ha hpos hcap hbb hby0 hold
        have hgc := grownCap_ge w (es.length + news.length) sCap e
        have hgl := grownCap_lt w (es.length + news.length) sCap e (by omega)
        have hcells : ∀ (k : Nat) (v : V), (es ++ news).flatten[k]? = some v → v.one = true ∧ VRel φ γ v ((olds.toArray ++ vals.toArray ++ Builtin.zeroCells zv.cells (grownCap w (es.length + news.length) sCap e - (es.length + news.length))).getD k undef) := by
          intro k v hk
          have := flat_append_get (rest := (Builtin.zeroCells zv.cells (grownCap w (es.length + news.length) sCap e - (es.length + news.length))).toList) herow hnrow hol hvl hoc hvc k v hk
          rw [Array.getD_eq_getD_getElem?, ← Array.getElem?_toList]
          simpa using this
        have hsize : (olds.toArray ++ vals.toArray ++ Builtin.zeroCells zv.cells (grownCap w (es.length + news.length) sCap e - (es.length + news.length))).size = grownCap w (es.length + news.length) sCap e * sz := by
          simp only [Array.size_append, List.size_toArray, size_zeroCells, hol, hvl, hzs, g2]
          rw [← Nat.add_mul, ← Nat.add_mul]
          congr 1
          omega
        have := own_step (hr1.heap (w' := w.drew) rfl) hf1 hn1 e hrow2 (by rw [List.length_append]; exact hgc) hgl hcells hsize
        have hlen : (es ++ news).length = es.length + news.length := List.length_append
        refine ⟨_, _, _, hrun, this.1.drew, ?_⟩
        have h2 := this.2
        rw [hlen] at h2 ⊢
        exact h2
      have full : nl = true ∨ tok = .full → (if lin || isByteT tb e then (H.new (.tail true)).map (fun H' => (V.list false (es ++ news) (.own H.next sz), H'))
          else if (es ++ news).flatten.all V.one then (H.new (.cells (es ++ news).flatten)).map (fun H' => (V.vslice H.next 0 (es.length + news.length) (es.length + news.length) sz, H')) else none) = some (v, H') → MemOut P N φ γ H w v H' NoT (do pure (.value (← Builtin.append_ #[T1, T2] ty #[s', x']))) := by
        intro hft h
        have old : ∃ (base : Option Addr) (cap : Nat) (olds : List Value), s' = .slice base es.length cap ∧ olds.length = es.length * sz ∧ (∀ (k : Nat) (v : V), es.flatten[k]? = some v → v.one = true ∧ VRel φ γ v (olds.getD k undef)) ∧
            (Builtin.firstCells i.size es.length (.slice base es.length cap)).run P w.drew = .ok olds.toArray w.drew ∧ cap < es.length + news.length := by
          rcases hs.list_inv with ⟨rfl, rfl, rfl⟩ | ⟨rfl, a, cap, sz2, f, rfl, hli⟩
          · exact ⟨none, 0, [], rfl, by simp, fun k v hk => by simp at hk, run_firstCells_none _ _ _ _ _, by simpa using hpos⟩
          · have htf : tok = .full := hft.resolve_left (by simp)
            subst htf
            have hcap : cap = es.length := hli.tok
            have hse : es.length * sz2 = es.length * sz := by
              cases es with
              | nil => simp
              | cons c l =>
                have h1 := hli.row c List.mem_cons_self
                have h2 := herow c List.mem_cons_self
                rw [← h1, ← h2]
            have hcl := hli.cells hr
            rw [hse] at hcl
            exact ⟨some a, cap, (List.range (es.length * sz)).map f, rfl, by simp,
              fun k v hk => by
                have hc := hli.cell k v hk
                have hl := getElem?_lt hk
                rw [flat_len herow] at hl
                refine ⟨hc.1, ?_⟩
                rw [List.getD_eq_getElem?_getD, List.getElem?_map, List.getElem?_range (by omega)]
                exact hc.2.2,
              run_firstCells_some w.drew i.size es.length a es.length cap _ (by simp [g2]) (by simpa using hcl), by omega⟩
        obtain ⟨base, cap, olds, rfl, hol, hoc, hold, hcap⟩ := old
        split at h
        · obtain ⟨H2, hn, he⟩ := Option.map_eq_some_iff.1 h
          simp only [Prod.mk.injEq] at he
          obtain ⟨rfl, rfl⟩ := he
          obtain ⟨φ', cv, w', h1, h2, h3⟩ := grow base cap olds H H2 φ hol hoc hold hcap hr (hf (Heap.new_lt hn)) hn
          exact .value h1 h2 h3
        · split at h
          · obtain ⟨H2, hn, he⟩ := Option.map_eq_some_iff.1 h
            simp only [Prod.mk.injEq] at he
            obtain ⟨rfl, rfl⟩ := he
            have hn2 := hn
            rw [List.flatten_append] at hn2
            obtain ⟨cv, w', x, h1, h2, h3⟩ := vec_grow hd g1 g2 g3 g4 hzs c2 ha hnrow hvl hvc (ty := ty) hpos hbb0 (flat_len herow) hol hoc hold hcap hr (hf (Heap.new_lt hn)) hn2
            exact .value h1 h2 h3
          · exact absurd h (by simp)
      cases nl with
      | true => exact ⟨NoT, full (.inl rfl) (by simpa using h), fun _ => rfl⟩
      | false =>
      cases tok with
      | unk => exact absurd h (by simp)
      | full => exact ⟨NoT, full (.inr rfl) (by simpa using h), fun _ => rfl⟩
      | own b sb =>
        simp only [Bool.false_eq_true, if_false] at h
        split at h
        · rename_i hg
          split at h
          · rename_i hsb
            subst hsb
            obtain ⟨H2, hn, he⟩ := Option.map_eq_some_iff.1 h
            simp only [Prod.mk.injEq] at he
            obtain ⟨rfl, rfl⟩ := he
            have hf := hf (show H.next < H2.next from Heap.new_lt (H := H.put b (.tail false)) hn)
            refine ⟨fun i => i = b, ?_, fun hno => absurd rfl (hno b sb)⟩
            rcases hs.list_inv with ⟨h0, _⟩ | ⟨_, a, cap, sz2, f, rfl, hli⟩
            · exact absurd h0 (by simp)
            · obtain ⟨hs2, hγ⟩ := hli.tok
              subst hs2
              obtain ⟨arr, T, ha1, ha2, ha3⟩ := hr.blk _ _ _ hγ hg
              simp only at ha1 ha2 ha3
              have hH1 : (H.put b (.tail false)).next = H.next := rfl
              by_cases hroom : es.length + news.length ≤ cap
              · have hend : a.off + (es.length * sb + news.length * sb) ≤ arr.size := by
                  have : (es.length + news.length) * sb ≤ cap * sb := Nat.mul_le_mul_right _ hroom
                  rw [Nat.add_mul] at this
                  omega
                obtain ⟨A, hA⟩ : ∃ A, A = (arr.toList.take (a.off + es.length * sb + 0) ++ vals ++ arr.toList.drop (a.off + es.length * sb + 0 + vals.length)).toArray := ⟨_, rfl⟩
                have hst := run_storeCells_at P a.block (a.off + es.length * sb) T vals 0 arr w ha1 (by rw [hvl]; omega) hone
                rw [← hA] at hst
                have hAs : A.size = arr.size := by subst hA; simp [hvl]; omega
                have hAold : ∀ o, o < a.off + es.length * sb → A[o]? = arr[o]? := by
                  intro o ho
                  subst hA
                  rw [List.getElem?_toArray, List.append_assoc, List.getElem?_append_left (by simp; omega), List.getElem?_take, if_pos (by omega), Array.getElem?_toList]
                have hAnew : ∀ k, k < news.length * sb → A[a.off + es.length * sb + k]? = vals[k]? := by
                  intro k hk
                  subst hA
                  rw [List.getElem?_toArray, List.append_assoc, List.getElem?_append_right (by simp; omega), List.getElem?_append_left (by simp; omega)]
                  congr 1
                  simp
                  omega
                have hcellA : ∀ o, (w.setRow a.block A).cell? ⟨a.block, o, none⟩ = A[o]? := by
                  intro o
                  unfold World.cell?
                  rw [setRow_heap w a.block arr A T (0, 0) ha1]
                  rfl
                have hfree := hr.free _ _ _ hγ hg rfl
                simp only [Blk.mark] at hfree
                let φ2 : Froz := ⟨fun i k => if i = a.block ∧ a.off + es.length * sb ≤ k ∧ k < a.off + es.length * sb + news.length * sb then some (vals.getD (k - (a.off + es.length * sb)) undef) else φ i k, φ.rho⟩
                have hφ2 : FLe φ φ2 := by
                  refine ⟨?_, rfl⟩
                  intro i k u hu
                  show (if _ then _ else _) = _
                  rw [if_neg]
                  · exact hu
                  · rintro ⟨rfl, h1, _⟩
                    rw [hfree k h1] at hu
                    exact absurd hu (by simp)
                have hput : Step N φ γ H w φ2 γ (H.put b (.tail false)) (w.setRow a.block A) (fun i => i = b) := by
                  refine Step.put hr hγ hg rfl hφ2 rfl rfl rfl (size_setRow _ _ _) (fun i hi => setRow_other w a.block i A hi) ?_ ?_ trivial (fun h => by simp [Blk.solid] at h)
                  · intro i o u hu0
                    have hu : (if i = a.block ∧ a.off + es.length * sb ≤ o ∧ o < a.off + es.length * sb + news.length * sb then some (vals.getD (o - (a.off + es.length * sb)) undef) else φ i o) = some u := hu0
                    clear hu0
                    by_cases hc : i = a.block ∧ a.off + es.length * sb ≤ o ∧ o < a.off + es.length * sb + news.length * sb
                    · rw [if_pos hc] at hu
                      injection hu with hu
                      obtain ⟨rfl, h1, h2⟩ := hc
                      subst hu
                      rw [hcellA]
                      have := hAnew (o - (a.off + es.length * sb)) (by omega)
                      rw [show a.off + es.length * sb + (o - (a.off + es.length * sb)) = o by omega] at this
                      rw [this, List.getD_eq_getElem?_getD, List.getElem?_eq_getElem (by omega)]
                      rfl
                    · rw [if_neg hc] at hu
                      have hcw := hr.froz _ _ _ hu
                      by_cases hi : i = a.block
                      · subst hi
                        have ho : o < a.off + es.length * sb := by
                          rcases Nat.lt_or_ge o (a.off + es.length * sb) with h1 | h1
                          · exact h1
                          · rw [hfree o h1] at hu
                            exact absurd hu (by simp)
                        rw [hcellA, hAold o ho]
                        unfold World.cell? at hcw
                        rw [ha1] at hcw
                        simpa using hcw
                      · rw [← hcw]
                        exact World.cell?_of_block (w := w) (setRow_other w a.block i A hi)
                  · intro i o u hu0
                    have hu : (if i = a.block ∧ a.off + es.length * sb ≤ o ∧ o < a.off + es.length * sb + news.length * sb then some (vals.getD (o - (a.off + es.length * sb)) undef) else φ i o) = some u := hu0
                    clear hu0
                    by_cases hc : i = a.block ∧ a.off + es.length * sb ≤ o ∧ o < a.off + es.length * sb + news.length * sb
                    · exact .inr hc.1
                    · rw [if_neg hc] at hu
                      exact .inl hu
                have hle2 : a.off + es.length * sb + news.length * sb ≤ a.off + cap * sb := by omega
                have hover := Step.over hput (k := .tail true) hn (show γ H.next = none from hf) (b0 := b) (y := (a.block, a.off + es.length * sb, a.off + cap * sb)) (x := (a.block, a.off + es.length * sb + news.length * sb, a.off + cap * sb)) rfl hγ rfl
                  ⟨A, T, setRow_heap w a.block arr A T (0, 0) ha1, hAs.trans ha2, hle2⟩ (fun _ o ho => by
                    simp only [Blk.mark] at ho
                    show (if _ then _ else _) = _
                    rw [if_neg (by omega)]
                    exact hfree o (by omega)) (fun b' z' j hz' hj hsj => by
                    rw [Heap.put_get _] at hj
                    split at hj
                    · cases hj; simp [Blk.solid] at hsj
                    · rename_i hne
                      have hne2 := hr.inj b' z' j b _ _ hz' hγ hj hg hsj rfl hne
                      exact hne2)
                have hrun : (Builtin.append_ #[T1, T2] ty #[.slice (some a) es.length cap, x']).run P w = .ok (.slice (some a) (es.length + news.length) cap) (w.setRow a.block A) := by
                  refine append_room (ty := ty) hd g1 g4 hzs ha ?_ hroom (base := some a) ?_
                  · have : news.length * i.bytes ≤ (es.length + news.length) * i.bytes := Nat.mul_le_mul_right _ (by omega)
                    omega
                  · simp only [g2, add_eq (hli.spot (by omega))]
                    exact hst
                refine .value hrun hover ?_
                have hlen : (es ++ news).length = es.length + news.length := List.length_append
                rw [← hlen]
                have hPle : PLe γ (PAdd γ H.next (a.block, a.off + es.length * sb + news.length * sb, a.off + cap * sb)) := PLe.add _ hf
                refine .list_mk sb (fun k => if k < es.length * sb then f k else vals.getD (k - es.length * sb) undef) hli.spot (by omega) hli.max hrow2 (fun k u hk => ?_) ?_
                · rw [List.flatten_append] at hk
                  have hfl := flat_len herow
                  by_cases hk1 : k < es.flatten.length
                  · rw [List.getElem?_append_left hk1] at hk
                    have := hli.cell k u hk
                    rw [if_pos (by omega)]
                    exact ⟨this.1, hφ2 _ _ _ this.2.1, this.2.2.mono hφ2 hPle⟩
                  · rw [List.getElem?_append_right (by omega)] at hk
                    have hkl := getElem?_lt hk
                    rw [flat_len hnrow] at hkl
                    have := hvc _ u hk
                    rw [if_neg (by omega)]
                    rw [hfl] at this hkl
                    refine ⟨this.1, ?_, this.2.mono hφ2 hPle⟩
                    show (if _ then _ else _) = _
                    rw [if_pos ⟨rfl, by omega, by omega⟩]
                    congr 2
                    omega
                · refine ⟨rfl, ?_⟩
                  show PAdd γ H.next _ H.next = _
                  rw [PAdd.self, hlen, Nat.add_mul, Nat.add_assoc]
              · have hput : Step N φ γ H w φ γ (H.put b (.tail false)) w (fun i => i = b) := Step.put hr hγ hg rfl (FLe.refl _) rfl rfl rfl rfl (fun _ _ => rfl) hr.froz (fun _ _ _ h => .inl h) trivial (fun h => by simp [Blk.solid] at h)
                have hcl := hli.cells hr
                obtain ⟨φ', cv, w', h1, h2, h3⟩ := grow (some a) cap ((List.range (es.length * sb)).map f) (H.put b (.tail false)) H2 φ (by simp)
                  (fun k v hk => by
                    have hc := hli.cell k v hk
                    have hl := getElem?_lt hk
                    rw [flat_len herow] at hl
                    refine ⟨hc.1, ?_⟩
                    rw [List.getD_eq_getElem?_getD, List.getElem?_map, List.getElem?_range (by omega)]
                    exact hc.2.2)
                  (run_firstCells_some w.drew i.size es.length a es.length cap _ (by simp [g2]) (by simpa using hcl)) (by omega) hput.rel hf hn
                exact .value h1 ((hput.trans h2).noT (fun b => by simp [NoT])) h3
          · exact absurd h (by simp)
        · exact absurd h (by simp)


end

section
variable {P : Program} {tb : Tb} (hok : tb.Ok P) {N : Nat} {φ : Froz} {γ : Place} {H : Heap} {w : World} (hr : Rel N φ γ H w)
include hok hr

theorem append0_ok {H' : Heap} (hf : H.next < H'.next → γ H.next = none) {T1 T2 ty : TypeId} {s x v : V} {s' x' : Value} (hs : VRel φ γ s s') (hx : VRel φ γ x x') (h : evalAppend0 tb H T1 T2 s x = some (v, H')) :
    ∃ T, MemOut P N φ γ H w v H' T (do pure (.value (← Builtin.append_ #[T1, T2] ty #[s', x']))) ∧ ((∀ n es b c, s ≠ .list n es (.own b c)) → (∀ a b c d, s ≠ .mslice a b c d) → (∀ a b c d e, s ≠ .vslice a b c d e) → T = NoT) := by
  unfold evalAppend0 at h
  split at h
  · rename_i e hd
    simp only [Option.bind_eq_bind, Option.bind_eq_some_iff] at h
    obtain ⟨sz, hsz, by_, hby, z, hz, news, hnews, h⟩ := h
    split at h
    · exact absurd h (by simp)
    · rename_i hcond
      simp only [Bool.or_eq_true, decide_eq_true_eq, not_or] at hcond
      obtain ⟨⟨c1, c2⟩, c3⟩ := hcond
      obtain ⟨i, zv, g1, g2, g3, g4, g5⟩ := info3 hok hsz hby hz
      have hzl : z.cells.length = sz := by simpa using c3
      obtain ⟨vals, ha, hnrow, hvl, hvc⟩ := adds_ok hok hr hz g5 hzl hnews hx
      have hzs : zv.cells.size = i.size := by rw [g2, ← hzl]; exact (zero_cells (φ := φ) (γ := γ) g5).1
      rw [← g2] at ha
      have hdd := hok.desc _ _ hd
      unfold appendTo at h
      split at h
      · rename_i nl es tok
        split at h
        · exact absurd h (by simp)
        · rename_i hb
          obtain ⟨T, h1, h2⟩ := appendList_ok (tb := tb) hr hdd g1 g2 g3 g4 hzs c1 c2 ha hnrow hvl hvc (ty := ty) hf hs (by omega) h
          exact ⟨T, h1, fun hno _ _ => h2 (fun b c hh => hno nl es b c (by rw [hh]))⟩
      · rename_i b off len cap
        split at h
        · exact absurd h (by simp)
        · rename_i hb
          split at h
          · rename_i hemp
            cases h
            cases hs with
            | mslice hbb hlc hcm => exact ⟨NoT, .value (append_none hdd g1 g4 hzs ha hnrow hvl hvc (ty := ty) (by simpa using hemp) hlc) (Step.refl hr) (.mslice hbb hlc hcm), fun _ _ _ => rfl⟩
          · rename_i hemp
            have hpos : 0 < news.length := by
              cases news with
              | nil => exact absurd rfl hemp
              | cons _ _ => simp
            split at h
            · rename_i cs hg
              cases hs with
              | mslice hbb hlc hcm =>
                obtain ⟨T, hm⟩ := appendBox_ok hr hdd g1 g2 g3 g4 hzs c2 ha hnrow hvl hvc (ty := ty) hf hbb hg hlc (Nat.le_refl _) hcm (fun _ => rfl) (fun h => by simp at h) (fun _ => rfl) (fun hle => .mslice hbb hle hcm) hpos (by omega) h
                exact ⟨T, hm, fun _ hno _ => absurd rfl (hno b off len cap)⟩
            · exact absurd h (by simp)
      · rename_i b off len kc sz2
        split at h
        · exact absurd h (by simp)
        · rename_i hb
          split at h
          · rename_i hemp
            cases h
            cases hs with
            | vslice hbb hlk hkc hcm hat => exact ⟨NoT, .value (append_none hdd g1 g4 hzs ha hnrow hvl hvc (ty := ty) (by simpa using hemp) (by omega)) (Step.refl hr) (.vslice hbb hlk hkc hcm hat), fun _ _ _ => rfl⟩
          · rename_i hemp
            have hpos : 0 < news.length := by
              cases news with
              | nil => exact absurd rfl hemp
              | cons _ _ => simp
            split at h
            · rename_i cs hg
              split at h
              · rename_i hsz2
                subst hsz2
                cases hs with
                | vslice hbb hlk hkc hcm hat =>
                  obtain ⟨T, hm⟩ := appendBox_ok hr hdd g1 g2 g3 g4 hzs c2 ha hnrow hvl hvc (ty := ty) hf hbb hg hlk hkc hcm (fun h => (hat h).1) (fun _ h => (hat h).2) (fun h => by simp at h) (fun hle => .vslice hbb hle hkc hcm hat) hpos (by omega) h
                  exact ⟨T, hm, fun _ _ hno => absurd rfl (hno b off len kc sz2)⟩
              · exact absurd h (by simp)
            · exact absurd h (by simp)
      · exact absurd h (by simp)
  · exact absurd h (by simp)
omit hok hr in
theorem MemOut.conv {v v' : V} {H' : Heap} {T : Nat → Prop} {e : Sem Next} (h : MemOut P N φ γ H w v H' T e) (hv : ∀ (φ' : Froz) (γ' : Place) (x : Value), φ'.rho = φ.rho → VRel φ' γ' v x → VRel φ' γ' v' x) : MemOut P N φ γ H w v' H' T e := by
  obtain ⟨φ', γ', cv, w', h1, h2, h3⟩ := h
  exact ⟨φ', γ', cv, w', h1, h2, hv φ' γ' cv h2.fle.rho h3⟩
omit hok hr in
theorem SimR.flat {ρ : Nat → Value} : ∀ {es es' : List (List V)}, SimR ρ es es' → SimL ρ es.flatten es'.flatten
  | [], es', h => by
    have : es' = [] := List.length_eq_zero_iff.1 h.1
    subst this
    exact SimL.nil ρ
  | c :: es, es', h => by
    cases es' with
    | nil => have := h.1; simp at this
    | cons c' es' =>
      have h1 : SimL ρ c c' := by
        obtain ⟨d, hd, hs⟩ := h.2 0 c' rfl
        simp at hd
        subst hd
        exact hs
      have h2 : SimR ρ es es' := ⟨by have := h.1; simpa using this, fun i d hd => by
        obtain ⟨e, he, hs⟩ := h.2 (i + 1) d (by simpa using hd)
        exact ⟨e, by simpa using he, hs⟩⟩
      rw [List.flatten_cons, List.flatten_cons]
      exact h1.append (SimR.flat h2)
omit hok hr in
/-- What is joined to an unknown list. -/
theorem addS_ok {t : TypeId} {sz : Nat} {T2 : TypeId} {k : Sh} (hk : isList k = true) (hw : rowW k = sz) {e : SE} {x : V} {x' : Value} {r : SE × Option SE × SE} {ok : IntKind → SE → Bool} (hok : ∀ k a, ok k a = true → fitsK φ.rho k a = true) (h : addS ok tb H t sz T2 k e x = some r) (hx : VRel φ γ x x') :
    ∃ x2 news newsE, addedOf tb H t sz T2 x2 = some news ∧ VRel φ γ x2 x' ∧ rowsOf φ.rho k r.1 = rowsOf φ.rho k e ++ newsE ∧ SimR φ.rho news newsE ∧ r.2.2.num φ.rho = (newsE.length : Int) ∧ (r.2.1 = none → newsE ≠ []) ∧ (∀ n, r.2.1 = some n → n = r.2.2) := by
  unfold addS at h
  split at h
  · rename_i k' nl f tok
    split at h
    · rename_i e0 hd
      split at h
      · rename_i hkk
        cases h
        have hkk := Sh.beq_eq hkk
        subst hkk
        cases hx with
        | sli hl =>
          refine ⟨_, rowsOf φ.rho k f, rowsOf φ.rho k f, ?_, hl, rows_cat hk e f, SimR.refl _ _, rows_len hk f, fun hh => by simp at hh, fun n hn => by simp at hn; exact hn.symm⟩
          have hall : (rowsOf φ.rho k f).all (fun c => c.length == sz) = true := List.all_eq_true.2 fun c hc => by simpa [hw] using rows_row hc
          unfold addedOf
          simp only [hd, hall, if_true]
      · exact absurd h (by simp)
    · exact absurd h (by simp)
  · rename_i f
    split at h
    · rename_i hd
      cases h
      cases hx with
      | sym h1 =>
        subst h1
        refine ⟨.val (.string (f.text φ.rho)), bytesL (f.text φ.rho), bytesL (f.text φ.rho), ?_, .val rfl, rows_cat (k := .bytes) rfl e f, SimR.refl _ _, rows_len (k := .bytes) rfl f, fun hh => by simp at hh, fun n hn => by simp at hn; exact hn.symm⟩
        have hs : sz = 1 := hw.symm
        unfold addedOf
        simp only [hd, hs, if_true]
        rfl
    · exact absurd h (by simp)
  · obtain ⟨news, hn, h⟩ := Option.bind_eq_some_iff.1 h
    split at h
    · exact absurd h (by simp)
    · rename_i hne
      obtain ⟨e', he, rfl⟩ := Option.map_eq_some_iff.1 h
      obtain ⟨newsE, h1, h2⟩ := catRows_sim hok he
      refine ⟨x, news, newsE, hn, hx, h1, h2, ?_, fun _ hh => ?_, fun n hn => by simp at hn⟩
      · show Int.ofNat news.length = _
        rw [h2.1]
        rfl
      · subst hh
        have h3 : news.length = 0 := h2.1.symm
        have h4 : news = [] := List.length_eq_zero_iff.1 h3
        rw [h4] at hne
        exact hne rfl

theorem appendS_ok {H' : Heap} (hρ : φ.rho = tb.rho) (hf : H.next < H'.next → γ H.next = none) {T1 T2 ty : TypeId} {s x v : V} {s' x' : Value} (hs : VRel φ γ s s') (hx : VRel φ γ x x') (h : evalAppendS tb H T1 T2 s x = some (v, H')) :
    ∃ T, MemOut P N φ γ H w v H' T (do pure (.value (← Builtin.append_ #[T1, T2] ty #[s', x']))) ∧ ((∀ n es b c, s ≠ .list n es (.own b c)) → (∀ k n e b c, s ≠ .sli k n e (.own b c)) → T = NoT) := by
  have hfit : ∀ k a, fitsK tb.rho k a = true → fitsK φ.rho k a = true := fun k a h => by rw [hρ]; exact h
  unfold evalAppendS at h
  obtain ⟨r, hr0, h⟩ := Option.map_eq_some_iff.1 h
  unfold appendS at hr0
  split at hr0
  · rename_i t hd
    simp only [Option.bind_eq_bind, Option.bind_eq_some_iff] at hr0
    obtain ⟨sz, hsz, by_, hby, z, hz, k, hkof, hr0⟩ := hr0
    split at hr0
    · exact absurd hr0 (by simp)
    · rename_i hcond
      simp only [Bool.or_eq_true, decide_eq_true_eq, not_or, Bool.not_eq_true', Bool.not_eq_false] at hcond
      obtain ⟨⟨⟨⟨c1, c2⟩, c3⟩, hk⟩, hw⟩ := hcond
      have hw := Nat.eq_of_beq_eq_true hw
      simp only [Option.bind_eq_some_iff] at hr0
      obtain ⟨⟨nl, e0, tok⟩, hsl, ⟨e1, on, alen⟩, hadd, hr0⟩ := hr0
      simp only at hadd hr0
      split at hr0
      · exact absurd hr0 (by simp)
      · rename_i hsm
        simp only [Option.bind_eq_some_iff] at hr0
        obtain ⟨H2, hgrow, hr0⟩ := hr0
        cases hr0
        simp only at h
        have hsm : smallL tb.rho (lenSE k e0) alen by_ = true := by simpa using hsm
        obtain ⟨i, zv, g1, g2, g3, g4, g5⟩ := info3 hok hsz hby hz
        have hzl : z.cells.length = sz := by simpa using c3
        have hs2 := toSli_rel hfit hsl hs
        obtain ⟨x2, news, newsE, hnews, hx2, hrows, hsim, hal, hne, hon⟩ := addS_ok hk hw hfit hadd hx
        simp only at hrows hal hne hon
        obtain ⟨vals, ha, hnrow, hvl, hvc⟩ := adds_ok hok hr hz g5 hzl hnews hx2
        have hzs : zv.cells.size = i.size := by rw [g2, ← hzl]; exact (zero_cells (φ := φ) (γ := γ) g5).1
        rw [← g2] at ha
        have hdd := hok.desc _ _ hd
        have haE : Adds P i.size zv.cells w T2 x' newsE.length vals := by rw [hsim.1]; exact ha
        have hnrowE : ∀ c, c ∈ newsE → c.length = sz := fun c hc => by
          obtain ⟨j, hj, rfl⟩ := List.mem_iff_getElem.1 hc
          obtain ⟨d, hd2, hsd⟩ := hsim.2 j _ (List.getElem?_eq_getElem hj)
          rw [hsd.1]
          exact hnrow d (List.mem_of_getElem? hd2)
        have hvlE : vals.length = newsE.length * sz := by rw [hsim.1]; exact hvl
        have hvcE : ∀ (k : Nat) (v : V), newsE.flatten[k]? = some v → v.one = true ∧ VRel φ γ v (vals.getD k undef) := fun j u hu => by
          obtain ⟨u0, hu0, hsu⟩ := hsim.flat.2 j u hu
          have := hvc j u0 hu0
          exact ⟨hsu.1 this.1, hsu.2 φ γ _ rfl this.2⟩
        have hlen0 : (lenSE k e0).num φ.rho = ((rowsOf φ.rho k e0).length : Int) := rows_len hk e0
        have hbb : ((rowsOf φ.rho k e0).length + newsE.length) * by_ ≤ 140737488355328 := by
          unfold smallL at hsm
          have hsm := of_decide_eq_true hsm
          rw [← hρ, hlen0, hal] at hsm
          exact Int.ofNat_le.1 (by rw [Int.natCast_mul, Int.natCast_add]; exact hsm)
        -- something is added
        have some_ : newsE ≠ [] → ∃ T, MemOut P N φ γ H w (.sli k (.bool false) e1 (.own H.next sz)) H2 T (do pure (.value (← Builtin.append_ #[T1, T2] ty #[s', x']))) ∧ ((∀ b c, tok ≠ .own b c) → T = NoT) := by
          intro hnn
          have hnemp : newsE.isEmpty = false := by cases newsE with
            | nil => exact absurd rfl hnn
            | cons _ _ => rfl
          have hall : (rowsOf φ.rho k e0).all (fun c => c.length == sz) = true := List.all_eq_true.2 fun c hc => by simpa [hw] using rows_row hc
          have back : ∀ (φ' : Froz) (γ' : Place) (y : Value), φ'.rho = φ.rho → VRel φ' γ' (.list false (rowsOf φ.rho k e0 ++ newsE) (.own H.next sz)) y → VRel φ' γ' (.sli k (.bool false) e1 (.own H.next sz)) y := fun φ' γ' y hφ' hy => .sli (by
            rw [hφ', hrows]
            exact hy)
          have hnext : H.next < H2.next := by
            unfold growTok at hgrow
            split at hgrow
            · rw [Heap.new_next hgrow]; omega
            · split at hgrow
              · split at hgrow
                · rw [Heap.new_next hgrow]; show _ < H.next + 1; omega
                · exact absurd hgrow (by simp)
              · exact absurd hgrow (by simp)
            · exact absurd hgrow (by simp)
          have hH : H' = H2 := by
            cases on with
            | none =>
              simp only at h
              cases h
              rfl
            | some n =>
              have hn := hon n rfl
              subst hn
              simp only at h
              split at h
              · rename_i hz0
                exfalso
                have e3 : n.num tb.rho = 0 := by simpa [SE.truth, SE.num, SE.all, intBin, truthOf] using hz0
                rw [← hρ, hal] at e3
                have : newsE.length = 0 := by omega
                exact hnn (List.length_eq_zero_iff.1 this)
              · cases h
                rfl
          have hfree : γ H.next = none := hf (by rw [hH]; exact hnext)
          have full : (if nl.truth φ.rho then Tok.full else tok) = .full → H.new (.tail true) = some H2 → ∃ T, MemOut P N φ γ H w (.sli k (.bool false) e1 (.own H.next sz)) H2 T (do pure (.value (← Builtin.append_ #[T1, T2] ty #[s', x']))) ∧ ((∀ b c, tok ≠ .own b c) → T = NoT) := by
            intro htk hnew
            have h2 : appendList true tb H t sz (nl.truth φ.rho) (rowsOf φ.rho k e0) tok newsE = some (.list false (rowsOf φ.rho k e0 ++ newsE) (.own H.next sz), H2) := by
              unfold appendList
              simp only [hall, hnemp, htk, hnew, Bool.not_true, Bool.false_eq_true, if_false, Bool.true_or, if_true, Option.map_some]
            obtain ⟨T, h3, h4⟩ := appendList_ok (tb := tb) hr hdd g1 g2 g3 g4 hzs c1 c2 haE hnrowE hvlE hvcE (ty := ty) (fun _ => hfree) hs2 hbb h2
            exact ⟨T, h3.conv back, h4⟩
          cases tok with
          | unk => exact absurd hgrow (by simp [growTok])
          | full => exact full (by split <;> rfl) hgrow
          | own b s2 =>
            unfold growTok at hgrow
            simp only at hgrow
            split at hgrow
            · rename_i hget
              split at hgrow
              · rename_i hs2z
                have hs2z := Nat.eq_of_beq_eq_true hs2z
                subst hs2z
                cases hn : nl.truth φ.rho with
                | false =>
                  rw [hn] at hs2
                  have h2 : appendList true tb H t s2 false (rowsOf φ.rho k e0) (.own b s2) newsE = some (.list false (rowsOf φ.rho k e0 ++ newsE) (.own H.next s2), H2) := by
                    unfold appendList
                    simp only [hall, hnemp, hget, hgrow, Bool.not_true, Bool.false_eq_true, if_false, if_true, Option.map_some]
                  obtain ⟨T, h3, h4⟩ := appendList_ok (tb := tb) hr hdd g1 g2 g3 g4 hzs c1 c2 haE hnrowE hvlE hvcE (ty := ty) (fun _ => hfree) hs2 hbb h2
                  exact ⟨T, h3.conv back, h4⟩
                | true =>
                  rw [hn] at hs2
                  have hput : Step N φ γ H w φ γ (H.put b (.tail false)) w (fun i => i = b) := by
                    cases hγ : γ b with
                    | none => exact Step.putGhost hr hγ hget
                    | some y => exact Step.put hr hγ hget rfl (FLe.refl _) rfl rfl rfl rfl (fun _ _ => rfl) hr.froz (fun _ _ _ h => .inl h) trivial (fun h => by simp [Blk.solid] at h)
                  have h2 : appendList true tb (H.put b (.tail false)) t s2 true (rowsOf φ.rho k e0) .full newsE = some (.list false (rowsOf φ.rho k e0 ++ newsE) (.own (H.put b (.tail false)).next s2), H2) := by
                    unfold appendList
                    simp only [hall, hnemp, hgrow, Bool.not_true, Bool.false_eq_true, if_false, Bool.true_or, if_true, Option.map_some]
                  have hs3 : VRel φ γ (.list true (rowsOf φ.rho k e0) .full) s' := by
                    obtain ⟨h5, rfl⟩ := hs2.nil_rows
                    rw [h5]
                    exact .lnil
                  obtain ⟨T, h3, h4⟩ := appendList_ok (tb := tb) hput.rel hdd g1 g2 g3 g4 hzs c1 c2 haE hnrowE hvlE hvcE (ty := ty) (fun _ => hfree) hs3 hbb h2
                  obtain ⟨φ', γ', cv, w', h5, h6, h7⟩ := h3
                  exact ⟨_, ⟨φ', γ', cv, w', h5, hput.trans h6, back φ' γ' cv h6.fle.rho h7⟩, fun hh => absurd rfl (hh b s2)⟩
              · exact absurd hgrow (by simp)
            · exact absurd hgrow (by simp)
        -- nothing is added
        have none_ : newsE = [] → MemOut P N φ γ H w s H NoT (do pure (.value (← Builtin.append_ #[T1, T2] ty #[s', x']))) := by
          intro hn0
          subst hn0
          have hv0 : vals = [] := List.length_eq_zero_iff.1 (by rw [hvlE]; simp)
          subst hv0
          rcases hs2.list_inv with ⟨h1, h2, rfl⟩ | ⟨h1, a, cap, sz2, f, rfl, hli⟩
          · exact .value (append_room (ty := ty) hdd g1 g4 hzs haE (by simp) (Nat.le_refl _) (base := none) rfl) (Step.refl hr) hs
          · exact .value (append_room (ty := ty) hdd g1 g4 hzs haE (by simp) (show (rowsOf φ.rho k e0).length + 0 ≤ cap from hli.le) (base := some a) (by simp [storeCells])) (Step.refl hr) hs
        have tokS : (∀ n es b c, s ≠ .list n es (.own b c)) → (∀ k n e b c, s ≠ .sli k n e (.own b c)) → ∀ b c, tok ≠ .own b c := by
          intro q1 q2 b c ht
          subst ht
          unfold toSli at hsl
          split at hsl
          · split at hsl
            · cases hsl; exact q2 _ _ _ _ _ rfl
            · exact absurd hsl (by simp)
          · simp at hsl
          · obtain ⟨e3, _, h4⟩ := Option.map_eq_some_iff.1 hsl
            cases h4
            exact q1 _ _ _ _ rfl
          · exact absurd hsl (by simp)
        split at h
        · rename_i n
          have hn := hon n rfl
          subst hn
          split at h
          · rename_i hz0
            cases h
            have e3 : n.num tb.rho = 0 := by simpa [SE.truth, SE.num, SE.all, intBin, truthOf] using hz0
            rw [← hρ, hal] at e3
            have : newsE = [] := List.length_eq_zero_iff.1 (by omega)
            exact ⟨NoT, none_ this, fun _ _ => rfl⟩
          · rename_i hz0
            cases h
            have : newsE ≠ [] := fun hh => hz0 (by
              rw [hh] at hal
              have : n.num tb.rho = 0 := by rw [← hρ]; simpa using hal
              simpa [SE.truth, SE.num, SE.all, intBin, truthOf] using this)
            obtain ⟨T, h1, h2⟩ := some_ this
            exact ⟨T, h1, fun q1 q2 => h2 (tokS q1 q2)⟩
        · cases h
          obtain ⟨T, h1, h2⟩ := some_ (hne rfl)
          exact ⟨T, h1, fun q1 q2 => h2 (tokS q1 q2)⟩
  · exact absurd hr0 (by simp)

theorem append_ok {H' : Heap} (hρ : φ.rho = tb.rho) (hf : H.next < H'.next → γ H.next = none) {T1 T2 ty : TypeId} {s x v : V} {s' x' : Value} (hs : VRel φ γ s s') (hx : VRel φ γ x x') (h : evalAppend tb H T1 T2 s x = some (v, H')) :
    ∃ T, MemOut P N φ γ H w v H' T (do pure (.value (← Builtin.append_ #[T1, T2] ty #[s', x']))) ∧ ((∀ n es b c, s ≠ .list n es (.own b c)) → (∀ k n e b c, s ≠ .sli k n e (.own b c)) → (∀ a b c d, s ≠ .mslice a b c d) → (∀ a b c d e, s ≠ .vslice a b c d e) → T = NoT) := by
  unfold evalAppend at h
  split at h
  · obtain ⟨T, h1, h2⟩ := appendS_ok hok hr hρ hf hs (told_rel hρ hx) h
    exact ⟨T, h1, fun q1 q2 _ _ => h2 q1 q2⟩
  · obtain ⟨T, h1, h2⟩ := append0_ok hok hr hf hs (told_rel hρ hx) h
    exact ⟨T, h1, fun q1 _ q3 q4 => h2 q1 q3 q4⟩
end

end
end Go.Sx
