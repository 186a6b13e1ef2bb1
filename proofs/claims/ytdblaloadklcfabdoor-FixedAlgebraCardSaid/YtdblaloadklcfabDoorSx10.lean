/- append, whole. -/
import Derived.Test.YtdblaloadklcfabDoorSx9
set_option linter.unusedVariables false
set_option linter.unusedSimpArgs false
namespace Go.Sx
noncomputable section

section
variable {P : Program} {tb : Tb} (hok : tb.Ok P) {N : Nat} {φ : Froz} {γ : Place} {H : Heap} {w : World} (hr : Rel N φ γ H w)
include hok hr

theorem adds_ok {e : TypeId} {sz : Nat} {T2 : TypeId} {x : V} {x' : Value} {news : List (List V)} {z : V} {zv : Value} (hz : tb.zero e = some z) (hzo : ofValue zv = some z) (hzl : z.cells.length = sz) (h : addedOf tb e sz T2 x = some news) (hx : VRel φ γ x x') :
    ∃ vals, Adds P sz zv.cells w T2 x' news.length vals ∧ (∀ c, c ∈ news → c.length = sz) ∧ vals.length = news.length * sz ∧ ∀ (k : Nat) (v : V), news.flatten[k]? = some v → v.one = true ∧ VRel φ γ v (vals.getD k undef) := by
  unfold addedOf at h
  split at h
  · rename_i k k' m hd
    simp only [Option.bind_eq_bind, Option.bind_eq_some_iff] at h
    obtain ⟨z2, hz2, h⟩ := h
    rw [hz] at hz2
    cases hz2
    split at h
    · rename_i hc
      cases h; cases hx
      have hz0 := zeros_rel (zero_cells (φ := φ) (γ := γ) hzo) hzl m.toNat
      have ha := Adds.zeros (sz := sz) (z := zv.cells) (w := w) (k' := k') (hok.desc _ _ hd) hc.1 hc.2.1
      have hlen : (List.replicate m.toNat z.cells).length = m.toNat := by simp
      refine ⟨(madeCells zv.cells (m.toNat * sz)).toList, by rw [hlen]; exact ha, fun c hc => by rw [(List.mem_replicate.1 hc).2, hzl], by simp [size_madeCells], fun k v hk => ?_⟩
      have := hz0.2 k v hk
      refine ⟨this.1, ?_⟩
      have e : (madeCells zv.cells (m.toNat * sz)).toList.getD k undef = ((Array.range (m.toNat * sz)).map (zv.cells[· % zv.cells.size]!)).getD k undef := by
        rw [List.getD_eq_getElem?_getD, Array.getElem?_toList, ← Array.getD_eq_getD_getElem?]
        rfl
      rw [e]
      exact this.2
    · exact absurd h (by simp)
  · rename_i s hd
    split at h
    · rename_i h1
      cases h; cases hx
      have hlen : (s.data.toList.map fun b : UInt8 => [V.val (.int .u8 b.toNat)]).length = s.size := by simp only [List.length_map, Array.length_toList]; rfl
      refine ⟨s.data.toList.map fun b => .int .u8 b.toNat, by rw [hlen]; exact .str (hok.desc _ _ hd) h1, fun c hc => ?_, by simp [h1], fun k v hk => ?_⟩
      · obtain ⟨b, _, rfl⟩ := List.mem_map.1 hc
        exact h1.symm
      · rw [flat_single (fun b : UInt8 => V.val (.int .u8 b.toNat)), List.getElem?_map] at hk
        obtain ⟨b, hb, rfl⟩ := Option.map_eq_some_iff.1 hk
        refine ⟨rfl, ?_⟩
        have : (s.data.toList.map fun b : UInt8 => Value.int .u8 b.toNat).getD k undef = .int .u8 b.toNat := by
          rw [List.getD_eq_getElem?_getD, List.getElem?_map, hb]
          rfl
        rw [this]
        exact .val rfl
    · exact absurd h (by simp)
  · rename_i e2 nl es tok hd
    split at h
    · rename_i hall
      cases h
      have hrow : ∀ c, c ∈ news → c.length = sz := fun c hc => by simpa using List.all_eq_true.1 hall c hc
      rcases hx.list_inv with ⟨rfl, rfl, rfl⟩ | ⟨rfl, a, cap, sz2, f, rfl, hli⟩
      · exact ⟨[], .nil (hok.desc _ _ hd), by simp, by simp, fun k v hk => by simp at hk⟩
      · refine ⟨(List.range (news.length * sz2)).map f, ?_⟩
        have hse : news.length * sz2 = news.length * sz := by
          cases news with
          | nil => simp
          | cons c l =>
            have h1 := hli.row c List.mem_cons_self
            have h2 := hrow c List.mem_cons_self
            rw [← h1, ← h2]
        refine ⟨.slice (hok.desc _ _ hd) (by simp [hse]) (hli.cells hr), hrow, by simp [hse], fun k v hk => ?_⟩
        have hl := getElem?_lt hk
        rw [flat_len hrow] at hl
        have hc := hli.cell k v hk
        refine ⟨hc.1, ?_⟩
        have : ((List.range (news.length * sz2)).map f).getD k undef = f k := by
          rw [List.getD_eq_getElem?_getD, List.getElem?_map, List.getElem?_range (by omega)]
          rfl
        rw [this]
        exact hc.2.2
    · exact absurd h (by simp)
  · exact absurd h (by simp)

end

/-- What touches one block at most. -/
def AppT (tok : Tok) : Nat → Prop := fun i => ∃ s, tok = .own i s

theorem Adds.one {φ : Froz} {γ : Place} {news : List (List V)} {vals : List Value} {sz : Nat} (hrow : ∀ c, c ∈ news → c.length = sz) (hl : vals.length = news.length * sz) (hc : ∀ (k : Nat) (v : V), news.flatten[k]? = some v → v.one = true ∧ VRel φ γ v (vals.getD k undef)) :
    ∀ u, u ∈ vals → u.oneCell' = true := by
  intro u hu
  obtain ⟨k, hk⟩ := List.mem_iff_getElem?.1 hu
  have hkl := getElem?_lt hk
  have hf : k < news.flatten.length := by rw [flat_len hrow]; omega
  have := hc k news.flatten[k] (by simp [hf])
  have e : vals.getD k undef = u := by rw [List.getD_eq_getElem?_getD, hk]; rfl
  rw [e] at this
  exact this.2.one this.1

theorem flat_append_get {φ : Froz} {γ : Place} {es news : List (List V)} {olds vals : List Value} {rest : List Value} {sz : Nat} (h1 : ∀ c, c ∈ es → c.length = sz) (h2 : ∀ c, c ∈ news → c.length = sz) (ho : olds.length = es.length * sz) (hv : vals.length = news.length * sz)
    (hco : ∀ (k : Nat) (v : V), es.flatten[k]? = some v → v.one = true ∧ VRel φ γ v (olds.getD k undef)) (hcv : ∀ (k : Nat) (v : V), news.flatten[k]? = some v → v.one = true ∧ VRel φ γ v (vals.getD k undef)) :
    ∀ (k : Nat) (v : V), (es ++ news).flatten[k]? = some v → v.one = true ∧ VRel φ γ v ((olds ++ vals ++ rest)[k]?.getD undef) := by
  intro k v hk
  rw [List.flatten_append] at hk
  have hle := flat_len h1
  have hln := flat_len h2
  by_cases hk1 : k < es.flatten.length
  · rw [List.getElem?_append_left hk1] at hk
    have := hco k v hk
    rw [List.append_assoc, List.getElem?_append_left (by omega), ← List.getD_eq_getElem?_getD]
    exact this
  · rw [List.getElem?_append_right (by omega)] at hk
    have hl := getElem?_lt hk
    have := hcv _ v hk
    rw [List.append_assoc, List.getElem?_append_right (by omega), List.getElem?_append_left (by omega), ← List.getD_eq_getElem?_getD]
    have e : k - olds.length = k - es.flatten.length := by omega
    rw [e]
    exact this

theorem Step.noT {N : Nat} {φ φ' : Froz} {γ γ' : Place} {H H' : Heap} {w w' : World} {T T' : Nat → Prop} (h : Step N φ γ H w φ' γ' H' w' T) (hT : ∀ b, T b ↔ T' b) : Step N φ γ H w φ' γ' H' w' T' := by
  have : T = T' := funext fun b => propext (hT b)
  exact this ▸ h

section
variable {P : Program} {tb : Tb} (hok : tb.Ok P) {N : Nat} {φ : Froz} {γ : Place} {H : Heap} {w : World} (hr : Rel N φ γ H w)
include hok hr

theorem append_ok {H' : Heap} (hf : H.next < H'.next → γ H.next = none) {T1 T2 ty : TypeId} {s x v : V} {s' x' : Value} (hs : VRel φ γ s s') (hx : VRel φ γ x x') (h : evalAppend tb H T1 T2 s x = some (v, H')) :
    ∃ T, MemOut P N φ γ H w v H' T (do pure (.value (← Builtin.append_ #[T1, T2] ty #[s', x']))) ∧ ((∀ n es b c, s ≠ .list n es (.own b c)) → T = NoT) := by
  unfold evalAppend at h
  split at h
  · rename_i e nl es tok hd
    simp only [Option.bind_eq_bind, Option.bind_eq_some_iff] at h
    obtain ⟨sz, hsz, by_, hby, z, hz, news, hnews, h⟩ := h
    split at h
    · exact absurd h (by simp)
    · rename_i hcond
      simp only [Bool.or_eq_true, decide_eq_true_eq, Bool.not_eq_true', not_or, Bool.not_eq_false] at hcond
      obtain ⟨⟨⟨⟨c1, c2⟩, c3⟩, c4⟩, c5⟩ := hcond
      obtain ⟨i, zv, g1, g2, g3, g4, g5⟩ := info3 hok hsz hby hz
      have hzl : z.cells.length = sz := by simpa using c3
      obtain ⟨vals, ha, hnrow, hvl, hvc⟩ := adds_ok hok hr hz g5 hzl hnews hx
      have hzs : zv.cells.size = i.size := by rw [g2, ← hzl]; exact (zero_cells (φ := φ) (γ := γ) g5).1
      rw [← g2] at ha
      have herow : ∀ c, c ∈ es → c.length = sz := fun c hc => by simpa using List.all_eq_true.1 c5 c hc
      have hone := Adds.one hnrow hvl hvc
      have hbb : (es.length + news.length) * i.bytes ≤ 140737488355328 := by rw [g3]; omega
      have hby0 : i.bytes ≠ 0 := by rw [g3]; exact c2
      have hle47 : es.length + news.length ≤ 140737488355328 := Nat.le_trans (Nat.le_mul_of_pos_right _ (by omega)) hbb
      split at h
      · -- nothing to add
        rename_i hemp
        have hn0 : news = [] := by simpa using hemp
        subst hn0
        cases h
        refine ⟨NoT, ?_, fun _ => rfl⟩
        have hv0 : vals = [] := List.length_eq_zero_iff.1 (by rw [hvl]; simp)
        subst hv0
        rcases hs.list_inv with ⟨rfl, rfl, rfl⟩ | ⟨rfl, a, cap, sz2, f, rfl, hli⟩
        · exact .value (append_room (ty := ty) (hok.desc _ _ hd) g1 g4 hzs ha (by simp) (Nat.le_refl _) (base := none) rfl) (Step.refl hr) hs
        · exact .value (append_room (ty := ty) (hok.desc _ _ hd) g1 g4 hzs ha (by simp) (show es.length + 0 ≤ cap from hli.le) (base := some a) (by simp [storeCells])) (Step.refl hr) hs
      · rename_i hemp
        have hpos : 0 < news.length := by
          cases news with
          | nil => exact absurd rfl hemp
          | cons _ _ => simp
        have hrow2 : ∀ c, c ∈ es ++ news → c.length = sz := fun c hc => (List.mem_append.1 hc).elim (herow c) (hnrow c)
        -- a new row
        have grow : ∀ (base : Option Addr) (sCap : Nat) (olds : List Value) (H1 H2 : Heap) (φ1 : Froz), olds.length = es.length * sz → (∀ (k : Nat) (v : V), es.flatten[k]? = some v → v.one = true ∧ VRel φ γ v (olds.getD k undef)) →
            (Builtin.firstCells i.size es.length (.slice base es.length sCap)).run P w.drew = .ok olds.toArray w.drew → sCap < es.length + news.length → Rel N φ γ H1 w → γ H1.next = none → H1.new (.tail true) = some H2 →
            ∃ φ' cv w', (Builtin.append_ #[T1, T2] ty #[.slice base es.length sCap, x']).run P w = .ok cv w' ∧ Step N φ γ H1 w φ' (PAdd γ H1.next (w.heap.size, (es ++ news).length * sz, grownCap w (es.length + news.length) sCap e * sz)) H2 w' NoT ∧
              VRel φ' (PAdd γ H1.next (w.heap.size, (es ++ news).length * sz, grownCap w (es.length + news.length) sCap e * sz)) (.list false (es ++ news) (.own H1.next sz)) cv := by
          intro base sCap olds H1 H2 φ1 hol hoc hold hcap hr1 hf1 hn1
          have hrun := append_grow (ty := ty) (hok.desc _ _ hd) g1 g4 hzs ha hpos hcap hbb hby0 hold
          have hgc := grownCap_ge w (es.length + news.length) sCap e
          have hgl := grownCap_lt w (es.length + news.length) sCap e (by omega)
          have hcells : ∀ (k : Nat) (v : V), (es ++ news).flatten[k]? = some v → v.one = true ∧ VRel φ γ v ((olds.toArray ++ vals.toArray ++ Builtin.zeroCells zv.cells (grownCap w (es.length + news.length) sCap e - (es.length + news.length))).getD k undef) := by
            intro k v hk
            have := flat_append_get (rest := (Builtin.zeroCells zv.cells (grownCap w (es.length + news.length) sCap e - (es.length + news.length))).toList) herow hnrow hol hvl hoc hvc k v hk
            rw [Array.getD_eq_getD_getElem?, ← Array.getElem?_toList]
            simpa using this
          have hsize : (olds.toArray ++ vals.toArray ++ Builtin.zeroCells zv.cells (grownCap w (es.length + news.length) sCap e - (es.length + news.length))).size = grownCap w (es.length + news.length) sCap e * sz := by
            simp only [Array.size_append, List.size_toArray, size_zeroCells, hol, hvl, hzs, g2]
            rw [← Nat.add_mul, ← Nat.add_mul]
            congr 1
            omega
          have := own_step (hr1.heap (w' := w.drew) rfl) hf1 hn1 e hrow2 (by rw [List.length_append]; exact hgc) hgl hcells hsize
          have hlen : (es ++ news).length = es.length + news.length := List.length_append
          refine ⟨_, _, _, hrun, this.1.drew, ?_⟩
          have h2 := this.2
          rw [hlen] at h2 ⊢
          exact h2
        have full : nl = true ∨ tok = .full → (H.new (.tail true)).map (fun H' => (V.list false (es ++ news) (.own H.next sz), H')) = some (v, H') → MemOut P N φ γ H w v H' NoT (do pure (.value (← Builtin.append_ #[T1, T2] ty #[s', x']))) := by
          intro hft h
          obtain ⟨H2, hn, he⟩ := Option.map_eq_some_iff.1 h
          simp only [Prod.mk.injEq] at he
          obtain ⟨rfl, rfl⟩ := he
          have hf := hf (Heap.new_lt hn)
          rcases hs.list_inv with ⟨rfl, rfl, rfl⟩ | ⟨rfl, a, cap, sz2, f, rfl, hli⟩
          · obtain ⟨φ', cv, w', h1, h2, h3⟩ := grow none 0 [] H H2 φ (by simp) (fun k v hk => by simp at hk) (run_firstCells_none _ _ _ _ _) (by simpa using hpos) hr hf hn
            exact .value h1 h2 h3
          · have htf : tok = .full := hft.resolve_left (by simp)
            subst htf
            have hcap : cap = es.length := hli.tok
            have hse : es.length * sz2 = es.length * sz := by
              cases es with
              | nil => simp
              | cons c l =>
                have h1 := hli.row c List.mem_cons_self
                have h2 := herow c List.mem_cons_self
                rw [← h1, ← h2]
            have hcl := hli.cells hr
            rw [hse] at hcl
            obtain ⟨φ', cv, w', h1, h2, h3⟩ := grow (some a) cap ((List.range (es.length * sz)).map f) H H2 φ (by simp)
              (fun k v hk => by
                have hc := hli.cell k v hk
                have hl := getElem?_lt hk
                rw [flat_len herow] at hl
                refine ⟨hc.1, ?_⟩
                rw [List.getD_eq_getElem?_getD, List.getElem?_map, List.getElem?_range (by omega)]
                exact hc.2.2)
              (run_firstCells_some w.drew i.size es.length a es.length cap _ (by simp [g2]) (by simpa using hcl)) (by omega) hr hf hn
            exact .value h1 h2 h3
        cases nl with
        | true => exact ⟨NoT, full (.inl rfl) (by simpa using h), fun _ => rfl⟩
        | false =>
        cases tok with
        | unk => exact absurd h (by simp)
        | full => exact ⟨NoT, full (.inr rfl) (by simpa using h), fun _ => rfl⟩
        | own b sb =>
          simp only [Bool.false_eq_true, if_false] at h
          split at h
          · rename_i hg
            split at h
            · rename_i hsb
              subst hsb
              obtain ⟨H2, hn, he⟩ := Option.map_eq_some_iff.1 h
              simp only [Prod.mk.injEq] at he
              obtain ⟨rfl, rfl⟩ := he
              have hf := hf (show H.next < H2.next from Heap.new_lt (H := H.put b (.tail false)) hn)
              refine ⟨fun i => i = b, ?_, fun hno => absurd rfl (hno false es b sb)⟩
              rcases hs.list_inv with ⟨h0, _⟩ | ⟨_, a, cap, sz2, f, rfl, hli⟩
              · exact absurd h0 (by simp)
              · obtain ⟨hs2, hγ⟩ := hli.tok
                subst hs2
                obtain ⟨arr, T, ha1, ha2, ha3⟩ := hr.blk _ _ _ hγ hg
                simp only at ha1 ha2 ha3
                have hH1 : (H.put b (.tail false)).next = H.next := rfl
                by_cases hroom : es.length + news.length ≤ cap
                · have hend : a.off + (es.length * sb + news.length * sb) ≤ arr.size := by
                    have : (es.length + news.length) * sb ≤ cap * sb := Nat.mul_le_mul_right _ hroom
                    rw [Nat.add_mul] at this
                    omega
                  obtain ⟨A, hA⟩ : ∃ A, A = (arr.toList.take (a.off + es.length * sb + 0) ++ vals ++ arr.toList.drop (a.off + es.length * sb + 0 + vals.length)).toArray := ⟨_, rfl⟩
                  have hst := run_storeCells_at P a.block (a.off + es.length * sb) T vals 0 arr w ha1 (by rw [hvl]; omega) hone
                  rw [← hA] at hst
                  have hAs : A.size = arr.size := by subst hA; simp [hvl]; omega
                  have hAold : ∀ o, o < a.off + es.length * sb → A[o]? = arr[o]? := by
                    intro o ho
                    subst hA
                    rw [List.getElem?_toArray, List.append_assoc, List.getElem?_append_left (by simp; omega), List.getElem?_take, if_pos (by omega), Array.getElem?_toList]
                  have hAnew : ∀ k, k < news.length * sb → A[a.off + es.length * sb + k]? = vals[k]? := by
                    intro k hk
                    subst hA
                    rw [List.getElem?_toArray, List.append_assoc, List.getElem?_append_right (by simp; omega), List.getElem?_append_left (by simp; omega)]
                    congr 1
                    simp
                    omega
                  have hcellA : ∀ o, (w.setRow a.block A).cell? ⟨a.block, o, none⟩ = A[o]? := by
                    intro o
                    unfold World.cell?
                    rw [setRow_heap w a.block arr A T (0, 0) ha1]
                    rfl
                  have hfree := hr.free _ _ _ hγ hg rfl
                  simp only [Blk.mark] at hfree
                  let φ2 : Froz := ⟨fun i k => if i = a.block ∧ a.off + es.length * sb ≤ k ∧ k < a.off + es.length * sb + news.length * sb then some (vals.getD (k - (a.off + es.length * sb)) undef) else φ i k, φ.rho⟩
                  have hφ2 : FLe φ φ2 := by
                    refine ⟨?_, rfl⟩
                    intro i k u hu
                    show (if _ then _ else _) = _
                    rw [if_neg]
                    · exact hu
                    · rintro ⟨rfl, h1, _⟩
                      rw [hfree k h1] at hu
                      exact absurd hu (by simp)
                  have hput : Step N φ γ H w φ2 γ (H.put b (.tail false)) (w.setRow a.block A) (fun i => i = b) := by
                    refine Step.put hr hγ hg rfl hφ2 rfl rfl rfl (size_setRow _ _ _) (fun i hi => setRow_other w a.block i A hi) ?_ ?_ trivial (fun h => by simp [Blk.solid] at h)
                    · intro i o u hu0
                      have hu : (if i = a.block ∧ a.off + es.length * sb ≤ o ∧ o < a.off + es.length * sb + news.length * sb then some (vals.getD (o - (a.off + es.length * sb)) undef) else φ i o) = some u := hu0
                      clear hu0
                      by_cases hc : i = a.block ∧ a.off + es.length * sb ≤ o ∧ o < a.off + es.length * sb + news.length * sb
                      · rw [if_pos hc] at hu
                        injection hu with hu
                        obtain ⟨rfl, h1, h2⟩ := hc
                        subst hu
                        rw [hcellA]
                        have := hAnew (o - (a.off + es.length * sb)) (by omega)
                        rw [show a.off + es.length * sb + (o - (a.off + es.length * sb)) = o by omega] at this
                        rw [this, List.getD_eq_getElem?_getD, List.getElem?_eq_getElem (by omega)]
                        rfl
                      · rw [if_neg hc] at hu
                        have hcw := hr.froz _ _ _ hu
                        by_cases hi : i = a.block
                        · subst hi
                          have ho : o < a.off + es.length * sb := by
                            rcases Nat.lt_or_ge o (a.off + es.length * sb) with h1 | h1
                            · exact h1
                            · rw [hfree o h1] at hu
                              exact absurd hu (by simp)
                          rw [hcellA, hAold o ho]
                          unfold World.cell? at hcw
                          rw [ha1] at hcw
                          simpa using hcw
                        · rw [← hcw]
                          exact World.cell?_of_block (w := w) (setRow_other w a.block i A hi)
                    · intro i o u hu0
                      have hu : (if i = a.block ∧ a.off + es.length * sb ≤ o ∧ o < a.off + es.length * sb + news.length * sb then some (vals.getD (o - (a.off + es.length * sb)) undef) else φ i o) = some u := hu0
                      clear hu0
                      by_cases hc : i = a.block ∧ a.off + es.length * sb ≤ o ∧ o < a.off + es.length * sb + news.length * sb
                      · exact .inr hc.1
                      · rw [if_neg hc] at hu
                        exact .inl hu
                  have hle2 : a.off + es.length * sb + news.length * sb ≤ a.off + cap * sb := by omega
                  have hover := Step.over hput (k := .tail true) hn (show γ H.next = none from hf) (b0 := b) (y := (a.block, a.off + es.length * sb, a.off + cap * sb)) (x := (a.block, a.off + es.length * sb + news.length * sb, a.off + cap * sb)) rfl hγ rfl
                    ⟨A, T, setRow_heap w a.block arr A T (0, 0) ha1, hAs.trans ha2, hle2⟩ (fun _ o ho => by
                      simp only [Blk.mark] at ho
                      show (if _ then _ else _) = _
                      rw [if_neg (by omega)]
                      exact hfree o (by omega)) (fun b' z' j hz' hj hsj => by
                      rw [Heap.put_get _] at hj
                      split at hj
                      · cases hj; simp [Blk.solid] at hsj
                      · rename_i hne
                        have hne2 := hr.inj b' z' j b _ _ hz' hγ hj hg hsj rfl hne
                        exact hne2)
                  have hrun : (Builtin.append_ #[T1, T2] ty #[.slice (some a) es.length cap, x']).run P w = .ok (.slice (some a) (es.length + news.length) cap) (w.setRow a.block A) := by
                    refine append_room (ty := ty) (hok.desc _ _ hd) g1 g4 hzs ha ?_ hroom (base := some a) ?_
                    · have : news.length * i.bytes ≤ (es.length + news.length) * i.bytes := Nat.mul_le_mul_right _ (by omega)
                      omega
                    · simp only [g2, add_eq (hli.spot (by omega))]
                      exact hst
                  refine .value hrun hover ?_
                  have hlen : (es ++ news).length = es.length + news.length := List.length_append
                  rw [← hlen]
                  have hPle : PLe γ (PAdd γ H.next (a.block, a.off + es.length * sb + news.length * sb, a.off + cap * sb)) := PLe.add _ hf
                  refine .list_mk sb (fun k => if k < es.length * sb then f k else vals.getD (k - es.length * sb) undef) hli.spot (by omega) hli.max hrow2 (fun k u hk => ?_) ?_
                  · rw [List.flatten_append] at hk
                    have hfl := flat_len herow
                    by_cases hk1 : k < es.flatten.length
                    · rw [List.getElem?_append_left hk1] at hk
                      have := hli.cell k u hk
                      rw [if_pos (by omega)]
                      exact ⟨this.1, hφ2 _ _ _ this.2.1, this.2.2.mono hφ2 hPle⟩
                    · rw [List.getElem?_append_right (by omega)] at hk
                      have hkl := getElem?_lt hk
                      rw [flat_len hnrow] at hkl
                      have := hvc _ u hk
                      rw [if_neg (by omega)]
                      rw [hfl] at this hkl
                      refine ⟨this.1, ?_, this.2.mono hφ2 hPle⟩
                      show (if _ then _ else _) = _
                      rw [if_pos ⟨rfl, by omega, by omega⟩]
                      congr 2
                      omega
                  · refine ⟨rfl, ?_⟩
                    show PAdd γ H.next _ H.next = _
                    rw [PAdd.self, hlen, Nat.add_mul, Nat.add_assoc]
                · have hput : Step N φ γ H w φ γ (H.put b (.tail false)) w (fun i => i = b) := Step.put hr hγ hg rfl (FLe.refl _) rfl rfl rfl rfl (fun _ _ => rfl) hr.froz (fun _ _ _ h => .inl h) trivial (fun h => by simp [Blk.solid] at h)
                  have hcl := hli.cells hr
                  obtain ⟨φ', cv, w', h1, h2, h3⟩ := grow (some a) cap ((List.range (es.length * sb)).map f) (H.put b (.tail false)) H2 φ (by simp)
                    (fun k v hk => by
                      have hc := hli.cell k v hk
                      have hl := getElem?_lt hk
                      rw [flat_len herow] at hl
                      refine ⟨hc.1, ?_⟩
                      rw [List.getD_eq_getElem?_getD, List.getElem?_map, List.getElem?_range (by omega)]
                      exact hc.2.2)
                    (run_firstCells_some w.drew i.size es.length a es.length cap _ (by simp [g2]) (by simpa using hcl)) (by omega) hput.rel hf hn
                  exact .value h1 ((hput.trans h2).noT (fun b => by simp [NoT])) h3
            · exact absurd h (by simp)
          · exact absurd h (by simp)
  · exact absurd h (by simp)
end

end
end Go.Sx
