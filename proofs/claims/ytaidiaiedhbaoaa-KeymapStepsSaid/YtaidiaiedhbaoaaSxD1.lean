/- Regions that draw their order: what the interpreter's heaps keep; what an operation looks at; who waits for whom. -/
import Derived.Test.YtaidiaiedhbaoaaSx14
/- Regions that draw their order: what the interpreter's heaps keep; what an operation looks at; who waits for whom. -/
set_option linter.unusedVariables false
set_option linter.unusedSimpArgs false
namespace Go.Sx
noncomputable section

/-! ### Heaps -/
def Hwf (H : Heap) : Prop := True ∧ (∀ b k, H.get b = some k → b < H.next) ∧ H.base ≤ H.next

/-- A heap behind another. -/
structure HG (H H' : Heap) : Prop where
  wf : Hwf H'
  next : H.next ≤ H'.next
  base : H'.base = H.base
  low : ∀ b, lowGe H.low b → lowGe H'.low b
  same : ∀ b, b < H.base → ¬ lowGe H'.low b → H'.get b = H.get b

/-- A heap behind another, what was there alone. -/
structure HLe (H H' : Heap) : Prop where
  next : H.next ≤ H'.next
  base : H'.base = H.base
  low : H'.low = H.low
  same : ∀ b, b < H.next → H'.get b = H.get b

theorem HG.refl {H : Heap} (h : Hwf H) : HG H H := ⟨h, Nat.le_refl _, rfl, fun _ h => h, fun _ _ _ => rfl⟩
theorem HG.trans {H H1 H2 : Heap} (h : HG H H1) (k : HG H1 H2) : HG H H2 :=
  ⟨k.wf, Nat.le_trans h.next k.next, k.base.trans h.base, fun b hb => k.low b (h.low b hb), fun b hb hl => (k.same b (by rw [h.base]; exact hb) hl).trans (h.same b hb (fun hh => hl (k.low b hh)))⟩
theorem HLe.refl (H : Heap) : HLe H H := ⟨Nat.le_refl _, rfl, rfl, fun _ _ => rfl⟩
theorem HLe.trans {H H1 H2 : Heap} (h : HLe H H1) (k : HLe H1 H2) : HLe H H2 :=
  ⟨Nat.le_trans h.next k.next, k.base.trans h.base, k.low.trans h.low, fun b hb => (k.same b (Nat.lt_of_lt_of_le hb h.next)).trans (h.same b hb)⟩
theorem HLe.hg {H H' : Heap} (h : HLe H H') (hw : Hwf H) (hw' : Hwf H') : HG H H' :=
  ⟨hw', h.next, h.base, fun b hb => by rw [h.low]; exact hb, fun b hb _ => h.same b (Nat.lt_of_lt_of_le hb hw.2.2)⟩

/-- Both at once: where a flag says so, what was there is left alone. -/
def HS (s : Bool) (H H' : Heap) : Prop := HG H H' ∧ (s = true → HLe H H')
theorem HS.refl {H : Heap} (h : Hwf H) {s : Bool} : HS s H H := ⟨HG.refl h, fun _ => HLe.refl H⟩
theorem HS.new {H H' : Heap} {x : Blk} (h : Hwf H) (hn : H.new x = some H') {s : Bool} : HS s H H' := by
  have hle : HLe H H' := by
    refine ⟨by rw [Heap.new_next hn]; omega, ?_, ?_, fun b hb => ?_⟩
    · obtain ⟨_, rfl⟩ := Heap.new_eq hn; rfl
    · obtain ⟨_, rfl⟩ := Heap.new_eq hn; rfl
    · rw [Heap.new_get hn, if_neg (by omega)]
  have hw : Hwf H' := by
    refine ⟨?_, fun b k hk => ?_, ?_⟩
    · trivial
    · rw [Heap.new_get hn] at hk
      rw [Heap.new_next hn]
      split at hk
      · omega
      · have := h.2.1 b k hk; omega
    · have := h.2.2
      rw [hle.base]
      exact Nat.le_trans this hle.next
  exact ⟨hle.hg h hw, fun _ => hle⟩
theorem HG.put {H : Heap} {b : Nat} {x k : Blk} (h : Hwf H) (hk : H.get b = some k) : HG H (H.put b x) := by
  have hb := h.2.1 b k hk
  refine ⟨⟨h.1, fun i j hj => ?_, h.2.2⟩, Nat.le_refl _, rfl, fun i hi => Heap.low_put _ _ _ _ hi, fun i hi hlow => ?_⟩
  · rw [Heap.put_get x] at hj
    split at hj
    · rename_i e; subst e; exact hb
    · exact h.2.1 i j hj
  · rw [Heap.put_get x]
    split
    · rename_i e; subst e; exact absurd (Heap.low_put_self _ _ _ hi) hlow
    · rfl
theorem HS.put {H : Heap} {b : Nat} {x k : Blk} (h : Hwf H) (hk : H.get b = some k) : HS false H (H.put b x) := ⟨HG.put h hk, fun h => by simp at h⟩

theorem newBox_hs {H H' : Heap} {cs : List V} {v : V} (hw : Hwf H) (h : newBox H cs = some (v, H')) {s : Bool} : HS s H H' := by
  unfold newBox at h
  split at h
  · obtain ⟨H2, hn, he⟩ := Option.map_eq_some_iff.1 h
    cases he
    exact HS.new hw hn
  · exact absurd h (by simp)

theorem evalStore_hs {tb : Tb} {H H' : Heap} {T : TypeId} {x v : V} (hw : Hwf H) (h : evalStore tb H T x v = some H') : HS false H H' := by
  unfold evalStore at h
  simp only [Option.bind_eq_bind, Option.bind_eq_some_iff] at h
  obtain ⟨n, hn, h⟩ := h
  split at h
  · exact absurd h (by simp)
  · split at h
    · split at h
      · rename_i hk
        split at h
        · cases h; exact HS.put hw hk
        · exact absurd h (by simp)
      · exact absurd h (by simp)
    · exact absurd h (by simp)

theorem evalMapUpdate_hs {tb : Tb} {H H' : Heap} {T : TypeId} {x k v : V} (hw : Hwf H) (h : evalMapUpdate tb H T x k v = some H') : HS false H H' := by
  unfold evalMapUpdate at h
  split at h
  · split at h
    · rename_i hk
      split at h
      · cases h; exact HS.put hw hk
      · cases h; exact HS.put hw hk
      · exact absurd h (by simp)
    · exact absurd h (by simp)
  · exact absurd h (by simp)

theorem evalDelete_hs {tb : Tb} {H H' : Heap} {T : TypeId} {x k : V} (hw : Hwf H) (h : evalDelete tb H T x k = some H') : HS false H H' := by
  unfold evalDelete at h
  split at h
  · split at h
    · cases h; exact HS.refl hw
    · split at h
      · rename_i hk
        split at h
        · cases h; exact HS.put hw hk
        · cases h; exact HS.put hw hk
        · exact absurd h (by simp)
      · exact absurd h (by simp)
    · exact absurd h (by simp)
  · exact absurd h (by simp)

theorem evalMakeSlice_hs {tb : Tb} {H H' : Heap} {T : TypeId} {l c v : V} (hw : Hwf H) (h : evalMakeSlice tb H T l c = some (v, H')) {s : Bool} : HS s H H' := by
  unfold evalMakeSlice at h
  split at h
  · simp only [Option.bind_eq_bind, Option.bind_eq_some_iff] at h
    obtain ⟨sz, hsz, by_, hby, z, hz, h⟩ := h
    split at h
    · exact absurd h (by simp)
    · split at h
      · obtain ⟨r, hb, he⟩ := Option.map_eq_some_iff.1 h
        cases he
        exact newBox_hs (v := r.1) hw hb
      · split at h
        · cases h; exact HS.refl hw
        split at h
        · obtain ⟨H2, hn, he⟩ := Option.map_eq_some_iff.1 h
          cases he
          exact HS.new hw hn
        · obtain ⟨r, hb, he⟩ := Option.map_eq_some_iff.1 h
          cases he
          exact newBox_hs (v := r.1) hw hb
  · exact absurd h (by simp)

theorem evalRange_hs {tb : Tb} {H H' : Heap} {T : TypeId} {x v : V} (hw : Hwf H) (h : evalRange tb H T x = some (v, H')) {s : Bool} : HS s H H' := by
  unfold evalRange at h
  simp only [Option.bind_eq_bind, Option.bind_eq_some_iff] at h
  obtain ⟨it, hit, h⟩ := h
  obtain ⟨H2, hn, he⟩ := Option.map_eq_some_iff.1 h
  cases he
  exact HS.new hw hn

theorem evalMapEntry_hs {tb : Tb} {H H' : Heap} {T : TypeId} {x k v : V} (hw : Hwf H) (h : evalMapEntry tb H T x k = some (v, H')) : HS false H H' := by
  unfold evalMapEntry at h
  split at h
  · split at h
    · rename_i hk
      split at h
      · split at h
        · cases h; exact HS.put hw hk
        · exact absurd h (by simp)
      · split at h
        · cases h; exact HS.put hw hk
        · exact absurd h (by simp)
      · exact absurd h (by simp)
    · exact absurd h (by simp)
  · exact absurd h (by simp)
theorem evalEntryStore_hs {H H' : Heap} {x s v : V} (hw : Hwf H) (h : evalEntryStore H x s v = some H') : HS false H H' := by
  unfold evalEntryStore at h
  split at h
  · split at h
    · rename_i hk
      split at h
      · cases h; exact HS.put hw hk
      · exact absurd h (by simp)
    · exact absurd h (by simp)
  · exact absurd h (by simp)

theorem evalNext_hs {H : Heap} {x : V} {s : Bool} {L : List (V × Heap)} (hw : Hwf H) (h : evalNext H x s = some L) : ∀ r, r ∈ L → HS false H r.2 := by
  unfold evalNext at h
  split at h
  · split at h
    · rename_i hk
      split at h
      · cases h; intro r hr; simp at hr; subst hr; exact HS.put hw hk
      · cases h; intro r hr; simp at hr; subst hr; exact HS.refl hw
    · cases h; intro r hr; simp at hr; subst hr; exact HS.refl hw
    · rename_i hk
      split at h
      · split at h
        · exact absurd h (by simp)
        · cases h
          intro r hr
          rcases List.mem_append.1 hr with hr | hr
          · split at hr
            · simp at hr; subst hr; exact HS.put hw hk
            · simp at hr
          · obtain ⟨e, _, rfl⟩ := List.mem_map.1 hr
            exact HS.put hw hk
      · exact absurd h (by simp)
    · exact absurd h (by simp)
  · exact absurd h (by simp)

def softV : V → Bool
  | .list _ _ (.own _ _) | .sli _ _ _ (.own _ _) | .mslice .. | .vslice .. => false
  | _ => true

theorem appendBox_hs {H H' : Heap} {cs : List V} {b off len sz : Nat} {news : List (List V)} {place v : V} {kc : Nat} {dead : Bool} (hw : Hwf H) (hk : H.get b = some (.cells cs)) (h : appendBox H cs b off len sz news place kc dead = some (v, H')) : HS false H H' := by
  unfold appendBox at h
  split at h
  · exact absurd h (by simp)
  · split at h
    · split at h
      · cases h; exact HS.put hw hk
      · exact absurd h (by simp)
    · obtain ⟨H2, hn, he⟩ := Option.map_eq_some_iff.1 h
      cases he
      cases dead with
      | false => exact ⟨(HS.new hw hn (s := false)).1, fun hs => by simp at hs⟩
      | true =>
        have h1 := HG.put (x := .tail false) hw hk
        exact ⟨h1.trans (HS.new h1.wf hn (s := false)).1, fun hs => by simp at hs⟩

theorem appendList_hs {tb : Tb} {H H' : Heap} {e : TypeId} {sz : Nat} {nl : Bool} {es : List (List V)} {tok : Tok} {news : List (List V)} {v : V} (hw : Hwf H) {lin : Bool} (h : appendList lin tb H e sz nl es tok news = some (v, H')) : HS (softV (.list nl es tok)) H H' := by
  unfold appendList at h
  split at h
  · exact absurd h (by simp)
  · split at h
    · cases h; exact HS.refl hw
    · split at h
      · split at h
        · obtain ⟨H2, hn, he⟩ := Option.map_eq_some_iff.1 h
          cases he
          exact HS.new hw hn
        · split at h
          · obtain ⟨H2, hn, he⟩ := Option.map_eq_some_iff.1 h
            cases he
            exact HS.new hw hn
          · exact absurd h (by simp)
      · rename_i htok
        split at h
        · rename_i hk
          split at h
          · obtain ⟨H2, hn, he⟩ := Option.map_eq_some_iff.1 h
            cases he
            have h1 := HG.put (x := .tail false) hw hk
            refine ⟨h1.trans (HS.new h1.wf hn (s := false)).1, fun hs => ?_⟩
            split at htok
            · exact absurd htok (by simp)
            · subst htok; simp [softV] at hs
          · exact absurd h (by simp)
        · exact absurd h (by simp)
      · exact absurd h (by simp)

theorem evalAppend0_hs {tb : Tb} {H H' : Heap} {T1 T2 : TypeId} {s x v : V} (hw : Hwf H) (h : evalAppend0 tb H T1 T2 s x = some (v, H')) : HS (softV s) H H' := by
  unfold evalAppend0 at h
  split at h
  · simp only [Option.bind_eq_bind, Option.bind_eq_some_iff] at h
    obtain ⟨sz, hsz, by_, hby, z, hz, news, hnews, h⟩ := h
    split at h
    · exact absurd h (by simp)
    · unfold appendTo at h
      split at h
      · split at h
        · exact absurd h (by simp)
        · exact appendList_hs hw h
      · split at h
        · exact absurd h (by simp)
        · split at h
          · cases h; exact HS.refl hw
          · split at h
            · rename_i hk
              exact appendBox_hs hw hk h
            · exact absurd h (by simp)
      · split at h
        · exact absurd h (by simp)
        · split at h
          · cases h; exact HS.refl hw
          · split at h
            · rename_i hk
              split at h
              · exact appendBox_hs hw hk h
              · exact absurd h (by simp)
            · exact absurd h (by simp)
      · exact absurd h (by simp)
  · exact absurd h (by simp)

theorem growTok_hs {H H' : Heap} {sz : Nat} {tok : Tok} {b : Bool} (hw : Hwf H) (hb : b = true → ∀ i j, tok ≠ .own i j) (h : growTok H sz tok = some H') : HS b H H' := by
  unfold growTok at h
  split at h
  · exact HS.new hw h
  · rename_i i j
    split at h
    · rename_i hk
      split at h
      · have h1 := HG.put (x := .tail false) hw hk
        exact ⟨h1.trans (HS.new h1.wf h (s := false)).1, fun hs => absurd rfl (hb hs i j)⟩
      · exact absurd h (by simp)
    · exact absurd h (by simp)
  · exact absurd h (by simp)
theorem evalAppend_hs {tb : Tb} {H H' : Heap} {T1 T2 : TypeId} {s x v : V} (hw : Hwf H) (h : evalAppend tb H T1 T2 s x = some (v, H')) : HS (softV s) H H' := by
  unfold evalAppend at h
  split at h
  · unfold evalAppendS at h
    obtain ⟨r, hr, h⟩ := Option.map_eq_some_iff.1 h
    obtain ⟨k, sz, q, hsl, hg⟩ := appendS_grow hr
    have hgs : HS (softV s) H r.2.2 := growTok_hs hw (fun hs i j ht => by
      obtain ⟨nl, e, tok⟩ := q
      simp only at ht
      subst ht
      unfold toSli at hsl
      split at hsl
      · split at hsl
        · cases hsl; simp [softV] at hs
        · exact absurd hsl (by simp)
      · simp at hsl
      · obtain ⟨e3, _, h4⟩ := Option.map_eq_some_iff.1 hsl
        cases h4
        simp [softV] at hs
      · exact absurd hsl (by simp)) hg
    split at h
    · split at h
      · cases h; exact HS.refl hw
      · have e : r.2.2 = H' := by rw [h]
        exact e ▸ hgs
    · have e : r.2.2 = H' := by rw [h]
      exact e ▸ hgs
  · exact evalAppend0_hs hw h

theorem evalCopy_hs {tb : Tb} {H H' : Heap} {T1 T2 : TypeId} {d x v : V} (hw : Hwf H) (h : evalCopy tb H T1 T2 d x = some (v, H')) : HS false H H' := by
  unfold evalCopy at h
  split at h
  · simp only [Option.bind_eq_some_iff] at h
    obtain ⟨sz, hsz, by_, hby, z, hz, h⟩ := h
    split at h
    · obtain ⟨xs, hxs, h⟩ := Option.bind_eq_some_iff.1 h
      have go : ∀ {b off len : Nat}, copyBox H sz xs b off len = some (v, H') → HS false H H' := by
        intro b off len h
        unfold copyBox at h
        split at h
        · rename_i hk
          split at h
          · cases h; exact HS.put hw hk
          · exact absurd h (by simp)
        · exact absurd h (by simp)
      unfold copyTo at h
      split at h
      · cases h; exact HS.refl hw
      · exact go h
      · split at h
        · cases h; exact HS.refl hw
        · exact go h
      · exact absurd h (by simp)
    · exact absurd h (by simp)
  · exact absurd h (by simp)

theorem evalClear_hs {tb : Tb} {H H' : Heap} {T : TypeId} {x : V} (hw : Hwf H) (h : evalClear tb H T x = some H') : HS false H H' := by
  unfold evalClear at h
  split at h
  · simp only [Option.bind_eq_bind, Option.bind_eq_some_iff] at h
    obtain ⟨sz, hsz, z, hz, h⟩ := h
    have go : ∀ {b off len : Nat}, (match H.get b with
      | some (.cells cs) => if z.cells.length = sz && off + len * sz ≤ cs.length then some (H.put b (.cells (cs.take off ++ (List.replicate len z.cells).flatten ++ cs.drop (off + len * sz)))) else none
      | _ => none) = some H' → HS false H H' := by
      intro b off len h
      split at h
      · rename_i hk
        split at h
        · cases h; exact HS.put hw hk
        · exact absurd h (by simp)
      · exact absurd h (by simp)
    split at h
    · cases h; exact HS.refl hw
    · split at h
      · cases h; exact HS.refl hw
      · exact go h
    · split at h
      · cases h; exact HS.refl hw
      · exact go h
    · exact absurd h (by simp)
  · exact absurd h (by simp)

theorem evalMem_hs {tb : Tb} {env : Env} {H : Heap} {o : Op} {L : List (V × Heap)} (hw : Hwf H) (h : evalMem tb env H o = some L) : ∀ r, r ∈ L → HS (softOp tb env o) H r.2 := by
  have one : ∀ {v : V} {H' : Heap} {s : Bool}, L = [(v, H')] → HS s H H' → ∀ r, r ∈ L → HS s H r.2 := fun e hle r hr => by subst e; simp at hr; subst hr; exact hle
  unfold evalMem at h
  split at h
  · simp only [Option.bind_eq_bind, Option.bind_eq_some_iff] at h
    obtain ⟨z, hz, h⟩ := h
    obtain ⟨⟨v, H'⟩, hb, rfl⟩ := Option.map_eq_some_iff.1 h
    exact one rfl (newBox_hs hw hb)
  · obtain ⟨⟨v, H'⟩, hb, rfl⟩ := Option.map_eq_some_iff.1 h
    exact one rfl (newBox_hs hw hb)
  · obtain ⟨v, hb, rfl⟩ := Option.map_eq_some_iff.1 h
    exact one rfl (HS.refl hw)
  · obtain ⟨H', hb, rfl⟩ := Option.map_eq_some_iff.1 h
    exact one rfl (evalStore_hs hw hb)
  · obtain ⟨H', hb, rfl⟩ := Option.map_eq_some_iff.1 h
    exact one rfl (HS.new hw hb)
  · obtain ⟨⟨v, H'⟩, hb, rfl⟩ := Option.map_eq_some_iff.1 h
    exact one rfl (evalMakeSlice_hs hw hb)
  · obtain ⟨v, hb, rfl⟩ := Option.map_eq_some_iff.1 h
    exact one rfl (HS.refl hw)
  · obtain ⟨H', hb, rfl⟩ := Option.map_eq_some_iff.1 h
    exact one rfl (evalMapUpdate_hs hw hb)
  · obtain ⟨v, hb, rfl⟩ := Option.map_eq_some_iff.1 h
    exact one rfl (HS.refl hw)
  · obtain ⟨⟨v, H'⟩, hb, rfl⟩ := Option.map_eq_some_iff.1 h
    exact one rfl (evalMapEntry_hs hw hb)
  · obtain ⟨H', hb, rfl⟩ := Option.map_eq_some_iff.1 h
    exact one rfl (evalEntryStore_hs hw hb)
  · obtain ⟨⟨v, H'⟩, hb, rfl⟩ := Option.map_eq_some_iff.1 h
    exact one rfl (evalRange_hs hw hb)
  · exact evalNext_hs hw h
  · split at h
    · split at h
      · split at h
        · cases h; exact one rfl (HS.refl hw)
        · exact absurd h (by simp)
      · obtain ⟨v, hb, rfl⟩ := Option.map_eq_some_iff.1 h
        exact one rfl (HS.refl hw)
    · exact absurd h (by simp)
  · split at h
    · rename_i hargs _
      obtain ⟨⟨v, H'⟩, hb, rfl⟩ := Option.map_eq_some_iff.1 h
      refine one rfl ?_
      have := evalAppend_hs hw hb
      unfold softOp
      simp only [hargs]
      exact this
    · exact absurd h (by simp)
  · split at h
    · obtain ⟨H', hb, rfl⟩ := Option.map_eq_some_iff.1 h
      exact one rfl (evalDelete_hs hw hb)
    · exact absurd h (by simp)
  · split at h
    · obtain ⟨⟨v, H'⟩, hb, rfl⟩ := Option.map_eq_some_iff.1 h
      exact one rfl (evalCopy_hs hw hb)
    · exact absurd h (by simp)
  · split at h
    · obtain ⟨H', hb, rfl⟩ := Option.map_eq_some_iff.1 h
      exact one rfl (evalClear_hs hw hb)
    · exact absurd h (by simp)
  · split at h
    · obtain ⟨v, hb, rfl⟩ := Option.map_eq_some_iff.1 h
      exact one rfl (HS.refl hw)
    · exact absurd h (by simp)
  · exact absurd h (by simp)

theorem upTab_get {lo hi : Nat} : ∀ (l : List (Nat × Blk)) (t : Tr Blk) (b : Nat), (upTab lo hi l t).get b = t.get b ∨ (lo ≤ b ∧ b < hi)
  | [], t, b => .inl rfl
  | q :: l, t, b => by
    simp only [upTab]
    rcases upTab_get (lo := lo) (hi := hi) l (if Nat.ble lo q.1 && Nat.blt q.1 hi then t.set q.1 q.2 else t) b with h | h
    · rw [h]
      split
      · rename_i hc
        rw [Bool.and_eq_true] at hc
        have h1 := Nat.le_of_ble_eq_true hc.1
        have h2 := Nat.le_of_ble_eq_true hc.2
        by_cases hb : b = q.1
        · exact .inr (by omega)
        · rw [Tr.get_set, if_neg hb]; exact .inl rfl
      · exact .inl rfl
    · exact .inr h
theorem Heap.up_hg {H : Heap} (hw : Hwf H) (ds : List (Nat × Blk)) (nx : Nat) : HG H (H.up ds nx) where
  wf := ⟨trivial, fun b k hk => by
    have hk : (upTab H.base (max H.next nx) ds H.tab).get b = some k := hk
    show b < max H.next nx
    rcases upTab_get ds H.tab b with h | h
    · rw [h] at hk
      exact Nat.lt_of_lt_of_le (hw.2.1 b k hk) (Nat.le_max_left _ _)
    · exact h.2, Nat.le_trans hw.2.2 (Nat.le_max_left _ _)⟩
  next := Nat.le_max_left _ _
  base := rfl
  low := fun b hb => hb
  same := fun b hb _ => by
    show (upTab H.base (max H.next nx) ds H.tab).get b = H.tab.get b
    rcases upTab_get ds H.tab b with h | h
    · exact h
    · omega
theorem OTree.eval_hg {ρ : Nat → Value} {H : Heap} (hw : Hwf H) : ∀ t : OTree, HG H (t.eval ρ H).2.h
  | .leaf e env ds nx => Heap.up_hg hw ds nx
  | .node c a b => by
    unfold OTree.eval
    split
    · exact OTree.eval_hg hw a
    · exact OTree.eval_hg hw b

/-- Calls keep heaps in order. -/
def Stat (cl : CallFn) : Prop := ∀ f args H L, Hwf H → cl f args H = some L → ∀ r, r ∈ L → HG H r.2

theorem back_hs {H H' : Heap} (hw : Hwf H) (h : HG { H with base := H.next, low := none } H') : HS (!H'.low.isSome) H (back H H') := by
  refine ⟨⟨⟨h.wf.1, h.wf.2.1, Nat.le_trans hw.2.2 h.next⟩, h.next, rfl, fun b hb => ?_, fun b hb hl => ?_⟩, fun hs => ⟨h.next, rfl, ?_, fun b hb => ?_⟩⟩
  · show lowGe (match H'.low with | some l => if l < H.base then some (match H.low with | some m => min m l | none => l) else H.low | none => H.low) b
    cases hl : H'.low with
    | none => exact hb
    | some l =>
      simp only
      split
      · cases hm : H.low with
        | none => rw [hm] at hb; exact hb.elim
        | some m => rw [hm] at hb; simp only [lowGe] at *; omega
      · exact hb
  · refine h.same b (show b < H.next from Nat.lt_of_lt_of_le hb hw.2.2) (fun hh => hl ?_)
    show lowGe (match H'.low with | some l => if l < H.base then some (match H.low with | some m => min m l | none => l) else H.low | none => H.low) b
    cases hl2 : H'.low with
    | none => rw [hl2] at hh; exact hh.elim
    | some l =>
      rw [hl2] at hh
      simp only [lowGe] at hh
      simp only
      rw [if_pos (by omega)]
      cases hm : H.low with
      | none => simp only [lowGe]; omega
      | some m => simp only [lowGe]; omega
  · show (match H'.low with | some l => if l < H.base then some (match H.low with | some m => min m l | none => l) else H.low | none => H.low) = H.low
    cases hl : H'.low with
    | none => rfl
    | some l => rw [hl] at hs; simp at hs
  · refine h.same b hb (fun hh => ?_)
    cases hl : H'.low with
    | none => rw [hl] at hh; exact hh.elim
    | some l => rw [hl] at hs; simp at hs

theorem boxed_stat {cl : CallFn} (hc : Stat cl) (tb : Tb) : Stat (boxed cl tb) := by
  intro f args H L hw h
  unfold boxed at h
  split at h
  · simp only [Option.bind_eq_some_iff] at h
    obtain ⟨M, hM, h⟩ := h
    split at h
    · cases h
      intro r hr
      obtain ⟨q, _, rfl⟩ := List.mem_map.1 hr
      exact HG.refl hw
    · exact absurd h (by simp)
  · exact hc _ _ _ _ hw h

theorem one_stat {cl : CallFn} (hc : Stat cl) (tb : Tb) : Stat (callOne cl tb) := by
  intro f args H L hw h
  unfold callOne at h
  split at h
  · cases h
    intro r hr
    rw [List.mem_singleton.1 hr]
    exact HG.refl hw
  · exact boxed_stat hc tb _ _ _ _ hw h

theorem evalOp_hs {cl : CallFn} (hc : Stat cl) {P : Program} {tb : Tb} {env : Env} {H : Heap} {o : Op} {L : List (V × Heap × Bool)} (hw : Hwf H) (h : evalOp cl P tb env H o = some L) : ∀ r, r ∈ L → HS (!r.2.2) H r.2.1 := by
  unfold evalOp at h
  split at h
  · obtain ⟨v, _, rfl⟩ := Option.map_eq_some_iff.1 h
    intro r hr; simp at hr; subst hr; exact HS.refl hw
  · split at h
    · obtain ⟨M, hM, rfl⟩ := Option.map_eq_some_iff.1 h
      intro r hr
      obtain ⟨q, hq, rfl⟩ := List.mem_map.1 hr
      unfold evalCall at hM
      simp only at hM
      split at hM
      · split at hM
        · exact back_hs hw (one_stat hc tb _ _ { H with base := H.next, low := none } _ ⟨hw.1, hw.2.1, Nat.le_refl _⟩ hM q hq)
        · exact absurd hM (by simp)
      · exact back_hs hw (hc _ _ { H with base := H.next, low := none } _ ⟨hw.1, hw.2.1, Nat.le_refl _⟩ hM q hq)
      · exact absurd hM (by simp)
    · obtain ⟨M, hM, rfl⟩ := Option.map_eq_some_iff.1 h
      intro r hr
      obtain ⟨q, hq, rfl⟩ := List.mem_map.1 hr
      have := evalMem_hs hw hM q hq
      simpa using this

theorem execOps_hg {cl : CallFn} (hc : Stat cl) {P : Program} {tb : Tb} {ops : Array Oper} : ∀ {l : List Oper} {i : Nat} {hard : Marks} {st : St} {L : List (St × Marks)}, Hwf st.h → execOps cl P tb ops l i hard st = some L → ∀ r, r ∈ L → HG st.h r.1.h
  | [], i, hard, st, L, hw, h => by
    simp only [execOps, Option.some.injEq] at h
    subst h
    intro r hr; simp at hr; subst hr; exact HG.refl hw
  | o :: l, i, hard, st, L, hw, h => by
    simp only [execOps] at h
    split at h
    · exact absurd h (by simp)
    · intro r hr
      exact execOps_hg hc (st := { st with env := putT st.env o.dst V.undef }) hw h r hr
    · simp only [Option.bind_eq_some_iff] at h
      obtain ⟨M, hM, h⟩ := h
      intro r hr
      obtain ⟨q, hq, Lq, hLq, hrq⟩ := bindL_out h r hr
      have h1 := (evalOp_hs hc hw hM q hq).1
      exact h1.trans (execOps_hg hc (st := { env := putT st.env o.dst q.1, h := q.2.1 }) h1.wf hLq r hrq)

theorem forget_hg {tb : Tb} {c : Nat} {H : Heap} {st : St} (h : HG H st.h) : HG H (forget tb c st).h := by
  rcases forget_h tb c st with e | ⟨env, e⟩ <;> rw [e]
  · exact h
  · have hn : st.h.next ≤ (st.h.sweep env).next := le_roundUp _
    refine ⟨⟨trivial, fun b k hk => ?_, Nat.le_trans h.wf.2.2 hn⟩, Nat.le_trans h.next hn, h.base, h.low, fun b hb hl => ?_⟩
    · rcases sweep_get st.h env b with e1 | ⟨e1, _⟩
      · exact Nat.lt_of_lt_of_le (h.wf.2.1 b k (by rw [← e1]; exact hk)) hn
      · rw [e1] at hk; exact absurd hk (by simp)
    · rcases sweep_get st.h env b with e1 | ⟨_, e2⟩
      · rw [e1]; exact h.same b hb hl
      · have := h.base; omega

theorem rangeFuncV_hg {cl : CallFn} (hc : Stat cl) {tb : Tb} {g : Operand} {ps : Array Tmp} {asg body : Code} {st : St} {L : List (Ex × St)} (hw : Hwf st.h) (h : rangeFuncV cl tb g ps asg body st = some L) : ∀ r, r ∈ L → HG st.h r.2.h := by
  obtain ⟨_, gf, first, captured, H1, M, _, _, hH1, hM, hL⟩ := rangeFuncV_out h
  intro r hr
  obtain ⟨q, hq, Lq, hLq, hrq⟩ := bindL_out hL r hr
  obtain ⟨_, _, _, _, _, _, e, hk, _, _, rfl⟩ := endLoopV_out hLq
  rw [List.mem_singleton.1 hrq]
  have h1 := (HS.new (s := false) hw hH1).1
  have h2 := (back_hs h1.wf (hc _ _ { H1 with base := H1.next, low := none } _ ⟨h1.wf.1, h1.wf.2.1, Nat.le_refl _⟩ hM q hq)).1
  exact (h1.trans h2).trans (HG.put h2.wf hk)

theorem stepC_hg {cl : CallFn} (hc : Stat cl) {P : Program} {tb : Tb} {ih : Tk → St → Option (List (Ex × St))} (hi : ∀ tk st L, Hwf st.h → ih tk st = some L → ∀ r, r ∈ L → HG st.h r.2.h) {tk : Tk} {st : St} {L : List (Ex × St)} (hw : Hwf st.h) (h : stepC cl P tb ih tk st = some L) : ∀ r, r ∈ L → HG st.h r.2.h := by
  have one : ∀ {e : Ex}, L = [(e, st)] → ∀ r, r ∈ L → HG st.h r.2.h := fun e r hr => by subst e; simp at hr; subst hr; exact HG.refl hw
  unfold stepC at h
  split at h
  · cases h; exact one rfl
  · cases h; exact one rfl
  · simp only [Option.bind_eq_some_iff] at h
    obtain ⟨M, hM, h⟩ := h
    have : ∀ r, r ∈ (M.map fun r => (Ex.normal, r.1)) → HG st.h r.2.h := fun r hr => by
      obtain ⟨q, hq, rfl⟩ := List.mem_map.1 hr
      exact execOps_hg hc hw hM q hq
    split at h
    · split at h
      · cases h; exact this
      · exact absurd h (by simp)
    · cases h; exact this
  · simp only [Option.bind_eq_some_iff] at h
    obtain ⟨M, hM, h⟩ := h
    intro r hr
    obtain ⟨q, hq, Lq, hLq, hrq⟩ := bindL_out h r hr
    have h1 := hi _ _ _ hw hM q hq
    split at hLq
    · exact (forget_hg h1).trans (hi _ _ _ (forget_hg h1).wf hLq r hrq)
    · cases hLq; simp at hrq; subst hrq; exact h1
  · split at h
    · split at h
      · exact hi _ _ _ hw h
      · exact hi _ _ _ hw h
    · exact absurd h (by simp)
  · obtain ⟨M, hM, rfl⟩ := Option.map_eq_some_iff.1 h
    intro r hr
    obtain ⟨q, hq, rfl⟩ := List.mem_map.1 hr
    exact hi _ _ _ hw hM q hq
  · split at h
    · cases h
      intro r hr
      rw [List.mem_singleton.1 hr]
      exact OTree.eval_hg hw _
    simp only [Option.bind_eq_some_iff] at h
    obtain ⟨M, hM, h⟩ := h
    intro r hr
    obtain ⟨q, hq, Lq, hLq, hrq⟩ := bindL_out h r hr
    have h1 := hi _ _ _ hw hM q hq
    split at hLq
    · exact (forget_hg h1).trans (hi _ _ _ (forget_hg h1).wf hLq r hrq)
    · cases hLq; simp at hrq; subst hrq; exact h1
  · cases h; exact one rfl
  · cases h; exact one rfl
  · cases h; exact one rfl
  · exact rangeFuncV_hg hc hw h
  · exact hi _ _ _ hw h
  · simp only [Option.bind_eq_some_iff] at h
    obtain ⟨M, hM, h⟩ := h
    intro r hr
    obtain ⟨q, hq, Lq, hLq, hrq⟩ := bindL_out h r hr
    have h1 := hi _ _ _ hw hM q hq
    split at hLq
    · split at hLq
      · exact h1.trans (hi _ _ _ h1.wf hLq r hrq)
      · cases hLq; simp at hrq; subst hrq; exact h1
    · cases hLq; simp at hrq; subst hrq; exact h1
  · exact absurd h (by simp)

theorem exec_hg {cl : CallFn} (hc : Stat cl) {P : Program} {tb : Tb} : ∀ (n : Nat) (tk : Tk) (st : St) (L : List (Ex × St)), Hwf st.h → exec cl P tb n tk st = some L → ∀ r, r ∈ L → HG st.h r.2.h
  | 0, tk, st, L, hw, h => by simp [exec] at h
  | n + 1, tk, st, L, hw, h => stepC_hg hc (exec_hg hc n) hw h

theorem stepRound_stat {cl : CallFn} (hc : Stat cl) {P : Program} {tb : Tb} (n : Nat) {k : Nat} {args : List V} {H : Heap} {L : List (V × Heap)} (hw : Hwf H) (h : stepRound (exec cl P tb n) k args H = some L) : ∀ r, r ∈ L → HG H r.2 := by
  obtain ⟨env, ps, asg, body, s, pend, M, hk, hl, hM, hL⟩ := stepRound_out h
  intro r hr
  obtain ⟨q, hq, Lq, hLq, hrq⟩ := bindL_out hL r hr
  have h1 := exec_hg hc _ _ (⟨_, H⟩ : St) _ hw hM q hq
  obtain ⟨_, env, ps, asg, body, pend, M2, hk2, hM2, hL2⟩ := bodyRoundV_out hLq
  obtain ⟨q2, hq2, Lx, hLx, hrx⟩ := bindL_out hL2 r hrq
  obtain ⟨_, _, _, _, _, _, hk3, rfl⟩ := endRoundV_out hLx
  rw [List.mem_singleton.1 hrx]
  have h2 := HG.put (x := .loop env ps asg body .busy pend) h1.wf hk2
  have h3 := exec_hg hc _ _ (⟨_, _⟩ : St) _ h2.wf hM2 q2 hq2
  exact ((h1.trans h2).trans h3).trans (HG.put h3.wf hk3)

theorem stepCall_stat {cl : CallFn} (hc : Stat cl) {P : Program} {tb : Tb} (n : Nat) : Stat (stepCall P tb n cl) := by
  intro f args H L hw h
  unfold stepCall at h
  split at h
  · exact stepRound_stat hc n hw h
  split at h
  · cases h
    intro r hr
    rw [List.mem_singleton.1 hr]
    exact HG.refl hw
  repeat' split at h
  all_goals first | (cases h; done) | skip
  simp only [Option.bind_eq_some_iff] at h
  obtain ⟨M, hM, h⟩ := h
  intro r hr
  obtain ⟨q, hq, Lq, hLq, hrq⟩ := bindL_out h r hr
  have h1 := exec_hg hc _ _ _ _ hw hM q hq
  split at hLq
  · obtain ⟨v, _, rfl⟩ := Option.map_eq_some_iff.1 hLq
    simp at hrq; subst hrq; exact h1
  · obtain ⟨v, _, rfl⟩ := Option.map_eq_some_iff.1 hLq
    simp at hrq; subst hrq; exact h1
  · exact absurd hLq (by simp)

theorem stepCallM_stat {cl : CallFn} (hc : Stat cl) {P : Program} {tb : Tb} (n : Nat) : Stat (stepCallM P tb n cl) := by
  intro f args H L hw h
  obtain ⟨M, hM, rfl⟩ := Option.map_eq_some_iff.1 h
  exact fun r hr => stepCall_stat hc n f args H M hw hM r (mergeL_sub hr)

theorem call_stat {P : Program} {tb : Tb} : ∀ n, Stat (call P tb n)
  | 0 => by intro f args H L hw h; simp [call] at h
  | n + 1 => stepCallM_stat (call_stat n) n

/-! ### Who waits for whom -/
inductive Waits (ops : Array Oper) : Nat → Nat → Prop
  | one {j : Nat} {o : Oper} {e : Edge} : ops[j]? = some o → e ∈ o.after → Region.binds .any e = true → Waits ops j e.on
  | step {j i : Nat} {o : Oper} {e : Edge} : ops[j]? = some o → e ∈ o.after → Region.binds .any e = true → Waits ops e.on i → Waits ops j i

theorem before_waits (ops : Array Oper) : ∀ j i, ((Region.before ops).getD j 0).testBit i = true → Waits ops j i := by
  unfold Region.before
  refine (Array.foldl_induction (motive := fun k (acc : Array Nat) => acc.size = k ∧ ∀ j i, (acc.getD j 0).testBit i = true → Waits ops j i) ⟨rfl, fun j i h => ?_⟩ ?_).2
  · simp at h
  · rintro ⟨k, hk⟩ acc ⟨hs, ha⟩
    have hs' : acc.size = k := hs
    refine ⟨by simp [hs'], fun j i h => ?_⟩
    rw [Array.getD_eq_getD_getElem?, Array.getElem?_push] at h
    by_cases hj : j = acc.size
    · rw [if_pos hj] at h
      have hjk : j = k := hj.trans hs'
      subst hjk
      simp only [Option.getD_some] at h
      have hops : ops[j]? = some ops[j] := Array.getElem?_eq_getElem hk
      revert i
      refine Array.foldl_induction (as := ops[j].after) (motive := fun _ (s : Nat) => ∀ i, s.testBit i = true → Waits ops j i) (fun i h => by simp at h) ?_
      rintro ⟨m, hm⟩ s ih i h
      have h : (if Region.binds .any ops[j].after[m] = true then s ||| 2 ^ ops[j].after[m].on ||| acc.getD ops[j].after[m].on 0 else s).testBit i = true := h
      split at h
      · rename_i hb
        rw [Nat.testBit_or, Nat.testBit_or, Bool.or_eq_true, Bool.or_eq_true] at h
        rcases h with (h | h) | h
        · exact ih i h
        · rw [Nat.testBit_two_pow] at h
          have : ops[j].after[m].on = i := by simpa using h
          rw [← this]
          exact .one hops (Array.getElem_mem hm) hb
        · exact .step hops (Array.getElem_mem hm) hb (ha _ i h)
      · exact ih i h
    · rw [if_neg hj, ← Array.getD_eq_getD_getElem?] at h
      exact ha j i h

/-- What has been taken: with each, what it waits for. -/
def Down (ops : Array Oper) (listed : Array Bool) : Prop := ∀ j o, ops[j]? = some o → listed.getD j false = true → ∀ e, e ∈ o.after → Region.binds .any e = true → listed.getD e.on false = true

theorem Down.waits {ops : Array Oper} {listed : Array Bool} (h : Down ops listed) {j i : Nat} (hw : Waits ops j i) : listed.getD j false = true → listed.getD i false = true := by
  induction hw with
  | one ho he hb => exact fun hj => h _ _ ho hj _ he hb
  | step ho he hb _ ih => exact fun hj => ih (h _ _ ho hj _ he hb)

theorem Down.ready {ops : Array Oper} {listed : Array Bool} (h : Down ops listed) {j i : Nat} (hr : j ∈ Region.ready .any ops listed) (hw : Waits ops j i) : listed.getD i false = true := by
  obtain ⟨_, o, ho, hall⟩ := mem_ready.1 hr
  cases hw with
  | one ho' he hb => rw [ho] at ho'; cases ho'; exact hall _ he hb
  | step ho' he hb hw => rw [ho] at ho'; cases ho'; exact h.waits hw (hall _ he hb)

theorem Down.set {ops : Array Oper} {listed : Array Bool} (h : Down ops listed) {j : Nat} (hr : j ∈ Region.ready .any ops listed) : Down ops (listed.setIfInBounds j true) := by
  intro k o ho hk e he hb
  by_cases hkj : k = j
  · subst hkj
    obtain ⟨_, o', ho', hall⟩ := mem_ready.1 hr
    rw [ho] at ho'; cases ho'
    exact getD_set_true (hall e he hb)
  · rw [getD_set_ne false (Ne.symm hkj)] at hk
    exact getD_set_true (h k o ho hk e he hb)

theorem ordered_waits {ops : Array Oper} {i j : Nat} (h : ordered (CheckFast.beforeF ops) i j = true) : (i < j → Waits ops j i) ∧ (j < i → Waits ops i j) := by
  unfold ordered at h
  rw [CheckFast.beforeF_eq] at h
  have := before_waits ops _ _ h
  refine ⟨fun hl => ?_, fun hl => ?_⟩
  · rwa [Nat.max_eq_right (Nat.le_of_lt hl), Nat.min_eq_left (Nat.le_of_lt hl)] at this
  · rwa [Nat.max_eq_left (Nat.le_of_lt hl), Nat.min_eq_right (Nat.le_of_lt hl)] at this

end
end Go.Sx
