/- Steps of the abstract heap: new blocks, writes, and how they follow one another. -/
import Derived.Test.YtaidiaiedhbaoaaSx2
import Derived.Laws.CopyRow
/- Steps of the abstract heap: new blocks, writes, and how they follow one another. -/
set_option linter.unusedVariables false
namespace Go.Sx
noncomputable section

theorem CellsRel.mono {φ φ' : Froz} {γ γ' : Place} {cs : List V} {arr : Array Value} (hφ : FLe φ φ') (hγ : PLe γ γ') (h : CellsRel φ γ cs arr) : CellsRel φ' γ' cs arr :=
  ⟨h.1, fun j v hj => ⟨(h.2 j v hj).1, (h.2 j v hj).2.mono hφ hγ⟩⟩

theorem EntryRel.mono {φ φ' : Froz} {γ γ' : Place} {e : Value × V × Nat} {m : MapEntry} (hφ : FLe φ φ') (hγ : PLe γ γ') (h : EntryRel φ γ e m) : EntryRel φ' γ' e m :=
  ⟨h.1, h.2.1, h.2.2.1, h.2.2.2.mono hφ hγ⟩

theorem BlkRel.mono {φ φ' : Froz} {γ γ' : Place} {w w' : World} {x : Nat × Nat × Nat} {k : Blk} (hφ : FLe φ φ') (hγ : PLe γ γ') (hw : k.solid = true → w'.heap[x.1]? = w.heap[x.1]?) (h : BlkRel φ γ w x k) : BlkRel φ' γ' w' x k := by
  cases k with
  | cells cs =>
    obtain ⟨arr, T, h1, h2, h3, h4⟩ := h
    exact ⟨arr, T, (hw rfl).trans h1, h2, h3, fun j v hj => ⟨(h4 j v hj).1, (h4 j v hj).2.mono hφ hγ⟩⟩
  | tail live =>
    cases live with
    | false => trivial
    | true =>
      obtain ⟨arr, T, h1, h2⟩ := h
      exact ⟨arr, T, (hw rfl).trans h1, h2⟩
  | map es clock =>
    obtain ⟨ms, h1, h2, h3⟩ := h
    exact ⟨ms, (hw rfl).trans h1, h2, fun j e hj => (h3 j e hj).mono hφ hγ⟩
  | siter s pos => exact ⟨h.1, (hw rfl).trans h.2⟩
  | miter m since seen stepped =>
    obtain ⟨h0, cm, h1, h2⟩ := h
    refine ⟨h0, cm, (hw rfl).trans h1, ?_⟩
    cases m with
    | none => exact h2
    | some b =>
      obtain ⟨y, hy, he⟩ := h2
      exact ⟨y, hγ _ _ hy, he⟩
  | loop env ps asg body st pend =>
    obtain ⟨h0, r, h1, h2⟩ := h
    exact ⟨h0, r, (hw rfl).trans h1, { h2 with rel := fun t => (h2.rel t).mono hφ hγ }⟩

theorem cell_lt {w : World} {b o : Nat} {v : Value} (h : w.cell? ⟨b, o, none⟩ = some v) : b < w.heap.size := World.block_lt_of_cell? w _ h

theorem cell_alloc {w : World} {b o : Nat} {v : Value} (ob : Obj) (h : w.cell? ⟨b, o, none⟩ = some v) : (w.alloc ob).cell? ⟨b, o, none⟩ = some v := by
  have hl := cell_lt h
  rw [← h]
  exact World.cell?_of_block (w := w) (Go.RowKit.Below.heap_alloc w ob b hl)

/-- A world of the same heap. -/
theorem Rel.heap {N : Nat} {φ : Froz} {γ : Place} {H : Heap} {w w' : World} (h : Rel N φ γ H w) (e : w'.heap = w.heap) : Rel N φ γ H w' := by
  have hc : ∀ a, w'.cell? a = w.cell? a := fun a => by simp [World.cell?, e]
  exact ⟨e ▸ h.ge, h.keys, fun b o v hv => (hc _).trans (h.froz b o v hv), fun b x hx => e ▸ h.lt b x hx, fun b x k hx hk => (h.blk b x k hx hk).mono (FLe.refl _) (PLe.refl _) (fun _ => by rw [e]), h.free, h.inj⟩

theorem Step.heap {N : Nat} {φ φ' : Froz} {γ γ' : Place} {H H' : Heap} {w w' w2 : World} {T : Nat → Prop} (h : Step N φ γ H w φ' γ' H' w' T) (e : w2.heap = w'.heap) (eo : w2.os = w'.os) (et : w2.tape = w'.tape) (eu : w2.output = w'.output) :
    Step N φ γ H w φ' γ' H' w2 T :=
  { h with rel := h.rel.heap e, os := eo.trans h.os, tape := et.trans h.tape, output := eu.trans h.output, size := e ▸ h.size, fr := fun k hk ht => e ▸ h.fr k hk ht }

theorem Step.from {N : Nat} {φ φ' : Froz} {γ γ' : Place} {H H' : Heap} {w w' w0 : World} {T : Nat → Prop} (h : Step N φ γ H w φ' γ' H' w' T) (e : w.heap = w0.heap) (eo : w.os = w0.os) (et : w.tape = w0.tape) (eu : w.output = w0.output) :
    Step N φ γ H w0 φ' γ' H' w' T :=
  { h with os := h.os.trans eo, tape := h.tape.trans et, output := h.output.trans eu, size := e ▸ h.size, fr := fun k hk ht => e ▸ h.fr k (e ▸ hk) ht, dom := fun b x hx => e ▸ h.dom b x hx, fdom := fun c o v hv => e ▸ h.fdom c o v hv }

theorem Step.trans {N : Nat} {φ φ1 φ2 : Froz} {γ γ1 γ2 : Place} {H H1 H2 : Heap} {w w1 w2 : World} {T1 T2 : Nat → Prop} (h : Step N φ γ H w φ1 γ1 H1 w1 T1) (k : Step N φ1 γ1 H1 w1 φ2 γ2 H2 w2 T2) :
    Step N φ γ H w φ2 γ2 H2 w2 (fun b => T1 b ∨ T2 b) where
  fle := h.fle.trans k.fle
  ple := h.ple.trans k.ple
  rel := k.rel
  os := k.os.trans h.os
  tape := k.tape.trans h.tape
  output := k.output.trans h.output
  size := Nat.le_trans h.size k.size
  next := Nat.le_trans h.next k.next
  base := k.base.trans h.base
  fr := fun i hi ht => by
    rw [k.fr i (Nat.lt_of_lt_of_le hi h.size) (fun b x hx hT => ?_)]
    · exact h.fr i hi (fun b x hx hT => ht b x hx (.inl hT))
    · rcases h.dom b x hx with h0 | ⟨_, _, h0 | ⟨b0, y, hb0, hy, he⟩⟩
      · exact ht b x h0 (.inr hT)
      · omega
      · rw [← he]; exact ht b0 y hy (.inl hb0)
  dom := fun b x hx => by
    rcases k.dom b x hx with h0 | ⟨h2, h3, h0⟩
    · rcases h.dom b x h0 with h1 | ⟨h2, h3, h1⟩
      · exact .inl h1
      · refine .inr ⟨h2, Nat.lt_of_lt_of_le h3 k.next, ?_⟩
        rcases h1 with h1 | ⟨b0, y, hb0, hy, he⟩
        · exact .inl h1
        · exact .inr ⟨b0, y, .inl hb0, hy, he⟩
    · refine .inr ⟨Nat.le_trans h.next h2, h3, ?_⟩
      rcases h0 with h0 | ⟨b0, y, hb0, hy, he⟩
      · exact .inl (Nat.le_trans h.size h0)
      · rcases h.dom b0 y hy with h1 | ⟨_, _, h1 | ⟨b1, z, hb1, hz, he1⟩⟩
        · exact .inr ⟨b0, y, .inr hb0, h1, he⟩
        · exact .inl (he ▸ h1)
        · exact .inr ⟨b1, z, .inl hb1, hz, he1.trans he⟩
  tlt := fun b hb => by
    rcases hb with hb | hb
    · exact Nat.lt_of_lt_of_le (h.tlt b hb) k.next
    · exact k.tlt b hb
  low := fun b hb ht => by
    have hb' : b < H1.base := by rw [h.base]; exact hb
    rcases ht with ht | ht | ht
    · exact k.mono b (h.low b hb (.inl ht))
    · exact k.mono b (h.low b hb (.inr ht))
    · exact k.low b hb' (.inr ht)
  mono := fun b hb => k.mono b (h.mono b hb)
  fdom := fun c o v hv => by
    rcases k.fdom c o v hv with h0 | h0 | ⟨b0, y, hb0, hy, he⟩
    · rcases h.fdom c o v h0 with h1 | h1 | ⟨b1, z, hb1, hz, he1⟩
      · exact .inl h1
      · exact .inr (.inl h1)
      · exact .inr (.inr ⟨b1, z, .inl hb1, hz, he1⟩)
    · exact .inr (.inl (Nat.le_trans h.size h0))
    · rcases h.dom b0 y hy with h1 | ⟨_, _, h1 | ⟨b1, z, hb1, hz, he1⟩⟩
      · exact .inr (.inr ⟨b0, y, .inr hb0, h1, he⟩)
      · exact .inr (.inl (he ▸ h1))
      · exact .inr (.inr ⟨b1, z, .inl hb1, hz, he1.trans he⟩)

/-- The places that are to be given are free. -/
def Fresh (L : Nat) (γ : Place) (H : Heap) : Prop := ∀ b, H.next ≤ b → b < L → γ b = none
theorem Step.fresh {N L : Nat} {φ φ' : Froz} {γ γ' : Place} {H H' : Heap} {w w' : World} {T : Nat → Prop} (h : Step N φ γ H w φ' γ' H' w' T) (hf : Fresh L γ H) : Fresh L γ' H' := by
  intro b hb hL
  cases hx : γ' b with
  | none => rfl
  | some x =>
    rcases h.dom b x hx with h0 | h0
    · rw [hf b (Nat.le_trans h.next hb) hL] at h0
      exact absurd h0 (by simp)
    · omega

/-! ### New blocks of the model -/
theorem Rel.alloc {N : Nat} {φ φ' : Froz} {γ : Place} {H : Heap} {w : World} (h : Rel N φ γ H w) (o : Obj) (hφ : FLe φ φ')
    (hn : ∀ b off v, φ' b off = some v → φ b off = some v ∨ (b = w.heap.size ∧ (w.alloc o).cell? ⟨b, off, none⟩ = some v)) : Rel N φ' γ H (w.alloc o) where
  ge := by have := h.ge; simp; omega
  keys := h.keys
  froz := fun b off v hv => by
    rcases hn b off v hv with h0 | h0
    · exact cell_alloc o (h.froz b off v h0)
    · exact h0.2
  lt := fun b x hx => by have := h.lt b x hx; simp; omega
  blk := fun b x k hx hk => (h.blk b x k hx hk).mono hφ (PLe.refl _) (fun _ => Go.RowKit.Below.heap_alloc w o x.1 (h.lt b x hx).1)
  free := fun b x k hx hk hs off ho => by
    cases hv : φ' x.1 off with
    | none => rfl
    | some v =>
      have hl := (h.lt b x hx).1
      rcases hn x.1 off v hv with h0 | h0
      · rw [h.free b x k hx hk hs off ho] at h0
        exact absurd h0 (by simp)
      · omega
  inj := h.inj

/-- A block of the model without one of ours: cells that nobody writes to. -/
theorem Step.alloc {N : Nat} {φ φ' : Froz} {γ : Place} {H : Heap} {w : World} (h : Rel N φ γ H w) (o : Obj) (hφ : FLe φ φ')
    (hn : ∀ b off v, φ' b off = some v → φ b off = some v ∨ (b = w.heap.size ∧ (w.alloc o).cell? ⟨b, off, none⟩ = some v)) : Step N φ γ H w φ' γ H (w.alloc o) (fun _ => False) :=
  ⟨hφ, PLe.refl _, h.alloc o hφ hn, rfl, rfl, rfl, by simp, Nat.le_refl _, rfl, fun k hk _ => Go.RowKit.Below.heap_alloc w o k hk, fun _ _ h => .inl h, fun _ h => h.elim, fun _ _ h => h.resolve_right id, fun _ h => h, fun c off v hv => (hn c off v hv).imp id (fun h => .inl (Nat.le_of_eq h.1.symm))⟩

theorem Heap.new_eq {H H' : Heap} {x : Blk} (h : H.new x = some H') : True ∧ H' = { H with tab := H.tab.set H.next x, next := H.next + 1 } := ⟨trivial, (Option.some.inj h).symm⟩
theorem Heap.new_get {H H' : Heap} {x : Blk} (h : H.new x = some H') (b : Nat) : H'.get b = if b = H.next then some x else H.get b := by
  obtain ⟨hl, rfl⟩ := Heap.new_eq h
  unfold Heap.get
  exact Tr.get_set _ _ _ _

theorem Heap.new_next {H H' : Heap} {x : Blk} (h : H.new x = some H') : H'.next = H.next + 1 := by obtain ⟨_, rfl⟩ := Heap.new_eq h; rfl
theorem Heap.new_lt {H H' : Heap} {x : Blk} (h : H.new x = some H') : H.next < H'.next := by rw [Heap.new_next h]; omega

def PAdd (γ : Place) (b : Nat) (x : Nat × Nat × Nat) : Place := fun i => if i = b then some x else γ i
theorem PLe.add {γ : Place} {b : Nat} (x : Nat × Nat × Nat) (h : γ b = none) : PLe γ (PAdd γ b x) := by
  intro i y hy
  unfold PAdd
  split
  · rename_i e; subst e; rw [h] at hy; exact absurd hy (by simp)
  · exact hy
theorem PAdd.self (γ : Place) (b : Nat) (x : Nat × Nat × Nat) : PAdd γ b x b = some x := by simp [PAdd]

/-- A block of ours over the newest block of the model. -/
theorem Rel.new {N : Nat} {φ : Froz} {γ : Place} {H H' : Heap} {w : World} (h : Rel N φ γ H w) {k : Blk} (hH : H.new k = some H') (hfree : γ H.next = none) (x : Nat × Nat × Nat) (hx1 : x.1 < w.heap.size) (hxN : N ≤ x.1)
    (hb : BlkRel φ (PAdd γ H.next x) w x k) (hfr : k.solid = true → ∀ o, k.mark x ≤ o → φ x.1 o = none)
    (hinj : ∀ b y j, γ b = some y → H.get b = some j → j.solid = true → k.solid = true → y.1 ≠ x.1) : Rel N φ (PAdd γ H.next x) H' w where
  ge := h.ge
  keys := fun b j hj => by
    rw [Heap.new_get hH] at hj
    obtain ⟨_, rfl⟩ := Heap.new_eq hH
    split at hj
    · simp only; omega
    · have := h.keys b j hj; simp only; omega
  froz := h.froz
  lt := fun b y hy => by
    unfold PAdd at hy
    split at hy
    · cases hy; exact ⟨hx1, hxN⟩
    · exact h.lt b y hy
  blk := fun b y j hy hj => by
    rw [Heap.new_get hH] at hj
    unfold PAdd at hy
    split at hy
    · rename_i e
      subst e
      cases hy
      rw [if_pos rfl] at hj
      cases hj
      exact hb
    · rename_i e
      rw [if_neg e] at hj
      exact (h.blk b y j hy hj).mono (FLe.refl _) (PLe.add x hfree) (fun _ => rfl)
  free := fun b y j hy hj hs o ho => by
    rw [Heap.new_get hH] at hj
    unfold PAdd at hy
    split at hy
    · rename_i e
      subst e
      cases hy
      rw [if_pos rfl] at hj
      cases hj
      exact hfr hs o ho
    · rename_i e
      rw [if_neg e] at hj
      exact h.free b y j hy hj hs o ho
  inj := fun b y j b' y' j' hy hy' hj hj' hs hs' hne => by
    rw [Heap.new_get hH] at hj hj'
    unfold PAdd at hy hy'
    split at hy <;> split at hy'
    · rename_i e e'; exact absurd (e.trans e'.symm) hne
    · rename_i e e'
      rw [if_pos e] at hj; rw [if_neg e'] at hj'
      cases hy; cases hj
      exact fun hh => hinj b' y' j' hy' hj' hs' hs hh.symm
    · rename_i e e'
      rw [if_neg e] at hj; rw [if_pos e'] at hj'
      cases hy'; cases hj'
      exact hinj b y j hy hj hs hs'
    · rename_i e e'
      rw [if_neg e] at hj; rw [if_neg e'] at hj'
      exact h.inj b y j b' y' j' hy hy' hj hj' hs hs' hne

/-- A new block of the model, and one of ours over it. -/
theorem Step.new {N : Nat} {φ φ' : Froz} {γ : Place} {H H' : Heap} {w : World} (h : Rel N φ γ H w) (o : Obj) (hφ : FLe φ φ')
    (hn : ∀ b off v, φ' b off = some v → φ b off = some v ∨ (b = w.heap.size ∧ (w.alloc o).cell? ⟨b, off, none⟩ = some v)) {k : Blk} (hH : H.new k = some H') (hfree : γ H.next = none) (m e : Nat)
    (hb : BlkRel φ' (PAdd γ H.next (w.heap.size, m, e)) (w.alloc o) (w.heap.size, m, e) k) (hfr : k.solid = true → ∀ off, k.mark (w.heap.size, m, e) ≤ off → φ' w.heap.size off = none) :
    Step N φ γ H w φ' (PAdd γ H.next (w.heap.size, m, e)) H' (w.alloc o) (fun _ => False) where
  fle := hφ
  ple := PLe.add _ hfree
  rel := (h.alloc o hφ hn).new hH hfree _ (by simp) h.ge hb hfr (fun b y j hy _ _ _ => by have := (h.lt b y hy).1; simp; omega)
  os := rfl
  tape := rfl
  output := rfl
  size := by simp
  next := by obtain ⟨_, rfl⟩ := Heap.new_eq hH; simp
  base := by obtain ⟨_, rfl⟩ := Heap.new_eq hH; rfl
  fr := fun i hi _ => Go.RowKit.Below.heap_alloc w o i hi
  dom := fun b y hy => by
    obtain ⟨_, rfl⟩ := Heap.new_eq hH
    unfold PAdd at hy
    split at hy
    · rename_i e
      cases hy
      exact .inr ⟨by omega, by simp; omega, .inl (Nat.le_refl _)⟩
    · exact .inl hy
  tlt := fun _ h => h.elim
  low := fun b _ hb => by
    obtain ⟨_, rfl⟩ := Heap.new_eq hH
    exact hb.resolve_right id
  mono := fun b hb => by
    obtain ⟨_, rfl⟩ := Heap.new_eq hH
    exact hb
  fdom := fun c off v hv => (hn c off v hv).imp id (fun h => .inl (Nat.le_of_eq h.1.symm))

/-- A block of ours over one that is there, whose holder has given it up. -/
theorem Step.over {N : Nat} {φ : Froz} {γ : Place} {H H1 H2 : Heap} {w w1 : World} {φ1 : Froz} {T : Nat → Prop} (h : Step N φ γ H w φ1 γ H1 w1 T) {k : Blk} (hH : H1.new k = some H2) (hfree : γ H1.next = none) {b0 : Nat} {y x : Nat × Nat × Nat} (hb0 : T b0) (hy : γ b0 = some y) (he : y.1 = x.1)
    (hb : BlkRel φ1 (PAdd γ H1.next x) w1 x k) (hfr : k.solid = true → ∀ o, k.mark x ≤ o → φ1 x.1 o = none) (hinj : ∀ b z j, γ b = some z → H1.get b = some j → j.solid = true → z.1 ≠ x.1) :
    Step N φ γ H w φ1 (PAdd γ H1.next x) H2 w1 T where
  fle := h.fle
  ple := PLe.add _ hfree
  rel := h.rel.new hH hfree x (he ▸ (h.rel.lt _ _ hy).1) (he ▸ (h.rel.lt _ _ hy).2) hb hfr (fun b z j hz hj hs _ => hinj b z j hz hj hs)
  os := h.os
  tape := h.tape
  output := h.output
  size := h.size
  next := by obtain ⟨_, rfl⟩ := Heap.new_eq hH; have := h.next; simp only; omega
  base := by obtain ⟨_, rfl⟩ := Heap.new_eq hH; exact h.base
  fr := h.fr
  dom := fun b z hz => by
    obtain ⟨_, rfl⟩ := Heap.new_eq hH
    unfold PAdd at hz
    split at hz
    · rename_i e
      cases hz
      exact .inr ⟨by have := h.next; omega, by simp only; omega, .inr ⟨b0, y, hb0, hy, he⟩⟩
    · exact .inl hz
  tlt := fun b hb => by obtain ⟨_, rfl⟩ := Heap.new_eq hH; have := h.tlt b hb; simp only; omega
  low := fun b hb ht => by obtain ⟨_, rfl⟩ := Heap.new_eq hH; exact h.low b hb ht
  mono := fun b hb => by obtain ⟨_, rfl⟩ := Heap.new_eq hH; exact h.mono b hb
  fdom := h.fdom

/-! ### Writes -/
theorem Heap.put_get {H : Heap} {b : Nat} (x : Blk) (i : Nat) : (H.put b x).get i = if i = b then some x else H.get i := by
  unfold Heap.get Heap.put
  exact Tr.get_set _ _ _ _

theorem Heap.low_put (H : Heap) (b : Nat) (x : Blk) (i : Nat) (h : lowGe H.low i) : lowGe (H.put b x).low i := by
  show lowGe (H.touch b) i
  unfold Heap.touch
  split
  · cases hl : H.low with
    | none => rw [hl] at h; exact h.elim
    | some l => rw [hl] at h; simp only [lowGe] at *; omega
  · exact h

theorem Heap.low_put_self (H : Heap) (b : Nat) (x : Blk) (h : b < H.base) : lowGe (H.put b x).low b := by
  show lowGe (H.touch b) b
  unfold Heap.touch
  rw [if_pos h]
  cases H.low <;> simp only [lowGe] <;> omega

/-- A block gets a new content: the model's world has changed in that block alone. -/
theorem Step.put {N : Nat} {φ φ' : Froz} {γ : Place} {H : Heap} {w w' : World} (h : Rel N φ γ H w) {b : Nat} {x : Nat × Nat × Nat} {k k' : Blk} (hx : γ b = some x) (hk : H.get b = some k) (hs : k.solid = true)
    (hφ : FLe φ φ') (ho : w'.os = w.os) (ht : w'.tape = w.tape) (hu : w'.output = w.output) (hz : w'.heap.size = w.heap.size) (hw : ∀ i, i ≠ x.1 → w'.heap[i]? = w.heap[i]?)
    (hf : ∀ i off v, φ' i off = some v → w'.cell? ⟨i, off, none⟩ = some v) (hn : ∀ i off v, φ' i off = some v → φ i off = some v ∨ i = x.1)
    (hb : BlkRel φ' γ w' x k') (hfr : k'.solid = true → ∀ off, k'.mark x ≤ off → φ' x.1 off = none) : Step N φ γ H w φ' γ (H.put b k') w' (fun i => i = b) where
  fle := hφ
  ple := PLe.refl _
  rel := {
    ge := hz ▸ h.ge
    keys := fun i j hj => by
      rw [Heap.put_get k'] at hj
      split at hj
      · rename_i e; subst e; exact h.keys _ _ hk
      · exact h.keys _ _ hj
    froz := hf
    lt := fun i y hy => hz ▸ h.lt i y hy
    blk := fun i y j hy hj => by
      rw [Heap.put_get k'] at hj
      by_cases e : i = b
      · subst e
        rw [if_pos rfl] at hj
        cases hj
        rw [hx] at hy
        cases hy
        exact hb
      · rw [if_neg e] at hj
        refine (h.blk i y j hy hj).mono hφ (PLe.refl _) (fun hsj => hw _ ?_)
        exact h.inj i y j b x k hy hx hj hk hsj hs e
    free := fun i y j hy hj hsj o ho => by
      rw [Heap.put_get k'] at hj
      by_cases e : i = b
      · subst e
        rw [if_pos rfl] at hj
        cases hj
        rw [hx] at hy
        cases hy
        exact hfr hsj o ho
      · rw [if_neg e] at hj
        have hne := h.inj i y j b x k hy hx hj hk hsj hs e
        cases hv : φ' y.1 o with
        | none => rfl
        | some v =>
          rcases hn _ _ _ hv with h0 | h0
          · rw [h.free i y j hy hj hsj o ho] at h0
            exact absurd h0 (by simp)
          · exact absurd h0 hne
    inj := fun i y j i' y' j' hy hy' hj hj' hsj hsj' hne => by
      rw [Heap.put_get k'] at hj hj'
      have hj2 : ∃ j2, H.get i = some j2 ∧ j2.solid = true := by
        by_cases e : i = b
        · subst e; exact ⟨k, hk, hs⟩
        · rw [if_neg e] at hj; exact ⟨j, hj, hsj⟩
      have hj3 : ∃ j2, H.get i' = some j2 ∧ j2.solid = true := by
        by_cases e : i' = b
        · subst e; exact ⟨k, hk, hs⟩
        · rw [if_neg e] at hj'; exact ⟨j', hj', hsj'⟩
      obtain ⟨a, ha, hsa⟩ := hj2
      obtain ⟨c, hc, hsc⟩ := hj3
      exact h.inj i y a i' y' c hy hy' ha hc hsa hsc hne }
  os := ho
  tape := ht
  output := hu
  size := by omega
  next := Nat.le_refl _
  base := rfl
  fr := fun i _ hT => hw i (fun e => hT b x hx rfl e.symm)
  dom := fun _ _ h => .inl h
  tlt := fun i hi => by subst hi; exact h.keys _ _ hk
  low := fun i hi hh => by
    rcases hh with hh | hh
    · exact Heap.low_put _ _ _ _ hh
    · subst hh; exact Heap.low_put_self _ _ _ hi
  mono := fun i hi => Heap.low_put _ _ _ _ hi
  fdom := fun c off v hv => (hn c off v hv).imp id (fun h => .inr ⟨b, x, rfl, hx, h.symm⟩)

/-- A block that lies nowhere gets a new content. -/
theorem Step.putGhost {N : Nat} {φ : Froz} {γ : Place} {H : Heap} {w : World} (h : Rel N φ γ H w) {b : Nat} {k k' : Blk} (hx : γ b = none) (hk : H.get b = some k) : Step N φ γ H w φ γ (H.put b k') w (fun i => i = b) where
  fle := FLe.refl _
  ple := PLe.refl _
  rel := {
    ge := h.ge
    keys := fun i j hj => by
      rw [Heap.put_get k'] at hj
      split at hj
      · rename_i e; subst e; exact h.keys _ _ hk
      · exact h.keys _ _ hj
    froz := h.froz
    lt := h.lt
    blk := fun i y j hy hj => by
      rw [Heap.put_get k'] at hj
      by_cases e : i = b
      · subst e; rw [hx] at hy; exact absurd hy (by simp)
      · rw [if_neg e] at hj; exact h.blk i y j hy hj
    free := fun i y j hy hj hsj o ho => by
      rw [Heap.put_get k'] at hj
      by_cases e : i = b
      · subst e; rw [hx] at hy; exact absurd hy (by simp)
      · rw [if_neg e] at hj; exact h.free i y j hy hj hsj o ho
    inj := fun i y j i' y' j' hy hy' hj hj' hsj hsj' hne => by
      rw [Heap.put_get k'] at hj hj'
      by_cases e : i = b
      · subst e; rw [hx] at hy; exact absurd hy (by simp)
      · by_cases e' : i' = b
        · subst e'; rw [hx] at hy'; exact absurd hy' (by simp)
        · rw [if_neg e] at hj
          rw [if_neg e'] at hj'
          exact h.inj i y j i' y' j' hy hy' hj hj' hsj hsj' hne }
  os := rfl
  tape := rfl
  output := rfl
  size := Nat.le_refl _
  next := Nat.le_refl _
  base := rfl
  fr := fun _ _ _ => rfl
  dom := fun _ _ h => .inl h
  tlt := fun i hi => by subst hi; exact h.keys _ _ hk
  low := fun i hi hh => by
    rcases hh with hh | hh
    · exact Heap.low_put _ _ _ _ hh
    · subst hh; exact Heap.low_put_self _ _ _ hi
  mono := fun i hi => Heap.low_put _ _ _ _ hi
  fdom := fun _ _ _ h => .inl h

end
end Go.Sx
