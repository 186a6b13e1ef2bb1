/- What the abstract interpreter's values and heap say of the model's values and world. -/
import Derived.Test.YtaidiaiedhbaoaaSx1
/- What the abstract interpreter's values and heap say of the model's values and world. -/
set_option linter.unusedVariables false
namespace Go.Sx
noncomputable section

/-! ### Finite maps -/
namespace Tr
variable {α : Type}
theorem get_zero (l : Tr α) (v : Option α) (r : Tr α) : (node l v r).get 0 = v := rfl
theorem stp_odd {β : Type} (m : Nat) (x y z : β) : stp (2 * m + 1) x y z = y := by
  have h1 : Nat.mod (2 * m + 1) 2 = 1 := by show (2 * m + 1) % 2 = 1; omega
  have h2 : Nat.beq (2 * m + 1) 0 = false := rfl
  unfold stp
  rw [h1, h2]
  rfl
theorem stp_even {β : Type} (m : Nat) (x y z : β) : stp (2 * m + 2) x y z = x := by
  have h1 : Nat.mod (2 * m + 2) 2 = 0 := by show (2 * m + 2) % 2 = 0; omega
  have h2 : Nat.beq (2 * m + 2) 0 = false := rfl
  unfold stp
  rw [h1, h2]
  rfl
theorem half_odd (m : Nat) : Nat.div (2 * m + 1) 2 = m := by show (2 * m + 1) / 2 = m; omega
theorem half_even (m : Nat) : Nat.div (Nat.sub (2 * m + 2) 1) 2 = m := by show (2 * m + 2 - 1) / 2 = m; omega
theorem get_odd (l : Tr α) (v : Option α) (r : Tr α) (m : Nat) : (node l v r).get (2 * m + 1) = l.get m := by
  show stp (2 * m + 1) (r.get _) (l.get (Nat.div (2 * m + 1) 2)) v = _
  rw [stp_odd, half_odd]
theorem get_even (l : Tr α) (v : Option α) (r : Tr α) (m : Nat) : (node l v r).get (2 * m + 2) = r.get m := by
  show stp (2 * m + 2) (r.get (Nat.div (Nat.sub (2 * m + 2) 1) 2)) (l.get _) v = _
  rw [stp_even, half_even]
theorem setF_zero (f : Nat) (l : Tr α) (v : Option α) (r : Tr α) (a : α) : setF (f + 1) (node l v r) 0 a = node l (some a) r := rfl
theorem setF_odd (f : Nat) (l : Tr α) (v : Option α) (r : Tr α) (m : Nat) (a : α) : setF (f + 1) (node l v r) (2 * m + 1) a = node (setF f l m a) v r := by
  show stp (2 * m + 1) (node l v (setF f r (Nat.div (Nat.sub (2 * m + 1) 1) 2) a)) (node (setF f l (Nat.div (2 * m + 1) 2) a) v r) (node l (some a) r) = _
  rw [stp_odd, half_odd]
theorem setF_even (f : Nat) (l : Tr α) (v : Option α) (r : Tr α) (m : Nat) (a : α) : setF (f + 1) (node l v r) (2 * m + 2) a = node l v (setF f r m a) := by
  show stp (2 * m + 2) (node l v (setF f r (Nat.div (Nat.sub (2 * m + 2) 1) 2) a)) (node (setF f l (Nat.div (2 * m + 2) 2) a) v r) (node l (some a) r) = _
  rw [stp_even, half_even]
theorem setF_leaf (f : Nat) (n : Nat) (a : α) : setF (f + 1) leaf n a = setF (f + 1) (node leaf none leaf) n a := rfl
theorem get_node_leaf (n : Nat) : (node leaf none leaf : Tr α).get n = none := by
  match n with
  | 0 => rfl
  | m + 1 =>
    rcases Nat.mod_two_eq_zero_or_one m with h | h
    · obtain ⟨k, rfl⟩ : ∃ k, m = 2 * k := ⟨m / 2, by omega⟩
      rw [get_odd]; rfl
    · obtain ⟨k, rfl⟩ : ∃ k, m = 2 * k + 1 := ⟨m / 2, by omega⟩
      rw [get_even]; rfl

theorem cases3 (n : Nat) : n = 0 ∨ (∃ k, n = 2 * k + 1) ∨ ∃ k, n = 2 * k + 2 := by
  by_cases h : n = 0
  · exact .inl h
  · by_cases ho : n % 2 = 1
    · exact .inr (.inl ⟨n / 2, by omega⟩)
    · exact .inr (.inr ⟨(n - 2) / 2, by omega⟩)

theorem get_setF : ∀ (f : Nat) (t : Tr α) (n : Nat) (a : α) (m : Nat), n < f → (setF f t n a).get m = if m = n then some a else t.get m
  | 0, t, n, a, m, h => by omega
  | f + 1, leaf, n, a, m, h => by
    rw [setF_leaf]
    have := get_setF_node f leaf none leaf n a m h
    rw [this, get_node_leaf]
    rfl
  | f + 1, node l v r, n, a, m, h => get_setF_node f l v r n a m h
where
  get_setF_node (f : Nat) (l : Tr α) (v : Option α) (r : Tr α) (n : Nat) (a : α) (m : Nat) (h : n < f + 1) : (setF (f + 1) (node l v r) n a).get m = if m = n then some a else (node l v r).get m := by
    rcases cases3 n with rfl | ⟨k, rfl⟩ | ⟨k, rfl⟩
    · rw [setF_zero]
      rcases cases3 m with rfl | ⟨j, rfl⟩ | ⟨j, rfl⟩
      · rfl
      · rw [get_odd, get_odd, if_neg (by omega)]
      · rw [get_even, get_even, if_neg (by omega)]
    · rw [setF_odd]
      rcases cases3 m with rfl | ⟨j, rfl⟩ | ⟨j, rfl⟩
      · rw [get_zero, get_zero, if_neg (by omega)]
      · rw [get_odd, get_odd, get_setF f l k a j (by omega)]
        by_cases e : j = k
        · subst e; simp
        · rw [if_neg e, if_neg (by omega)]
      · rw [get_even, get_even, if_neg (by omega)]
    · rw [setF_even]
      rcases cases3 m with rfl | ⟨j, rfl⟩ | ⟨j, rfl⟩
      · rw [get_zero, get_zero, if_neg (by omega)]
      · rw [get_odd, get_odd, if_neg (by omega)]
      · rw [get_even, get_even, get_setF f r k a j (by omega)]
        by_cases e : j = k
        · subst e; simp
        · rw [if_neg e, if_neg (by omega)]

theorem get_set (t : Tr α) (n : Nat) (a : α) (m : Nat) : (t.set n a).get m = if m = n then some a else t.get m :=
  get_setF (n + 1) t n a m (by omega)
theorem get_join (l : Tr α) (v : Option α) (r : Tr α) (n : Nat) : (join l v r).get n = (node l v r).get n := by
  unfold join
  split
  · rcases cases3 n with rfl | ⟨k, rfl⟩ | ⟨k, rfl⟩
    · rfl
    · rw [get_odd]; rfl
    · rw [get_even]; rfl
  · rfl
theorem get_keep (p : Nat → Bool) : ∀ (t : Tr α) (n : Nat), (t.keep p).get n = if p n then t.get n else none := by
  intro t
  induction t generalizing p with
  | leaf => intro n; show none = _; split <;> rfl
  | node l v r ihl ihr =>
    intro n
    show (join (keep (fun m => p (2 * m + 1)) l) (if p 0 then v else none) (keep (fun m => p (2 * m + 2)) r)).get n = _
    rw [get_join]
    rcases cases3 n with rfl | ⟨k, rfl⟩ | ⟨k, rfl⟩
    · show (if p 0 = true then v else none) = _
      rfl
    · show ((Tr.node (keep (fun m => p (2 * m + 1)) l) (if p 0 then v else none) (keep (fun m => p (2 * m + 2)) r) : Tr α)).get (2 * k + 1) = _
      rw [get_odd, get_odd, ihl]
    · show ((Tr.node (keep (fun m => p (2 * m + 1)) l) (if p 0 then v else none) (keep (fun m => p (2 * m + 2)) r) : Tr α)).get (2 * k + 2) = _
      rw [get_even, get_even, ihr]
@[simp] theorem get_leaf (m : Nat) : (leaf : Tr α).get m = none := rfl
end Tr

/-! ### Values -/
/-- What lies in cells that nobody writes to any more: block, offset. -/
structure Froz where
  at_ : Nat → Nat → Option Value
  rho : Nat → Value
instance : CoeFun Froz (fun _ => Nat → Nat → Option Value) := ⟨Froz.at_⟩
/-- Where a block lies: the model's block, the first cell that is free, the end. -/
abbrev Place := Nat → Option (Nat × Nat × Nat)

def TokRel (γ : Place) (tok : Tok) (a : Addr) (n cap sz : Nat) : Prop :=
  match tok with
  | .full => cap = n
  | .own b s => s = sz ∧ γ b = some (a.block, a.off + n * sz, a.off + cap * sz)
  | .unk => True

inductive VRel (φ : Froz) (γ : Place) : V → Value → Prop
  | val {v : Value} : plain v = true → VRel φ γ (.val v) v
  | sym {t : STy} {e : SE} {v : Value} : v = e.val φ.rho t → VRel φ γ (.sym t e) v
  | ptr {b off cb m e : Nat} : γ b = some (cb, m, e) → VRel φ γ (.ptr b off) (.pointer (some ⟨cb, m + off, none⟩))
  | cptr {cells : List V} {a : Addr} (f : Nat → Value) : a.spot = none → (∀ (j : Nat) (v : V), cells[j]? = some v → v.one = true ∧ φ a.block (a.off + j) = some (f j)) →
      (∀ (j : Nat) (v : V), cells[j]? = some v → VRel φ γ v (f j)) → VRel φ γ (.cptr cells) (.pointer (some a))
  | lnil {tok : Tok} : VRel φ γ (.list true [] tok) (.slice none 0 0)
  | list {es : List (List V)} {tok : Tok} {a : Addr} {cap : Nat} (sz : Nat) (f : Nat → Value) : (0 < cap → a.spot = none) → es.length ≤ cap → cap ≤ maxLen → (∀ c, c ∈ es → c.length = sz) →
      (∀ (i : Nat) (c : List V), es[i]? = some c → ∀ (j : Nat) (v : V), c[j]? = some v → v.one = true ∧ φ a.block (a.off + (i * sz + j)) = some (f (i * sz + j))) →
      (∀ (i : Nat) (c : List V), es[i]? = some c → ∀ (j : Nat) (v : V), c[j]? = some v → VRel φ γ v (f (i * sz + j))) →
      TokRel γ tok a es.length cap sz → VRel φ γ (.list false es tok) (.slice (some a) es.length cap)
  | mslice {b off len cap cb m e : Nat} : γ b = some (cb, m, e) → len ≤ cap → cap ≤ maxLen → VRel φ γ (.mslice b off len cap) (.slice (some ⟨cb, m + off, none⟩) len cap)
  | vslice {b off len kc sz cap cb m e : Nat} {a : Addr} : γ b = some (cb, m, e) → len ≤ kc → kc ≤ cap → cap ≤ maxLen → (0 < cap → a = ⟨cb, m + off, none⟩ ∧ m + off + cap * sz ≤ e) → VRel φ γ (.vslice b off len kc sz) (.slice (some a) len cap)
  | sli {k : Sh} {nl e : SE} {tok : Tok} {v : Value} : VRel φ γ (.list (nl.truth φ.rho) (rowsOf φ.rho k e) tok) v → VRel φ γ (.sli k nl e tok) v
  | map {m cm w e : Nat} : γ m = some (cm, w, e) → VRel φ γ (.map m) (.map (some cm))
  | func {fn : Fn} {fs cs : List V} {fs' cs' : Array Value} : fs'.size = fs.length → cs'.size = cs.length → (∀ (j : Nat) (v : V), fs[j]? = some v → VRel φ γ v (fs'.getD j undef)) →
      (∀ (j : Nat) (v : V), cs[j]? = some v → VRel φ γ v (cs'.getD j undef)) → VRel φ γ (.func fn fs cs) (.func fn fs' cs')
  | yield {k l m e : Nat} : γ k = some (l, m, e) → VRel φ γ (.yield k) (.func (.yield l) #[] #[])
  | iface {t : TypeId} {v : V} {v' : Value} : VRel φ γ v v' → VRel φ γ (.iface t v) (.iface t v')
  | agg {cs : List V} {cs' : Array Value} : cs'.size = cs.length → (∀ (j : Nat) (v : V), cs[j]? = some v → v.one = true) → (∀ (j : Nat) (v : V), cs[j]? = some v → VRel φ γ v (cs'.getD j undef)) → VRel φ γ (.agg cs) (.agg cs')
  | tuple {cs : List V} {cs' : Array Value} : cs'.size = cs.length → (∀ (j : Nat) (v : V), cs[j]? = some v → VRel φ γ v (cs'.getD j undef)) → VRel φ γ (.tuple cs) (.tuple cs')
  | top {v : Value} : VRel φ γ .top v

structure FLe (φ φ' : Froz) : Prop where
  le : ∀ b o v, φ b o = some v → φ' b o = some v
  rho : φ'.rho = φ.rho
instance (φ φ' : Froz) : CoeFun (FLe φ φ') (fun _ => ∀ b o v, φ b o = some v → φ' b o = some v) := ⟨FLe.le⟩
def PLe (γ γ' : Place) : Prop := ∀ b x, γ b = some x → γ' b = some x
theorem FLe.refl (φ : Froz) : FLe φ φ := ⟨fun _ _ _ h => h, rfl⟩
theorem PLe.refl (γ : Place) : PLe γ γ := fun _ _ h => h
theorem FLe.trans {a b c : Froz} (h : FLe a b) (k : FLe b c) : FLe a c := ⟨fun _ _ _ x => k _ _ _ (h _ _ _ x), k.rho.trans h.rho⟩
theorem PLe.trans {a b c : Place} (h : PLe a b) (k : PLe b c) : PLe a c := fun _ _ x => k _ _ (h _ _ x)

theorem VRel.mono {φ φ' : Froz} {γ γ' : Place} (hφ : FLe φ φ') (hγ : PLe γ γ') {v : V} {x : Value} (h : VRel φ γ v x) : VRel φ' γ' v x := by
  induction h with
  | val h => exact .val h
  | sym h1 => exact .sym (by rw [hφ.rho]; exact h1)
  | ptr h => exact .ptr (hγ _ _ h)
  | cptr f h1 h2 _ ih => exact .cptr f h1 (fun j v hj => ⟨(h2 j v hj).1, hφ _ _ _ (h2 j v hj).2⟩) ih
  | lnil => exact .lnil
  | list sz f h1 h2 h3 h4 h5 _ h7 ih =>
    refine .list sz f h1 h2 h3 h4 (fun i c hc j v hj => ⟨(h5 i c hc j v hj).1, hφ _ _ _ (h5 i c hc j v hj).2⟩) ih ?_
    unfold TokRel at *
    split at h7 <;> first | exact h7 | exact ⟨h7.1, hγ _ _ h7.2⟩
  | mslice h h1 h2 => exact .mslice (hγ _ _ h) h1 h2
  | vslice h h1 h2 h3 h4 => exact .vslice (hγ _ _ h) h1 h2 h3 h4
  | sli _ ih => exact .sli (by rw [hφ.rho]; exact ih)
  | map h => exact .map (hγ _ _ h)
  | func h1 h2 _ _ ih1 ih2 => exact .func h1 h2 ih1 ih2
  | yield h => exact .yield (hγ _ _ h)
  | iface _ ih => exact .iface ih
  | agg h1 h2 _ ih => exact .agg h1 h2 ih
  | tuple h1 _ ih => exact .tuple h1 ih
  | top => exact .top

theorem VRel.list_slice {φ : Froz} {γ : Place} {n : Bool} {es : List (List V)} {tok : Tok} {x : Value} (h : VRel φ γ (.list n es tok) x) : ∃ a l c, x = .slice a l c := by
  cases h with
  | lnil => exact ⟨_, _, _, rfl⟩
  | list sz f h1 h2 h3 h4 h5 h6 h7 => exact ⟨_, _, _, rfl⟩

theorem VRel.one {φ : Froz} {γ : Place} {v : V} {x : Value} (h : VRel φ γ v x) (ho : v.one = true) : x.oneCell' = true := by
  cases h <;> first | rfl | (simp [V.one] at ho; done) | skip
  · rename_i h
    cases x <;> first | rfl | (simp [plain] at h; done)
  · rename_i t _ h
    subst h
    cases t <;> rfl
  · rename_i h
    obtain ⟨a, l, c, rfl⟩ := h.list_slice
    rfl

theorem SE.val_plain (ρ : Nat → Value) (e : SE) (t : STy) : plain (e.val ρ t) = true := by cases t <;> rfl

theorem VRel.notAgg {φ : Froz} {γ : Place} {v : V} {x : Value} (h : VRel φ γ v x) (ho : v.one = true) : x.cells = #[x] := by
  have := h.one ho
  cases x <;> first | rfl | (simp [Value.oneCell'] at this; done)

/-- The cells of a value. -/
theorem VRel.cells {φ : Froz} {γ : Place} {v : V} {x : Value} (h : VRel φ γ v x) (ho : v.cells.all V.one = true) :
    x.cells.size = v.cells.length ∧ ∀ j u, v.cells[j]? = some u → u.one = true ∧ VRel φ γ u (x.cells.getD j undef) := by
  by_cases ha : ∃ cs, v = .agg cs
  · obtain ⟨cs, rfl⟩ := ha
    cases h with
    | agg h1 h2 h3 => exact ⟨h1, fun j u hj => ⟨h2 j u hj, h3 j u hj⟩⟩
  · have hc : v.cells = [v] := by
      cases v <;> first | rfl | exact absurd ⟨_, rfl⟩ ha
    rw [hc] at ho ⊢
    have h1 : v.one = true := by simpa using ho
    rw [h.notAgg h1]
    refine ⟨rfl, fun j u hj => ?_⟩
    match j, hj with
    | 0, hj =>
      simp at hj
      subst hj
      exact ⟨h1, by simpa using h⟩

/-! ### Memory -/
/-- The cells of a block, each with its value. -/
def CellsRel (φ : Froz) (γ : Place) (cs : List V) (arr : Array Value) : Prop :=
  arr.size = cs.length ∧ ∀ j v, cs[j]? = some v → v.one = true ∧ VRel φ γ v (arr.getD j undef)

def EntryRel (φ : Froz) (γ : Place) (e : Value × V × Nat) (m : MapEntry) : Prop := plain e.1 = true ∧ m.key = e.1 ∧ m.born = e.2.2 ∧ VRel φ γ e.2.1 m.val

/-- The record of a loop over a function. -/
structure LoopIs (φ : Froz) (γ : Place) (env : Env) (ps : Array Tmp) (asg body : Code) (st : LoopState) (pend : Option Code) (r : Loop) : Prop where
  state : r.state = st
  pending : r.pending = pend
  params : r.params = ps
  assign : r.assign = asg
  bodyIs : r.body = body
  few : r.tmps.size < 1048576
  asgOk : codeOk r.tmps.size asg = true
  bodyOk : codeOk r.tmps.size body = true
  psOk : ∀ p, p ∈ ps.toList → p < r.tmps.size
  rel : ∀ t, VRel φ γ (evT env t) (r.tmps.getD t undef)

def BlkRel (φ : Froz) (γ : Place) (w : World) (x : Nat × Nat × Nat) : Blk → Prop
  | .cells cs => ∃ arr T, w.heap[x.1]? = some (.cells arr T (0, 0)) ∧ x.2.1 + cs.length ≤ arr.size ∧ x.2.2 ≤ arr.size ∧ ∀ j v, cs[j]? = some v → v.one = true ∧ VRel φ γ v (arr.getD (x.2.1 + j) undef)
  | .tail true => ∃ arr T, w.heap[x.1]? = some (.cells arr T (0, 0)) ∧ arr.size = x.2.2 ∧ x.2.1 ≤ x.2.2
  | .tail false => True
  | .map es clock => ∃ ms, w.heap[x.1]? = some (.map ms clock) ∧ ms.size = es.length ∧ ∀ j e, es[j]? = some e → EntryRel φ γ e (ms.getD j default)
  | .siter s pos => x.2.1 = 0 ∧ w.heap[x.1]? = some (.stringIter s pos)
  | .miter m since seen stepped => x.2.1 = 0 ∧ ∃ cm, w.heap[x.1]? = some (.mapIter cm since seen.toArray stepped) ∧ (match m with | none => cm = none | some b => ∃ y, γ b = some y ∧ cm = some y.1)
  | .loop env ps asg body st pend => x.2.1 = 0 ∧ ∃ r : Loop, w.heap[x.1]? = some (.loop r) ∧ LoopIs φ γ env ps asg body st pend r

def Blk.solid : Blk → Bool
  | .tail false => false
  | _ => true

/-- From which cell on a block is its holder's alone. -/
def Blk.mark (x : Nat × Nat × Nat) : Blk → Nat
  | .tail _ => x.2.1
  | _ => 0

structure Rel (N : Nat) (φ : Froz) (γ : Place) (H : Heap) (w : World) : Prop where
  ge : N ≤ w.heap.size
  keys : ∀ b k, H.get b = some k → b < H.next
  froz : ∀ b o v, φ b o = some v → w.cell? ⟨b, o, none⟩ = some v
  lt : ∀ b x, γ b = some x → x.1 < w.heap.size ∧ N ≤ x.1
  blk : ∀ b x k, γ b = some x → H.get b = some k → BlkRel φ γ w x k
  free : ∀ b x k, γ b = some x → H.get b = some k → k.solid = true → ∀ o, k.mark x ≤ o → φ x.1 o = none
  inj : ∀ b x k b' x' k', γ b = some x → γ b' = some x' → H.get b = some k → H.get b' = some k' → k.solid = true → k'.solid = true → b ≠ b' → x.1 ≠ x'.1

def lowGe : Option Nat → Nat → Prop
  | none, _ => False
  | some l, b => l ≤ b

/-- One step of the abstract heap, and of the world behind it. T: the blocks that were written. -/
structure Step (N : Nat) (φ : Froz) (γ : Place) (H : Heap) (w : World) (φ' : Froz) (γ' : Place) (H' : Heap) (w' : World) (T : Nat → Prop) : Prop where
  fle : FLe φ φ'
  ple : PLe γ γ'
  rel : Rel N φ' γ' H' w'
  os : w'.os = w.os
  tape : w'.tape = w.tape
  output : w'.output = w.output
  size : w.heap.size ≤ w'.heap.size
  next : H.next ≤ H'.next
  base : H'.base = H.base
  fr : ∀ k, k < w.heap.size → (∀ b x, γ b = some x → T b → x.1 ≠ k) → w'.heap[k]? = w.heap[k]?
  dom : ∀ b x, γ' b = some x → γ b = some x ∨ (H.next ≤ b ∧ b < H'.next ∧ (w.heap.size ≤ x.1 ∨ ∃ b0 y, T b0 ∧ γ b0 = some y ∧ y.1 = x.1))
  tlt : ∀ b, T b → b < H'.next
  low : ∀ b, b < H.base → (lowGe H.low b ∨ T b) → lowGe H'.low b
  mono : ∀ b, lowGe H.low b → lowGe H'.low b
  fdom : ∀ c o v, φ' c o = some v → φ c o = some v ∨ w.heap.size ≤ c ∨ ∃ b y, T b ∧ γ b = some y ∧ y.1 = c

theorem Step.refl {N : Nat} {φ : Froz} {γ : Place} {H : Heap} {w : World} (h : Rel N φ γ H w) : Step N φ γ H w φ γ H w (fun _ => False) :=
  ⟨FLe.refl _, PLe.refl _, h, rfl, rfl, rfl, Nat.le_refl _, Nat.le_refl _, rfl, fun _ _ _ => rfl, fun _ _ h => .inl h, fun _ h => h.elim, fun _ _ h => h.resolve_right id, fun _ h => h, fun _ _ _ h => .inl h⟩

end
end Go.Sx
