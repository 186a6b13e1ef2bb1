/- Outcomes: places only grow. One operation, calls among them. -/
import Derived.Test.YtaidiaiedhbaoaaSx12
import Derived.Scope
/- Outcomes: places only grow. One operation, calls among them. -/
set_option linter.unusedVariables false
set_option linter.unusedSimpArgs false
namespace Go.Sx
noncomputable section

theorem bindL_in {α β : Type} {f : α → Option (List β)} : ∀ {l : List α} {L : List β}, bindL l f = some L → ∀ x, x ∈ l → ∃ Lx, f x = some Lx ∧ ∀ r, r ∈ Lx → r ∈ L
  | [], L, _, x, hx => by simp at hx
  | y :: l, L, h, x, hx => by
    simp only [bindL, Option.bind_eq_some_iff, Option.map_eq_some_iff] at h
    obtain ⟨A, hA, B, hB, rfl⟩ := h
    rcases List.mem_cons.1 hx with rfl | hx
    · exact ⟨A, hA, fun r hr => List.mem_append_left _ hr⟩
    · obtain ⟨Lx, h1, h2⟩ := bindL_in hB x hx
      exact ⟨Lx, h1, fun r hr => List.mem_append_right _ (h2 r hr)⟩

theorem bindL_out {α β : Type} {f : α → Option (List β)} : ∀ {l : List α} {L : List β}, bindL l f = some L → ∀ r, r ∈ L → ∃ x, x ∈ l ∧ ∃ Lx, f x = some Lx ∧ r ∈ Lx
  | [], L, h, r, hr => by simp [bindL] at h; subst h; simp at hr
  | y :: l, L, h, r, hr => by
    simp only [bindL, Option.bind_eq_some_iff, Option.map_eq_some_iff] at h
    obtain ⟨A, hA, B, hB, rfl⟩ := h
    rcases List.mem_append.1 hr with hr | hr
    · exact ⟨y, List.mem_cons_self, A, hA, hr⟩
    · obtain ⟨x, h1, h2⟩ := bindL_out hB r hr
      exact ⟨x, List.mem_cons_of_mem _ h1, h2⟩

/-! ### Outcomes that are the same -/
theorem sameL_eq {α : Type} {f : α → α → Bool} (hf : ∀ a b, f a b = true → a = b) : ∀ {l m : List α}, sameL f l m = true → l = m
  | [], [], _ => rfl
  | a :: l, b :: m, h => by
    simp only [sameL, Bool.and_eq_true] at h
    rw [hf _ _ h.1, sameL_eq hf h.2]
  | [], _ :: _, h => by simp [sameL] at h
  | _ :: _, [], h => by simp [sameL] at h

theorem sameVal_eq {a b : Value} (h : sameVal a b = true) : a = b := by
  unfold sameVal at h
  split at h <;> first | rfl | skip
  · simp at h; rw [h]
  · simp at h; rw [h.1, h.2]
  · rw [(bytes_beq' _ _).1 h]
  · exact absurd h (by simp)

theorem V.same_eq : ∀ (n : Nat) (a b : V), V.same n a b = true → a = b
  | 0, _, _, h => by simp [V.same] at h
  | n + 1, a, b, h => by
    have ih := V.same_eq n
    have nat : ∀ {x y : Nat}, Nat.beq x y = true → x = y := fun h => Nat.eq_of_beq_eq_true h
    unfold V.same at h
    split at h <;> (try simp only [Bool.and_eq_true] at h)
    · rw [sameVal_eq h]
    · rw [eq_of_beq h.1, SE.beq_eq h.2]
    · rw [Sh.beq_eq h.1, SE.beq_eq h.2.1, SE.beq_eq h.2.2.1, eq_of_beq h.2.2.2]
    · rw [nat h.1, nat h.2]
    · rw [sameL_eq ih h]
    · rw [sameL_eq (fun _ _ => sameL_eq ih) h.2.2, eq_of_beq h.1, eq_of_beq h.2.1]
    · rw [nat h.1, nat h.2.1, nat h.2.2.1, nat h.2.2.2]
    · rw [nat h.1, nat h.2.1, nat h.2.2.1, nat h.2.2.2.1, nat h.2.2.2.2]
    · rw [nat h]
    · rw [nat h]
    · rw [nat h.1, sameL_eq ih h.2.1, sameL_eq ih h.2.2]
    · rw [nat h.1, ih _ _ h.2]
    · rw [sameL_eq ih h]
    · rw [sameL_eq ih h]
    · rfl
    · exact absurd h (by simp)

theorem Blk.same_eq {a b : Blk} (h : Blk.same a b = true) : a = b := by
  have nat : ∀ {x y : Nat}, Nat.beq x y = true → x = y := fun h => Nat.eq_of_beq_eq_true h
  unfold Blk.same at h
  split at h <;> (try simp only [Bool.and_eq_true] at h)
  · rw [sameL_eq (V.same_eq 12) h]
  · simp at h; rw [h]
  · rw [nat h.1, sameL_eq (fun x y hxy => by
      simp only [Bool.and_eq_true] at hxy
      obtain ⟨x1, x2, x3⟩ := x
      obtain ⟨y1, y2, y3⟩ := y
      simp only at hxy
      rw [sameVal_eq hxy.1, V.same_eq _ _ _ hxy.2.1, nat hxy.2.2]) h.2]
  · rw [(bytes_beq' _ _).1 h.1, nat h.2]
  · rw [eq_of_beq h.1, nat h.2.1, sameL_eq (fun _ _ => nat) h.2.2.1, nat h.2.2.2]
  · exact absurd h (by simp)

theorem sameO_eq {a b : Option Blk} (h : sameO Blk.same a b = true) : a = b := by
  unfold sameO at h
  split at h
  · rw [Blk.same_eq h]
  · rfl
  · exact absurd h (by simp)

/-! ### Places only grow -/

theorem newBox_next {H H' : Heap} {cs : List V} {v : V} (h : newBox H cs = some (v, H')) : H.next ≤ H'.next := by
  unfold newBox at h
  split at h
  · obtain ⟨H2, hn, he⟩ := Option.map_eq_some_iff.1 h
    cases he
    rw [Heap.new_next hn]; omega
  · exact absurd h (by simp)

theorem evalStore_next {tb : Tb} {H H' : Heap} {T : TypeId} {x v : V} (h : evalStore tb H T x v = some H') : H'.next = H.next := by
  unfold evalStore at h
  simp only [Option.bind_eq_bind, Option.bind_eq_some_iff] at h
  obtain ⟨n, hn, h⟩ := h
  repeat' split at h
  all_goals first | (cases h; rfl) | (cases h; done)

theorem appendBox_next {H H' : Heap} {cs : List V} {b off len sz : Nat} {news : List (List V)} {place v : V} {kc : Nat} {dead : Bool} (h : appendBox H cs b off len sz news place kc dead = some (v, H')) : H.next ≤ H'.next := by
  unfold appendBox at h
  split at h
  · exact absurd h (by simp)
  · split at h
    · split at h
      · cases h; exact Nat.le_refl _
      · exact absurd h (by simp)
    · obtain ⟨H2, hn, he⟩ := Option.map_eq_some_iff.1 h
      cases he
      rw [Heap.new_next hn]
      cases dead
      · exact Nat.le_succ _
      · exact Nat.le_succ _

theorem appendList_next {tb : Tb} {H H' : Heap} {e : TypeId} {sz : Nat} {nl : Bool} {es : List (List V)} {tok : Tok} {news : List (List V)} {v : V} {lin : Bool} (h : appendList lin tb H e sz nl es tok news = some (v, H')) : H.next ≤ H'.next := by
  unfold appendList at h
  split at h
  · exact absurd h (by simp)
  · split at h
    · cases h; exact Nat.le_refl _
    · split at h
      · split at h
        · obtain ⟨H2, hn, he⟩ := Option.map_eq_some_iff.1 h
          cases he
          rw [Heap.new_next hn]; omega
        · split at h
          · obtain ⟨H2, hn, he⟩ := Option.map_eq_some_iff.1 h
            cases he
            rw [Heap.new_next hn]; omega
          · exact absurd h (by simp)
      · split at h
        · split at h
          · obtain ⟨H2, hn, he⟩ := Option.map_eq_some_iff.1 h
            cases he
            rw [Heap.new_next hn]
            show H.next ≤ H.next + 1
            omega
          · exact absurd h (by simp)
        · exact absurd h (by simp)
      · exact absurd h (by simp)

theorem evalAppend0_next {tb : Tb} {H H' : Heap} {T1 T2 : TypeId} {s x v : V} (h : evalAppend0 tb H T1 T2 s x = some (v, H')) : H.next ≤ H'.next := by
  unfold evalAppend0 at h
  split at h
  · simp only [Option.bind_eq_bind, Option.bind_eq_some_iff] at h
    obtain ⟨sz, hsz, by_, hby, z, hz, news, hnews, h⟩ := h
    split at h
    · exact absurd h (by simp)
    · unfold appendTo at h
      split at h
      · split at h
        · exact absurd h (by simp)
        · exact appendList_next h
      · split at h
        · exact absurd h (by simp)
        · split at h
          · cases h; exact Nat.le_refl _
          · split at h
            · exact appendBox_next h
            · exact absurd h (by simp)
      · split at h
        · exact absurd h (by simp)
        · split at h
          · cases h; exact Nat.le_refl _
          · split at h
            · split at h
              · exact appendBox_next h
              · exact absurd h (by simp)
            · exact absurd h (by simp)
      · exact absurd h (by simp)
  · exact absurd h (by simp)

theorem OTree.eval_next (ρ : Nat → Value) (H : Heap) : ∀ t : OTree, H.next ≤ (t.eval ρ H).2.h.next
  | .leaf e env ds nx => Nat.le_max_left _ _
  | .node c a b => by
    unfold OTree.eval
    split
    · exact OTree.eval_next ρ H a
    · exact OTree.eval_next ρ H b
theorem growTok_next {H H' : Heap} {sz : Nat} {tok : Tok} (h : growTok H sz tok = some H') : H.next ≤ H'.next := by
  unfold growTok at h
  split at h
  · rw [Heap.new_next h]; omega
  · split at h
    · split at h
      · rw [Heap.new_next h]; show H.next ≤ H.next + 1; omega
      · exact absurd h (by simp)
    · exact absurd h (by simp)
  · exact absurd h (by simp)
theorem appendS_grow {ok : IntKind → SE → Bool} {small : SE → SE → Nat → Bool} {tb : Tb} {H : Heap} {T1 T2 : TypeId} {s x : V} {r : Option SE × V × Heap} (h : appendS ok small tb H T1 T2 s x = some r) : ∃ k sz q, toSli ok k s = some q ∧ growTok H sz q.2.2 = some r.2.2 := by
  unfold appendS at h
  split at h
  · simp only [Option.bind_eq_bind, Option.bind_eq_some_iff] at h
    obtain ⟨sz, hsz, by_, hby, z, hz, k, hkof, h⟩ := h
    split at h
    · exact absurd h (by simp)
    · simp only [Option.bind_eq_some_iff] at h
      obtain ⟨q, hsl, a, hadd, h⟩ := h
      split at h
      · exact absurd h (by simp)
      · simp only [Option.bind_eq_some_iff] at h
        obtain ⟨H2, hgrow, h⟩ := h
        cases h
        exact ⟨k, sz, q, hsl, hgrow⟩
  · exact absurd h (by simp)
theorem evalAppendS_next {tb : Tb} {H H' : Heap} {T1 T2 : TypeId} {s x v : V} (h : evalAppendS tb H T1 T2 s x = some (v, H')) : H.next ≤ H'.next := by
  unfold evalAppendS at h
  obtain ⟨r, hr, h⟩ := Option.map_eq_some_iff.1 h
  obtain ⟨k, sz, q, _, hg⟩ := appendS_grow hr
  have := growTok_next hg
  split at h
  · split at h
    · cases h; exact Nat.le_refl _
    · have e : r.2.2 = H' := by rw [h]
      exact e ▸ this
  · have e : r.2.2 = H' := by rw [h]
    exact e ▸ this
theorem evalAppend_next {tb : Tb} {H H' : Heap} {T1 T2 : TypeId} {s x v : V} (h : evalAppend tb H T1 T2 s x = some (v, H')) : H.next ≤ H'.next := by
  unfold evalAppend at h
  split at h
  · exact evalAppendS_next h
  · exact evalAppend0_next h

theorem evalCopy_next {tb : Tb} {H H' : Heap} {T1 T2 : TypeId} {d x v : V} (h : evalCopy tb H T1 T2 d x = some (v, H')) : H'.next = H.next := by
  unfold evalCopy at h
  split at h
  · simp only [Option.bind_eq_some_iff] at h
    obtain ⟨sz, hsz, by_, hby, z, hz, h⟩ := h
    split at h
    · obtain ⟨xs, hxs, h⟩ := Option.bind_eq_some_iff.1 h
      unfold copyTo copyBox at h
      repeat' split at h
      all_goals first | (cases h; rfl) | (cases h; done)
    · exact absurd h (by simp)
  · exact absurd h (by simp)

theorem evalClear_next {tb : Tb} {H H' : Heap} {T : TypeId} {x : V} (h : evalClear tb H T x = some H') : H'.next = H.next := by
  unfold evalClear at h
  split at h
  · simp only [Option.bind_eq_bind, Option.bind_eq_some_iff] at h
    obtain ⟨sz, hsz, z, hz, h⟩ := h
    repeat' split at h
    all_goals first | (cases h; rfl) | (cases h; done)
  · exact absurd h (by simp)

theorem evalMakeSlice_next {tb : Tb} {H H' : Heap} {T : TypeId} {l c v : V} (h : evalMakeSlice tb H T l c = some (v, H')) : H.next ≤ H'.next := by
  unfold evalMakeSlice at h
  split at h
  · simp only [Option.bind_eq_bind, Option.bind_eq_some_iff] at h
    obtain ⟨sz, hsz, by_, hby, z, hz, h⟩ := h
    split at h
    · exact absurd h (by simp)
    · split at h
      · obtain ⟨r, hb, he⟩ := Option.map_eq_some_iff.1 h
        cases he
        exact newBox_next (v := r.1) hb
      · split at h
        · cases h; exact Nat.le_refl _
        split at h
        · obtain ⟨H2, hn, he⟩ := Option.map_eq_some_iff.1 h
          cases he
          rw [Heap.new_next hn]; omega
        · obtain ⟨r, hb, he⟩ := Option.map_eq_some_iff.1 h
          cases he
          exact newBox_next (v := r.1) hb
  · exact absurd h (by simp)

theorem evalMapUpdate_next {tb : Tb} {H H' : Heap} {T : TypeId} {x k v : V} (h : evalMapUpdate tb H T x k v = some H') : H'.next = H.next := by
  unfold evalMapUpdate at h
  repeat' split at h
  all_goals first | (cases h; rfl) | (cases h; done)

theorem evalDelete_next {tb : Tb} {H H' : Heap} {T : TypeId} {x k : V} (h : evalDelete tb H T x k = some H') : H'.next = H.next := by
  unfold evalDelete at h
  repeat' split at h
  all_goals first | (cases h; rfl) | (cases h; done)

theorem evalRange_next {tb : Tb} {H H' : Heap} {T : TypeId} {x v : V} (h : evalRange tb H T x = some (v, H')) : H.next ≤ H'.next := by
  unfold evalRange at h
  simp only [Option.bind_eq_bind, Option.bind_eq_some_iff] at h
  obtain ⟨it, hit, h⟩ := h
  obtain ⟨H2, hn, he⟩ := Option.map_eq_some_iff.1 h
  cases he
  rw [Heap.new_next hn]; omega

theorem evalMapEntry_next {tb : Tb} {H H' : Heap} {T : TypeId} {x k v : V} (h : evalMapEntry tb H T x k = some (v, H')) : H'.next = H.next := by
  unfold evalMapEntry at h
  repeat' split at h
  all_goals first | (cases h; rfl) | (cases h; done)
theorem evalEntryStore_next {H H' : Heap} {x s v : V} (h : evalEntryStore H x s v = some H') : H'.next = H.next := by
  unfold evalEntryStore at h
  repeat' split at h
  all_goals first | (cases h; rfl) | (cases h; done)

theorem evalNext_next {H : Heap} {x : V} {s : Bool} {L : List (V × Heap)} (h : evalNext H x s = some L) : ∀ r, r ∈ L → H.next ≤ r.2.next := by
  unfold evalNext at h
  split at h
  · split at h
    · split at h
      · cases h; intro r hr; simp at hr; subst hr; exact Nat.le_refl _
      · cases h; intro r hr; simp at hr; subst hr; exact Nat.le_refl _
    · cases h; intro r hr; simp at hr; subst hr; exact Nat.le_refl _
    · split at h
      · split at h
        · exact absurd h (by simp)
        · cases h
          intro r hr
          rcases List.mem_append.1 hr with hr | hr
          · split at hr
            · simp at hr; subst hr; exact Nat.le_refl _
            · simp at hr
          · obtain ⟨e, _, rfl⟩ := List.mem_map.1 hr
            exact Nat.le_refl _
      · exact absurd h (by simp)
    · exact absurd h (by simp)
  · exact absurd h (by simp)

theorem evalMem_next {tb : Tb} {env : Env} {H : Heap} {o : Op} {L : List (V × Heap)} (h : evalMem tb env H o = some L) : ∀ r, r ∈ L → H.next ≤ r.2.next := by
  have one : ∀ {v : V} {H' : Heap}, L = [(v, H')] → H.next ≤ H'.next → ∀ r, r ∈ L → H.next ≤ r.2.next := fun e hle r hr => by subst e; simp at hr; subst hr; exact hle
  unfold evalMem at h
  split at h
  · simp only [Option.bind_eq_bind, Option.bind_eq_some_iff] at h
    obtain ⟨z, hz, h⟩ := h
    obtain ⟨⟨v, H'⟩, hb, rfl⟩ := Option.map_eq_some_iff.1 h
    exact one rfl (newBox_next hb)
  · obtain ⟨⟨v, H'⟩, hb, rfl⟩ := Option.map_eq_some_iff.1 h
    exact one rfl (newBox_next hb)
  · obtain ⟨v, hb, rfl⟩ := Option.map_eq_some_iff.1 h
    exact one rfl (Nat.le_refl _)
  · obtain ⟨H', hb, rfl⟩ := Option.map_eq_some_iff.1 h
    exact one rfl (Nat.le_of_eq (evalStore_next hb).symm)
  · obtain ⟨H', hb, rfl⟩ := Option.map_eq_some_iff.1 h
    exact one rfl (by rw [Heap.new_next hb]; omega)
  · obtain ⟨⟨v, H'⟩, hb, rfl⟩ := Option.map_eq_some_iff.1 h
    exact one rfl (evalMakeSlice_next hb)
  · obtain ⟨v, hb, rfl⟩ := Option.map_eq_some_iff.1 h
    exact one rfl (Nat.le_refl _)
  · obtain ⟨H', hb, rfl⟩ := Option.map_eq_some_iff.1 h
    exact one rfl (Nat.le_of_eq (evalMapUpdate_next hb).symm)
  · obtain ⟨v, hb, rfl⟩ := Option.map_eq_some_iff.1 h
    exact one rfl (Nat.le_refl _)
  · obtain ⟨⟨v, H'⟩, hb, rfl⟩ := Option.map_eq_some_iff.1 h
    exact one rfl (Nat.le_of_eq (evalMapEntry_next hb).symm)
  · obtain ⟨H', hb, rfl⟩ := Option.map_eq_some_iff.1 h
    exact one rfl (Nat.le_of_eq (evalEntryStore_next hb).symm)
  · obtain ⟨⟨v, H'⟩, hb, rfl⟩ := Option.map_eq_some_iff.1 h
    exact one rfl (evalRange_next hb)
  · exact evalNext_next h
  · split at h
    · split at h
      · split at h
        · cases h; exact one rfl (Nat.le_refl _)
        · exact absurd h (by simp)
      · obtain ⟨v, hb, rfl⟩ := Option.map_eq_some_iff.1 h
        exact one rfl (Nat.le_refl _)
    · exact absurd h (by simp)
  · split at h
    · obtain ⟨⟨v, H'⟩, hb, rfl⟩ := Option.map_eq_some_iff.1 h
      exact one rfl (evalAppend_next hb)
    · exact absurd h (by simp)
  · split at h
    · obtain ⟨H', hb, rfl⟩ := Option.map_eq_some_iff.1 h
      exact one rfl (Nat.le_of_eq (evalDelete_next hb).symm)
    · exact absurd h (by simp)
  · split at h
    · obtain ⟨⟨v, H'⟩, hb, rfl⟩ := Option.map_eq_some_iff.1 h
      exact one rfl (Nat.le_of_eq (evalCopy_next hb).symm)
    · exact absurd h (by simp)
  · split at h
    · obtain ⟨H', hb, rfl⟩ := Option.map_eq_some_iff.1 h
      exact one rfl (Nat.le_of_eq (evalClear_next hb).symm)
    · exact absurd h (by simp)
  · split at h
    · obtain ⟨v, hb, rfl⟩ := Option.map_eq_some_iff.1 h
      exact one rfl (Nat.le_refl _)
    · exact absurd h (by simp)
  · exact absurd h (by simp)

/-- A family of calls gives out places in order. -/
def Grows (cl : CallFn) : Prop := ∀ f args H L, cl f args H = some L → L ≠ [] ∧ ∀ r, r ∈ L → H.next ≤ r.2.next

theorem boxed_grows {cl : CallFn} (hc : Grows cl) (tb : Tb) : Grows (boxed cl tb) := by
  intro f args H L h
  unfold boxed at h
  split at h
  · simp only [Option.bind_eq_some_iff] at h
    obtain ⟨M, hM, h⟩ := h
    split at h
    · cases h
      refine ⟨by simpa using (hc _ _ _ _ hM).1, fun r hr => ?_⟩
      obtain ⟨q, _, rfl⟩ := List.mem_map.1 hr
      exact Nat.le_refl _
    · exact absurd h (by simp)
  · exact hc _ _ _ _ h

theorem one_grows {cl : CallFn} (hc : Grows cl) (tb : Tb) : Grows (callOne cl tb) := by
  intro f args H L h
  unfold callOne at h
  split at h
  · cases h
    exact ⟨by simp, fun r hr => by rw [List.mem_singleton.1 hr]; exact Nat.le_refl _⟩
  · exact boxed_grows hc tb _ _ _ _ h

theorem evalOp_next {cl : CallFn} (hc : Grows cl) {P : Program} {tb : Tb} {env : Env} {H : Heap} {o : Op} {L : List (V × Heap × Bool)} (h : evalOp cl P tb env H o = some L) : ∀ r, r ∈ L → H.next ≤ r.2.1.next := by
  unfold evalOp at h
  split at h
  · obtain ⟨v, _, rfl⟩ := Option.map_eq_some_iff.1 h
    intro r hr; simp at hr; subst hr; exact Nat.le_refl _
  · split at h
    · obtain ⟨M, hM, rfl⟩ := Option.map_eq_some_iff.1 h
      intro r hr
      obtain ⟨q, hq, rfl⟩ := List.mem_map.1 hr
      unfold evalCall at hM
      simp only at hM
      split at hM
      · split at hM
        · exact (one_grows hc tb _ _ _ _ hM).2 q hq
        · exact absurd hM (by simp)
      · exact (hc _ _ _ _ hM).2 q hq
      · exact absurd hM (by simp)
    · obtain ⟨M, hM, rfl⟩ := Option.map_eq_some_iff.1 h
      intro r hr
      obtain ⟨q, hq, rfl⟩ := List.mem_map.1 hr
      exact evalMem_next hM q hq

theorem execOps_next {cl : CallFn} (hc : Grows cl) {P : Program} {tb : Tb} {ops : Array Oper} : ∀ {l : List Oper} {i : Nat} {hard : Marks} {st : St} {L : List (St × Marks)}, execOps cl P tb ops l i hard st = some L → ∀ r, r ∈ L → st.h.next ≤ r.1.h.next
  | [], i, hard, st, L, h => by
    simp only [execOps, Option.some.injEq] at h
    subst h
    intro r hr; simp at hr; subst hr; exact Nat.le_refl _
  | o :: l, i, hard, st, L, h => by
    simp only [execOps] at h
    split at h
    · exact absurd h (by simp)
    · intro r hr
      have := execOps_next hc h r hr
      exact this
    · simp only [Option.bind_eq_some_iff] at h
      obtain ⟨M, hM, h⟩ := h
      intro r hr
      obtain ⟨q, hq, Lq, hLq, hrq⟩ := bindL_out h r hr
      exact Nat.le_trans (evalOp_next hc hM q hq) (execOps_next hc hLq r hrq)

theorem sweep_get (H : Heap) (env : Env) (b : Nat) : (H.sweep env).get b = H.get b ∨ ((H.sweep env).get b = none ∧ H.base ≤ b) := by
  have h : (H.sweep env).get b = if (Nat.blt b H.base || (reach H 100000 [] (env.vals.flatMap (V.refs 12))).contains b) = true then H.get b else none := Tr.get_keep _ _ _
  rw [h]
  split
  · exact .inl rfl
  · rename_i hc
    refine .inr ⟨rfl, ?_⟩
    simp only [Bool.or_eq_true, not_or] at hc
    have : ¬ b < H.base := fun hlt => hc.1 (by rw [Nat.blt_eq]; exact hlt)
    omega
theorem forget_h (tb : Tb) (c : Nat) (st : St) : (Go.Sx.forget tb c st).h = st.h ∨ ∃ env, (Go.Sx.forget tb c st).h = st.h.sweep env := by
  unfold Go.Sx.forget
  split
  · exact .inl rfl
  · exact .inr ⟨_, rfl⟩
theorem le_roundUp (n : Nat) : n ≤ roundUp n := by
  show n ≤ (n / 256 + 1) * 256
  omega
theorem forget_next (tb : Tb) (c : Nat) (st : St) : st.h.next ≤ (Go.Sx.forget tb c st).h.next ∧ (Go.Sx.forget tb c st).h.base = st.h.base := by
  rcases forget_h tb c st with h | ⟨env, h⟩ <;> rw [h]
  · exact ⟨Nat.le_refl _, rfl⟩
  · exact ⟨le_roundUp _, rfl⟩
/-! ### Loops over functions -/
theorem endLoopV_out {st : St} {k : Nat} {H : Heap} {L : List (Ex × St)} (h : endLoopV st k H = some L) :
    ∃ env ps asg body s pend e, H.get k = some (.loop env ps asg body s pend) ∧ s ≠ .busy ∧ exOf pend = some e ∧ L = [(e, { env := st.env, h := H.put k (.tail false) })] := by
  unfold endLoopV at h
  split at h
  · rename_i env ps asg body s pend hk
    split at h
    · exact absurd h (by simp)
    · rename_i hs
      obtain ⟨e, he, rfl⟩ := Option.map_eq_some_iff.1 h
      exact ⟨env, ps, asg, body, s, pend, e, hk, hs, he, rfl⟩
  · exact absurd h (by simp)
theorem rangeFuncV_out {cl : CallFn} {tb : Tb} {g : Operand} {ps : Array Tmp} {asg body : Code} {st : St} {L : List (Ex × St)} (h : rangeFuncV cl tb g ps asg body st = some L) :
    inRound st.env = false ∧ ∃ gf first captured H1 M, ev tb st.env g = .func (.func gf) first captured ∧ gf < roundBase ∧ st.h.new (.loop st.env ps asg body .ready none) = some H1 ∧
      cl gf (first ++ [.yield st.h.next] ++ captured) { H1 with base := H1.next, low := none } = some M ∧ bindL M (fun r => endLoopV st st.h.next (back H1 r.2)) = some L := by
  unfold rangeFuncV at h
  split at h
  · exact absurd h (by simp)
  · rename_i hir
    split at h
    · rename_i gf first captured hg
      split at h
      · rename_i hlt
        simp only [Option.bind_eq_some_iff] at h
        obtain ⟨H1, hH1, M, hM, h⟩ := h
        exact ⟨by simpa using hir, gf, first, captured, H1, M, hg, by simpa using hlt, hH1, hM, h⟩
      · exact absurd h (by simp)
    · exact absurd h (by simp)
theorem endRoundV_out {k : Nat} {q : Ex × St} {L : List (V × Heap)} (h : endRoundV k q = some L) :
    ∃ env ps asg body s pend, q.2.h.get k = some (.loop env ps asg body s pend) ∧ L = [(.bool (jumpOf q.1).isNone, q.2.h.put k (.loop env ps asg body (if (jumpOf q.1).isNone then .ready else .done) (jumpOf q.1)))] := by
  unfold endRoundV at h
  split at h
  · rename_i env ps asg body s pend hk
    cases h
    exact ⟨env, ps, asg, body, s, pend, hk, rfl⟩
  · exact absurd h (by simp)
theorem bodyRoundV_out {ex : Tk → St → Option (List (Ex × St))} {k : Nat} {body : Code} {r : Ex × St} {L : List (V × Heap)} (h : bodyRoundV ex k body r = some L) :
    r.1 = .normal ∧ ∃ env ps asg body2 pend M, r.2.h.get k = some (.loop env ps asg body2 .ready pend) ∧ ex (.code body) { env := r.2.env, h := r.2.h.put k (.loop env ps asg body2 .busy pend) } = some M ∧ bindL M (endRoundV k) = some L := by
  unfold bodyRoundV at h
  split at h
  · rename_i hr
    split at h
    · rename_i env ps asg body2 s pend hk
      split at h
      · simp only [Option.bind_eq_some_iff] at h
        obtain ⟨M, hM, h⟩ := h
        exact ⟨hr, env, ps, asg, body2, pend, M, hk, hM, h⟩
      · exact absurd h (by simp)
    · exact absurd h (by simp)
  · exact absurd h (by simp)
theorem stepRound_out {ex : Tk → St → Option (List (Ex × St))} {k : Nat} {args : List V} {H : Heap} {L : List (V × Heap)} (h : stepRound ex k args H = some L) :
    ∃ env ps asg body s pend M, H.get k = some (.loop env ps asg body s pend) ∧ args.length = ps.size ∧ ex (.code asg) { env := (putList ps.toList args env).set 2097152 .top, h := H } = some M ∧ bindL M (bodyRoundV ex k body) = some L := by
  unfold stepRound at h
  split at h
  · rename_i env ps asg body s pend hk
    split at h
    · rename_i hl
      simp only [Option.bind_eq_some_iff] at h
      obtain ⟨M, hM, h⟩ := h
      exact ⟨env, ps, asg, body, s, pend, M, hk, Nat.eq_of_beq_eq_true hl, hM, h⟩
    · exact absurd h (by simp)
  · exact absurd h (by simp)
theorem endLoopV_next {st : St} {k : Nat} {H : Heap} {L : List (Ex × St)} (h : endLoopV st k H = some L) : L ≠ [] ∧ ∀ r, r ∈ L → r.2.h.next = H.next := by
  obtain ⟨_, _, _, _, _, _, e, _, _, _, rfl⟩ := endLoopV_out h
  exact ⟨by simp, fun r hr => by rw [List.mem_singleton.1 hr]; rfl⟩
theorem rangeFuncV_next {cl : CallFn} (hc : Grows cl) {tb : Tb} {g : Operand} {ps : Array Tmp} {asg body : Code} {st : St} {L : List (Ex × St)} (h : rangeFuncV cl tb g ps asg body st = some L) : L ≠ [] ∧ ∀ r, r ∈ L → st.h.next ≤ r.2.h.next := by
  obtain ⟨_, gf, first, captured, H1, M, _, _, hH1, hM, hL⟩ := rangeFuncV_out h
  have h1 := Heap.new_next hH1
  have h2 := hc _ _ _ _ hM
  refine ⟨?_, fun r hr => ?_⟩
  · cases M with
    | nil => exact absurd rfl h2.1
    | cons q M =>
      obtain ⟨Lq, h3, h4⟩ := bindL_in hL q List.mem_cons_self
      have := (endLoopV_next h3).1
      cases Lq with
      | nil => exact absurd rfl this
      | cons r Lq => exact List.ne_nil_of_mem (h4 r List.mem_cons_self)
  · obtain ⟨q, hq, Lq, hLq, hrq⟩ := bindL_out hL r hr
    rw [(endLoopV_next hLq).2 r hrq]
    have := h2.2 q hq
    show st.h.next ≤ q.2.next
    have e : ({ H1 with base := H1.next, low := none } : Heap).next = H1.next := rfl
    omega
theorem stepC_next {cl : CallFn} (hc : Grows cl) {P : Program} {tb : Tb} {ih : Tk → St → Option (List (Ex × St))} (hi : ∀ tk st L, ih tk st = some L → ∀ r, r ∈ L → st.h.next ≤ r.2.h.next) {tk : Tk} {st : St} {L : List (Ex × St)} (h : stepC cl P tb ih tk st = some L) : ∀ r, r ∈ L → st.h.next ≤ r.2.h.next := by
  have one : ∀ {e : Ex}, L = [(e, st)] → ∀ r, r ∈ L → st.h.next ≤ r.2.h.next := fun e r hr => by subst e; simp at hr; subst hr; exact Nat.le_refl _
  unfold stepC at h
  split at h
  · cases h; exact one rfl
  · cases h; exact one rfl
  · simp only [Option.bind_eq_some_iff] at h
    obtain ⟨M, hM, h⟩ := h
    have : ∀ r, r ∈ (M.map fun r => (Ex.normal, r.1)) → st.h.next ≤ r.2.h.next := fun r hr => by
      obtain ⟨q, hq, rfl⟩ := List.mem_map.1 hr
      exact execOps_next hc hM q hq
    split at h
    · split at h
      · cases h; exact this
      · exact absurd h (by simp)
    · cases h; exact this
  · simp only [Option.bind_eq_some_iff] at h
    obtain ⟨M, hM, h⟩ := h
    intro r hr
    obtain ⟨q, hq, Lq, hLq, hrq⟩ := bindL_out h r hr
    have h1 := hi _ _ _ hM q hq
    split at hLq
    · exact Nat.le_trans h1 (by have := hi _ _ _ hLq r hrq; exact Nat.le_trans (forget_next tb _ q.2).1 this)
    · cases hLq; simp at hrq; subst hrq; exact h1
  · split at h
    · split at h
      · exact hi _ _ _ h
      · exact hi _ _ _ h
    · exact absurd h (by simp)
  · obtain ⟨M, hM, rfl⟩ := Option.map_eq_some_iff.1 h
    intro r hr
    obtain ⟨q, hq, rfl⟩ := List.mem_map.1 hr
    exact hi _ _ _ hM q hq
  · split at h
    · cases h
      intro r hr
      rw [List.mem_singleton.1 hr]
      exact OTree.eval_next _ _ _
    simp only [Option.bind_eq_some_iff] at h
    obtain ⟨M, hM, h⟩ := h
    intro r hr
    obtain ⟨q, hq, Lq, hLq, hrq⟩ := bindL_out h r hr
    have h1 := hi _ _ _ hM q hq
    split at hLq
    · exact Nat.le_trans h1 (by have := hi _ _ _ hLq r hrq; exact Nat.le_trans (forget_next tb _ q.2).1 this)
    · cases hLq; simp at hrq; subst hrq; exact h1
  · cases h; exact one rfl
  · cases h; exact one rfl
  · cases h; exact one rfl
  · exact (rangeFuncV_next hc h).2
  · exact hi _ _ _ h
  · simp only [Option.bind_eq_some_iff] at h
    obtain ⟨M, hM, h⟩ := h
    intro r hr
    obtain ⟨q, hq, Lq, hLq, hrq⟩ := bindL_out h r hr
    have h1 := hi _ _ _ hM q hq
    split at hLq
    · split at hLq
      · exact Nat.le_trans h1 (hi _ _ _ hLq r hrq)
      · cases hLq; simp at hrq; subst hrq; exact h1
    · cases hLq; simp at hrq; subst hrq; exact h1
  · exact absurd h (by simp)

theorem exec_next {cl : CallFn} (hc : Grows cl) {P : Program} {tb : Tb} : ∀ (n : Nat) (tk : Tk) (st : St) (L : List (Ex × St)), exec cl P tb n tk st = some L → ∀ r, r ∈ L → st.h.next ≤ r.2.h.next
  | 0, tk, st, L, h => by simp [exec] at h
  | n + 1, tk, st, L, h => stepC_next hc (exec_next hc n) h

/-! ### There is an outcome -/
theorem bindL_ne {α β : Type} {f : α → Option (List β)} {l : List α} {L : List β} (h : bindL l f = some L) (hl : l ≠ []) (hf : ∀ x, x ∈ l → ∀ Lx, f x = some Lx → Lx ≠ []) : L ≠ [] := by
  cases l with
  | nil => exact absurd rfl hl
  | cons x l =>
    obtain ⟨Lx, h1, h2⟩ := bindL_in h x List.mem_cons_self
    have := hf x List.mem_cons_self Lx h1
    cases Lx with
    | nil => exact absurd rfl this
    | cons r Lx => exact List.ne_nil_of_mem (h2 r List.mem_cons_self)

theorem evalNext_ne {H : Heap} {x : V} {s : Bool} {L : List (V × Heap)} (h : evalNext H x s = some L) : L ≠ [] := by
  unfold evalNext at h
  split at h
  · split at h
    · split at h <;> (cases h; simp)
    · cases h; simp
    · split at h
      · rename_i m since seen last hg es clock hgm
        split at h
        · exact absurd h (by simp)
        · cases h
          intro hn
          rw [List.append_eq_nil_iff] at hn
          obtain ⟨h1, h2⟩ := hn
          split at h1
          · exact absurd h1 (by simp)
          · rename_i hne
            apply hne
            rw [List.map_eq_nil_iff, List.filter_eq_nil_iff] at h2
            rw [List.isEmpty_iff, List.filter_eq_nil_iff]
            intro e he hh
            simp only [Bool.and_eq_true] at hh
            exact h2 e he hh.1
      · exact absurd h (by simp)
    · exact absurd h (by simp)
  · exact absurd h (by simp)

theorem evalMem_ne {tb : Tb} {env : Env} {H : Heap} {o : Op} {L : List (V × Heap)} (h : evalMem tb env H o = some L) : L ≠ [] := by
  unfold evalMem at h
  split at h
  · simp only [Option.bind_eq_bind, Option.bind_eq_some_iff] at h
    obtain ⟨z, hz, h⟩ := h
    obtain ⟨p, hb, rfl⟩ := Option.map_eq_some_iff.1 h
    simp
  · obtain ⟨p, hb, rfl⟩ := Option.map_eq_some_iff.1 h; simp
  · obtain ⟨p, hb, rfl⟩ := Option.map_eq_some_iff.1 h; simp
  · obtain ⟨p, hb, rfl⟩ := Option.map_eq_some_iff.1 h; simp
  · obtain ⟨p, hb, rfl⟩ := Option.map_eq_some_iff.1 h; simp
  · obtain ⟨p, hb, rfl⟩ := Option.map_eq_some_iff.1 h; simp
  · obtain ⟨p, hb, rfl⟩ := Option.map_eq_some_iff.1 h; simp
  · obtain ⟨p, hb, rfl⟩ := Option.map_eq_some_iff.1 h; simp
  · obtain ⟨p, hb, rfl⟩ := Option.map_eq_some_iff.1 h; simp
  · obtain ⟨p, hb, rfl⟩ := Option.map_eq_some_iff.1 h; simp
  · obtain ⟨p, hb, rfl⟩ := Option.map_eq_some_iff.1 h; simp
  · obtain ⟨p, hb, rfl⟩ := Option.map_eq_some_iff.1 h; simp
  · exact evalNext_ne h
  · split at h
    · split at h
      · split at h
        · cases h; simp
        · exact absurd h (by simp)
      · obtain ⟨p, hb, rfl⟩ := Option.map_eq_some_iff.1 h; simp
    · exact absurd h (by simp)
  · split at h
    · obtain ⟨p, hb, rfl⟩ := Option.map_eq_some_iff.1 h; simp
    · exact absurd h (by simp)
  · split at h
    · obtain ⟨p, hb, rfl⟩ := Option.map_eq_some_iff.1 h; simp
    · exact absurd h (by simp)
  · split at h
    · obtain ⟨p, hb, rfl⟩ := Option.map_eq_some_iff.1 h; simp
    · exact absurd h (by simp)
  · split at h
    · obtain ⟨p, hb, rfl⟩ := Option.map_eq_some_iff.1 h; simp
    · exact absurd h (by simp)
  · split at h
    · obtain ⟨p, hb, rfl⟩ := Option.map_eq_some_iff.1 h; simp
    · exact absurd h (by simp)
  · exact absurd h (by simp)

theorem evalOp_ne {cl : CallFn} (hc : Grows cl) {P : Program} {tb : Tb} {env : Env} {H : Heap} {o : Op} {L : List (V × Heap × Bool)} (h : evalOp cl P tb env H o = some L) : L ≠ [] := by
  unfold evalOp at h
  split at h
  · obtain ⟨v, _, rfl⟩ := Option.map_eq_some_iff.1 h; simp
  · split at h
    · obtain ⟨M, hM, rfl⟩ := Option.map_eq_some_iff.1 h
      unfold evalCall at hM
      simp only at hM
      split at hM
      · split at hM
        · have := (one_grows hc tb _ _ _ _ hM).1
          simpa using this
        · exact absurd hM (by simp)
      · have := (hc _ _ _ _ hM).1
        simpa using this
      · exact absurd hM (by simp)
    · obtain ⟨M, hM, rfl⟩ := Option.map_eq_some_iff.1 h
      have := evalMem_ne hM
      simpa using this

theorem execOps_ne {cl : CallFn} (hc : Grows cl) {P : Program} {tb : Tb} {ops : Array Oper} : ∀ {l : List Oper} {i : Nat} {hard : Marks} {st : St} {L : List (St × Marks)}, execOps cl P tb ops l i hard st = some L → L ≠ []
  | [], i, hard, st, L, h => by
    simp only [execOps, Option.some.injEq] at h
    subst h
    simp
  | o :: l, i, hard, st, L, h => by
    simp only [execOps] at h
    split at h
    · exact absurd h (by simp)
    · exact execOps_ne hc h
    · simp only [Option.bind_eq_some_iff] at h
      obtain ⟨M, hM, h⟩ := h
      exact bindL_ne h (evalOp_ne hc hM) (fun q _ Lq hLq => execOps_ne hc hLq)

theorem stepC_ne {cl : CallFn} (hc : Grows cl) {P : Program} {tb : Tb} {ih : Tk → St → Option (List (Ex × St))} (hi : ∀ tk st L, ih tk st = some L → L ≠ []) {tk : Tk} {st : St} {L : List (Ex × St)} (h : stepC cl P tb ih tk st = some L) : L ≠ [] := by
  unfold stepC at h
  split at h
  · cases h; simp
  · cases h; simp
  · simp only [Option.bind_eq_some_iff] at h
    obtain ⟨M, hM, h⟩ := h
    have := execOps_ne hc hM
    split at h
    · split at h
      · cases h; simpa using this
      · exact absurd h (by simp)
    · cases h; simpa using this
  · simp only [Option.bind_eq_some_iff] at h
    obtain ⟨M, hM, h⟩ := h
    refine bindL_ne h (hi _ _ _ hM) (fun q _ Lq hLq => ?_)
    split at hLq
    · exact hi _ _ _ hLq
    · cases hLq; simp
  · split at h
    · split at h
      · exact hi _ _ _ h
      · exact hi _ _ _ h
    · exact absurd h (by simp)
  · obtain ⟨M, hM, rfl⟩ := Option.map_eq_some_iff.1 h
    have := hi _ _ _ hM
    simpa using this
  · split at h
    · cases h; simp
    simp only [Option.bind_eq_some_iff] at h
    obtain ⟨M, hM, h⟩ := h
    refine bindL_ne h (hi _ _ _ hM) (fun q _ Lq hLq => ?_)
    split at hLq
    · exact hi _ _ _ hLq
    · cases hLq; simp
  · cases h; simp
  · cases h; simp
  · cases h; simp
  · exact (rangeFuncV_next hc h).1
  · exact hi _ _ _ h
  · simp only [Option.bind_eq_some_iff] at h
    obtain ⟨M, hM, h⟩ := h
    refine bindL_ne h (hi _ _ _ hM) (fun q _ Lq hLq => ?_)
    split at hLq
    · split at hLq
      · exact hi _ _ _ hLq
      · cases hLq; simp
    · cases hLq; simp
  · exact absurd h (by simp)

theorem exec_ne {cl : CallFn} (hc : Grows cl) {P : Program} {tb : Tb} : ∀ (n : Nat) (tk : Tk) (st : St) (L : List (Ex × St)), exec cl P tb n tk st = some L → L ≠ []
  | 0, tk, st, L, h => by simp [exec] at h
  | n + 1, tk, st, L, h => stepC_ne hc (exec_ne hc n) h

theorem stepRound_grows {cl : CallFn} (hc : Grows cl) {P : Program} {tb : Tb} (n : Nat) {k : Nat} {args : List V} {H : Heap} {L : List (V × Heap)} (h : stepRound (exec cl P tb n) k args H = some L) : L ≠ [] ∧ ∀ r, r ∈ L → H.next ≤ r.2.next := by
  obtain ⟨env, ps, asg, body, s, pend, M, hk, hl, hM, hL⟩ := stepRound_out h
  have b1 : ∀ q Lq, bodyRoundV (exec cl P tb n) k body q = some Lq → Lq ≠ [] ∧ ∀ r, r ∈ Lq → q.2.h.next ≤ r.2.next := by
    intro q Lq hLq
    obtain ⟨_, env, ps, asg, body, pend, M2, hk, hM2, hL2⟩ := bodyRoundV_out hLq
    refine ⟨bindL_ne hL2 (exec_ne hc _ _ _ _ hM2) (fun q2 _ Lx hx => ?_), fun r hr => ?_⟩
    · obtain ⟨_, _, _, _, _, _, _, rfl⟩ := endRoundV_out hx
      simp
    · obtain ⟨q2, hq2, Lx, hLx, hrx⟩ := bindL_out hL2 r hr
      obtain ⟨_, _, _, _, _, _, _, rfl⟩ := endRoundV_out hLx
      rw [List.mem_singleton.1 hrx]
      exact exec_next hc _ _ _ _ hM2 q2 hq2
  refine ⟨bindL_ne hL (exec_ne hc _ _ _ _ hM) (fun q _ Lq hLq => (b1 q Lq hLq).1), fun r hr => ?_⟩
  obtain ⟨q, hq, Lq, hLq, hrq⟩ := bindL_out hL r hr
  exact Nat.le_trans (exec_next hc _ _ _ _ hM q hq) ((b1 q Lq hLq).2 r hrq)

theorem stepCall_grows {cl : CallFn} (hc : Grows cl) {P : Program} {tb : Tb} (n : Nat) : Grows (stepCall P tb n cl) := by
  intro f args H L h
  unfold stepCall at h
  split at h
  · exact stepRound_grows hc n h
  split at h
  · cases h
    exact ⟨by simp, fun r hr => by rw [List.mem_singleton.1 hr]; exact Nat.le_refl _⟩
  repeat' split at h
  all_goals first | (cases h; done) | skip
  simp only [Option.bind_eq_some_iff] at h
  obtain ⟨M, hM, h⟩ := h
  refine ⟨bindL_ne h (exec_ne hc _ _ _ _ hM) (fun q _ Lq hLq => ?_), fun r hr => ?_⟩
  · split at hLq
    · obtain ⟨v, _, rfl⟩ := Option.map_eq_some_iff.1 hLq; simp
    · obtain ⟨v, _, rfl⟩ := Option.map_eq_some_iff.1 hLq; simp
    · exact absurd hLq (by simp)
  · obtain ⟨q, hq, Lq, hLq, hrq⟩ := bindL_out h r hr
    have h1 := exec_next hc _ _ _ _ hM q hq
    split at hLq
    · obtain ⟨v, _, rfl⟩ := Option.map_eq_some_iff.1 hLq
      simp at hrq; subst hrq; exact h1
    · obtain ⟨v, _, rfl⟩ := Option.map_eq_some_iff.1 hLq
      simp at hrq; subst hrq; exact h1
    · exact absurd hLq (by simp)

theorem mergeL_sub {H : Heap} : ∀ {L : List (V × Heap)} {r : V × Heap}, r ∈ mergeL H L → r ∈ L
  | [], r, h => by simp [mergeL] at h
  | x :: l, r, h => by
    simp only [mergeL] at h
    split at h
    · exact List.mem_cons_of_mem _ (mergeL_sub h)
    · rcases List.mem_cons.1 h with rfl | h
      · exact List.mem_cons_self
      · exact List.mem_cons_of_mem _ (mergeL_sub h)
theorem mergeL_ne {H : Heap} : ∀ {L : List (V × Heap)}, L ≠ [] → mergeL H L ≠ []
  | [], h => absurd rfl h
  | x :: l, _ => by
    simp only [mergeL]
    split
    · rename_i ha
      intro hn
      rw [hn] at ha
      simp at ha
    · simp

theorem stepCallM_grows {cl : CallFn} (hc : Grows cl) {P : Program} {tb : Tb} (n : Nat) : Grows (stepCallM P tb n cl) := by
  intro f args H L h
  obtain ⟨M, hM, rfl⟩ := Option.map_eq_some_iff.1 h
  have := stepCall_grows hc n f args H M hM
  exact ⟨mergeL_ne this.1, fun r hr => this.2 r (mergeL_sub hr)⟩

theorem call_grows {P : Program} {tb : Tb} : ∀ n, Grows (call P tb n)
  | 0 => by intro f args H L h; simp [call] at h
  | n + 1 => stepCallM_grows (call_grows n) n

end
end Go.Sx
