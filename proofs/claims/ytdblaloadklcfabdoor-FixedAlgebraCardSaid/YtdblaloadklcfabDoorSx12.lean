/- The next round of a range; then all the operations on memory in one theorem. -/
import Derived.Test.YtdblaloadklcfabDoorSx11
set_option linter.unusedVariables false
set_option linter.unusedSimpArgs false
namespace Go.Sx
noncomputable section

theorem run_choose_lt {P : Program} (n : Nat) (h : 0 < n) (w : World) : ∃ i w', i < n ∧ (choose (.mapNext n)).run P w = .ok i w' ∧ (w' = w ∨ w' = w.drew) := by
  unfold choose
  simp only [Sem.run]
  split
  · exact ⟨0, w, h, rfl, .inl rfl⟩
  · exact ⟨_, _, Nat.mod_lt _ h, rfl, .inr rfl⟩

section
variable {P : Program} {tb : Tb} (hok : tb.Ok P) {N : Nat} {φ : Froz} {γ : Place} {H : Heap} {w : World} (hr : Rel N φ γ H w)
include hr

/-- An iterator goes on. -/
theorem iter_put {r cb e : Nat} {k k' : Blk} {o o' : Obj} (hm : γ r = some (cb, 0, e)) (hg : H.get r = some k) (hs : k.solid = true) (hmk : k.mark (cb, 0, e) = 0) (hmk' : k'.mark (cb, 0, e) = 0) (hh : w.heap[cb]? = some o) (hb : BlkRel φ γ { w with heap := w.heap.setIfInBounds cb o' } (cb, 0, e) k') :
    Step N φ γ H w φ γ (H.put r k') { w with heap := w.heap.setIfInBounds cb o' } (fun i => i = r) := by
  have hlt : cb < w.heap.size := (Array.getElem?_eq_some_iff.1 hh).1
  refine Step.put hr hm hg hs (FLe.refl _) rfl rfl rfl (by simp) (fun i hi => by simp [Ne.symm hi]) (fun i o v hv => ?_) (fun _ _ _ h => .inl h) hb (fun _ o ho => hr.free _ _ _ hm hg hs o (by omega))
  have hne : i ≠ cb := by
    rintro rfl
    have := hr.free _ _ _ hm hg hs o (by omega)
    simp only at this
    rw [this] at hv
    exact absurd hv (by simp)
  have := hr.froz _ _ _ hv
  rw [← this]
  exact World.cell?_of_block (w := w) (by simp [Ne.symm hne])

theorem next_ok {x : V} {x' : Value} {isS : Bool} {ty : TypeId} {L : List (V × Heap)} (h : evalNext H x isS = some L) (hx : VRel φ γ x x') : ∃ r ∈ L, ∃ T, MemOut P N φ γ H w r.1 r.2 T (do pure (.value (← Instr.next x' isS ty))) := by
  have hover : VRel φ γ (V.tuple [.bool false]) (.tuple #[.bool false]) := .tuple rfl (fun j u hj => by
    match j, hj with
    | 0, hj => simp at hj; subst hj; exact .val rfl)
  unfold evalNext at h
  split at h
  · rename_i r
    split at h
    · rename_i s pos hg
      cases hx with
      | ptr hm =>
        rename_i cb e
        obtain ⟨_, h1⟩ := hr.blk _ _ _ hm hg
        simp only at h1
        have hgo := run_getObj (P := P) h1 (by simp)
        have hlt : cb < w.heap.size := (Array.getElem?_eq_some_iff.1 h1).1
        split at h
        · rename_i hpos
          cases h
          refine ⟨_, List.mem_singleton_self _, _, .value ?_ (iter_put (o' := .stringIter s (pos + (Utf8.decode s pos).2)) hr hm hg rfl rfl rfl h1 ⟨rfl, by simp [hlt]⟩) (.tuple (cs' := #[.bool true, .int .i64 pos, .int .i32 (Utf8.decode s pos).1]) rfl (fun j u hj => ?_))⟩
          · simp only [Instr.next, Sem.run_bind, hgo, Result.andThen_ok, hpos, if_true, Sem.run_pure, goInt]
            rw [run_setObj h1 (by simp)]
            rfl
          · match j, hj with
            | 0, hj => simp at hj; subst hj; exact .val rfl
            | 1, hj => simp at hj; subst hj; exact .val rfl
            | 2, hj => simp at hj; subst hj; exact .val rfl
        · rename_i hpos
          cases h
          exact ⟨_, List.mem_singleton_self _, NoT, .value (w' := w) (by simp [Instr.next, hgo, hpos]) (Step.refl hr) hover⟩
    · rename_i since seen stepped hg
      cases h
      cases hx with
      | ptr hm =>
        rename_i cb e
        obtain ⟨_, cm, h1, h2⟩ := hr.blk _ _ _ hm hg
        simp only at h1
        subst h2
        exact ⟨_, List.mem_singleton_self _, NoT, .value (w' := w) (by simp [Instr.next, run_getObj (P := P) h1 (by simp)]) (Step.refl hr) hover⟩
    · exact absurd h (by simp)
  · exact absurd h (by simp)

include hok
theorem mem_ok {env : Env} {a : Act} (he : ERel φ γ env a) (hgl : GlobOk φ tb) (o : Oper) {L : List (V × Heap)} (h : evalMem tb env H o.op = some L) (hf : ∀ r, r ∈ L → H.next < r.2.next → γ H.next = none) : ∃ r ∈ L, ∃ T, MemOut P N φ γ H w r.1 r.2 T (execOp a.eval o) ∧ (softOp tb env o.op = true → T = NoT) := by
  obtain ⟨dst, op, ty, pos, after, guard⟩ := o
  have one : ∀ {v : V} {H' : Heap} {T : Nat → Prop} {e : Sem Next}, MemOut P N φ γ H w v H' T e → L = [(v, H')] → (softOp tb env op = true → T = NoT) → ∃ r ∈ L, ∃ T, MemOut P N φ γ H w r.1 r.2 T e ∧ (softOp tb env op = true → T = NoT) := fun hm e hs => by subst e; exact ⟨_, List.mem_singleton_self _, _, hm, hs⟩
  have args1 : ∀ {args : Array Operand} {l : List Operand} (j : Nat) (x : Operand), args.toList = l → l[j]? = some x → (args.map a.eval)[j]? = some (a.eval x) := by
    intro args l j x hl hj
    rw [← hl, Array.getElem?_toList] at hj
    simp [hj]
  simp only at h
  unfold evalMem at h
  split at h
  · simp only [Option.bind_eq_bind, Option.bind_eq_some_iff] at h
    obtain ⟨z, hz, h⟩ := h
    obtain ⟨⟨v, H'⟩, hb, rfl⟩ := Option.map_eq_some_iff.1 h
    exact one (alloc_ok hok hr (hf _ (List.mem_singleton_self _)) hz hb) rfl (fun _ => rfl)
  · obtain ⟨⟨v, H'⟩, hb, rfl⟩ := Option.map_eq_some_iff.1 h
    exact one (boxOp_ok hr (hf _ (List.mem_singleton_self _)) (ev_rel he hgl _) hb) rfl (fun _ => rfl)
  · obtain ⟨v, hb, rfl⟩ := Option.map_eq_some_iff.1 h
    exact one (load_ok hok hr (ev_rel he hgl _) hb) rfl (fun _ => rfl)
  · obtain ⟨H', hb, rfl⟩ := Option.map_eq_some_iff.1 h
    obtain ⟨T, hm⟩ := store_ok hok hr (ev_rel he hgl _) (ev_rel he hgl _) hb
    exact one hm rfl (fun h => by simp [softOp] at h)
  · obtain ⟨H', hb, rfl⟩ := Option.map_eq_some_iff.1 h
    exact one (makeMap_ok hr (hf _ (List.mem_singleton_self _)) hb) rfl (fun _ => rfl)
  · obtain ⟨⟨v, H'⟩, hb, rfl⟩ := Option.map_eq_some_iff.1 h
    exact one (makeSlice_ok hok hr (hf _ (List.mem_singleton_self _)) (ev_rel he hgl _) (ev_rel he hgl _) hb) rfl (fun _ => rfl)
  · obtain ⟨v, hb, rfl⟩ := Option.map_eq_some_iff.1 h
    exact one (lookup_ok hok hr hgl.rho hb (ev_rel he hgl _) (ev_rel he hgl _)) rfl (fun _ => rfl)
  · obtain ⟨H', hb, rfl⟩ := Option.map_eq_some_iff.1 h
    obtain ⟨T, hm⟩ := mapUpdate_ok hok hr hgl.rho hb (ev_rel he hgl _) (ev_rel he hgl _) (ev_rel he hgl _)
    exact one hm rfl (fun h => by simp [softOp] at h)
  · obtain ⟨⟨v, H'⟩, hb, rfl⟩ := Option.map_eq_some_iff.1 h
    exact one (range_ok hok hr (hf _ (List.mem_singleton_self _)) hb (ev_rel he hgl _)) rfl (fun _ => rfl)
  · obtain ⟨r, hr1, T, hm⟩ := next_ok (ty := ty) hr h (ev_rel he hgl _)
    exact ⟨r, hr1, T, hm, fun h => by simp [softOp] at h⟩
  · rename_i args ats
    split at h
    · rename_i x t hargs hats
      have ha0 : ats[0]? = some t := by rw [← Array.getElem?_toList, hats]; rfl
      have hx := ev_rel he hgl x
      split at h
      · rename_i m hxm
        rw [hxm] at hx
        split at h
        · rename_i kt et es clock hd hg
          cases h
          have := lenMap_ok (ty := ty) hok hr hd hg hx ha0 (args1 0 x hargs rfl)
          refine one (T := NoT) ?_ rfl (fun _ => rfl)
          simpa [execOp, resolve, invoke, builtin] using this
        · exact absurd h (by simp)
      · obtain ⟨v, hb, rfl⟩ := Option.map_eq_some_iff.1 h
        have := len_ok (ty := ty) hok hr hb hx ha0 (args1 0 x hargs rfl)
        refine one (T := NoT) ?_ rfl (fun _ => rfl)
        simpa [execOp, resolve, invoke, builtin] using this
    · exact absurd h (by simp)
  · rename_i args ats
    split at h
    · rename_i s x t1 t2 hargs hats
      obtain ⟨⟨v, H'⟩, hb, rfl⟩ := Option.map_eq_some_iff.1 h
      obtain ⟨T, hm, hsoft⟩ := append_ok (ty := ty) hok hr (hf _ (List.mem_singleton_self _)) (ev_rel he hgl s) (ev_rel he hgl x) hb
      have e1 : args = #[s, x] := by apply Array.ext'; exact hargs
      have e2 : ats = #[t1, t2] := by apply Array.ext'; exact hats
      subst e1 e2
      refine one (T := T) ?_ rfl (fun h => hsoft fun n es b c hh => by simp [softOp, hh] at h)
      simpa [execOp, resolve, invoke, builtin] using hm
    · exact absurd h (by simp)
  · rename_i args ats
    split at h
    · rename_i x k rest t rest2 hargs hats
      obtain ⟨H', hb, rfl⟩ := Option.map_eq_some_iff.1 h
      have ha0 : ats[0]? = some t := by rw [← Array.getElem?_toList, hats]; rfl
      obtain ⟨T, hm⟩ := delete_ok (ty := ty) hok hr hgl.rho hb (ev_rel he hgl x) (ev_rel he hgl k) ha0 (args1 0 x hargs rfl) (args1 1 k hargs rfl)
      refine one (T := T) ?_ rfl (fun h => by simp [softOp] at h)
      simpa [execOp, resolve, invoke, builtin] using hm
    · exact absurd h (by simp)
  · exact absurd h (by simp)
end

end
end Go.Sx
