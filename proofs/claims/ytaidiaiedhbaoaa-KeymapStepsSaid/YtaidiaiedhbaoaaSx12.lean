/- The next round of a range; then all the operations on memory in one theorem. -/
import Derived.Test.YtaidiaiedhbaoaaSx11
/- The next round of a range; then all the operations on memory in one theorem. -/
set_option linter.unusedVariables false
set_option linter.unusedSimpArgs false
namespace Go.Sx
noncomputable section

theorem run_choose_lt {P : Program} (n : Nat) (h : 0 < n) (w : World) : ∃ i w', i < n ∧ (choose (.mapNext n)).run P w = .ok i w' ∧ (w' = w ∨ w' = w.drew) := by
  unfold choose
  simp only [Sem.run]
  split
  · exact ⟨0, w, h, rfl, .inl rfl⟩
  · exact ⟨_, _, Nat.mod_lt _ h, rfl, .inr rfl⟩

section
variable {P : Program} {tb : Tb} (hok : tb.Ok P) {N : Nat} {φ : Froz} {γ : Place} {H : Heap} {w : World} (hr : Rel N φ γ H w)
include hr

/-- An iterator goes on. -/
theorem iter_put {r cb e : Nat} {k k' : Blk} {o o' : Obj} (hm : γ r = some (cb, 0, e)) (hg : H.get r = some k) (hs : k.solid = true) (hmk : k.mark (cb, 0, e) = 0) (hmk' : k'.mark (cb, 0, e) = 0) (hh : w.heap[cb]? = some o) (hb : BlkRel φ γ { w with heap := w.heap.setIfInBounds cb o' } (cb, 0, e) k') :
    Step N φ γ H w φ γ (H.put r k') { w with heap := w.heap.setIfInBounds cb o' } (fun i => i = r) := by
  have hlt : cb < w.heap.size := (Array.getElem?_eq_some_iff.1 hh).1
  refine Step.put hr hm hg hs (FLe.refl _) rfl rfl rfl (by simp) (fun i hi => by simp [Ne.symm hi]) (fun i o v hv => ?_) (fun _ _ _ h => .inl h) hb (fun _ o ho => hr.free _ _ _ hm hg hs o (by omega))
  have hne : i ≠ cb := by
    rintro rfl
    have := hr.free _ _ _ hm hg hs o (by omega)
    simp only at this
    rw [this] at hv
    exact absurd hv (by simp)
  have := hr.froz _ _ _ hv
  rw [← this]
  exact World.cell?_of_block (w := w) (by simp [Ne.symm hne])

theorem next_ok {x : V} {x' : Value} {isS : Bool} {ty : TypeId} {L : List (V × Heap)} (h : evalNext H x isS = some L) (hx : VRel φ γ x x') : ∃ r ∈ L, ∃ T, MemOut P N φ γ H w r.1 r.2 T (do pure (.value (← Instr.next x' isS ty))) := by
  have hover : VRel φ γ (V.tuple [.bool false]) (.tuple #[.bool false]) := .tuple rfl (fun j u hj => by
    match j, hj with
    | 0, hj => simp at hj; subst hj; exact .val rfl)
  unfold evalNext at h
  split at h
  · rename_i r
    split at h
    · rename_i s pos hg
      cases hx with
      | ptr hm =>
        rename_i cb m0 e
        obtain ⟨h0, h1⟩ := hr.blk _ _ _ hm hg
        simp only at h0 h1
        subst h0
        have hgo := run_getObj (P := P) h1 (by simp)
        have hlt : cb < w.heap.size := (Array.getElem?_eq_some_iff.1 h1).1
        split at h
        · rename_i hpos
          cases h
          refine ⟨_, List.mem_singleton_self _, _, .value ?_ (iter_put (o' := .stringIter s (pos + (Utf8.decode s pos).2)) hr hm hg rfl rfl rfl h1 ⟨rfl, by simp [hlt]⟩) (.tuple (cs' := #[.bool true, .int .i64 pos, .int .i32 (Utf8.decode s pos).1]) rfl (fun j u hj => ?_))⟩
          · simp only [Instr.next, Sem.run_bind, hgo, Result.andThen_ok, hpos, if_true, Sem.run_pure, goInt]
            rw [run_setObj h1 (by simp)]
            rfl
          · match j, hj with
            | 0, hj => simp at hj; subst hj; exact .val rfl
            | 1, hj => simp at hj; subst hj; exact .val rfl
            | 2, hj => simp at hj; subst hj; exact .val rfl
        · rename_i hpos
          cases h
          exact ⟨_, List.mem_singleton_self _, NoT, .value (w' := w) (by simp [Instr.next, hgo, hpos]) (Step.refl hr) hover⟩
    · rename_i since seen stepped hg
      cases h
      cases hx with
      | ptr hm =>
        rename_i cb m0 e
        obtain ⟨h0, cm, h1, h2⟩ := hr.blk _ _ _ hm hg
        simp only at h0 h1
        subst h0
        subst h2
        exact ⟨_, List.mem_singleton_self _, NoT, .value (w' := w) (by simp [Instr.next, run_getObj (P := P) h1 (by simp)]) (Step.refl hr) hover⟩
    · rename_i m since seen last hg
      split at h
      · rename_i es clock hgm
        split at h
        · exact absurd h (by simp)
        · rename_i hcond
          cases h
          cases hx with
          | ptr hm =>
            rename_i cb m0 e
            obtain ⟨h0, cm, h1, y, hy, hcm⟩ := hr.blk _ _ _ hm hg
            simp only at h0 h1
            subst h0
            subst hcm
            obtain ⟨ms, g1, g2, g3⟩ := hr.blk _ _ _ hy hgm
            have hems := entries_of g2 g3
            have hgo := run_getObj (P := P) h1 (by simp)
            have hgm' := run_getObj (P := P) g1 (by simp)
            have hlt : cb < w.heap.size := (Array.getElem?_eq_some_iff.1 h1).1
            -- entries here and there
            have here : ∀ x, x ∈ ms → ∃ e, e ∈ es ∧ EntryRel φ γ e x := by
              intro x hx
              obtain ⟨j, hj⟩ := List.mem_iff_getElem?.1 (Array.mem_toList_iff.2 hx)
              have hjl := getElem?_lt hj
              rw [hems.1] at hjl
              obtain ⟨x2, hx2, hr2⟩ := hems.2 j es[j] (by simp [hjl])
              rw [hj] at hx2
              cases hx2
              exact ⟨_, List.getElem_mem hjl, hr2⟩
            have there : ∀ e, e ∈ es → ∃ x, x ∈ ms ∧ EntryRel φ γ e x := by
              intro e he
              obtain ⟨j, hj⟩ := List.mem_iff_getElem?.1 he
              obtain ⟨x, hx, hr2⟩ := hems.2 j e hj
              exact ⟨x, Array.mem_toList_iff.1 (List.mem_of_getElem? hx), hr2⟩
            have hcond' : (!seen.toArray.isEmpty && !ms.isEmpty && ms.all (fun e => decide (e.born ≥ last))) = false := by
              rw [Bool.eq_false_iff]
              intro hc
              simp only [Bool.and_eq_true, Bool.not_eq_true'] at hc
              obtain ⟨⟨a1, a2⟩, a3⟩ := hc
              apply hcond
              simp only [Bool.and_eq_true, Bool.not_eq_true']
              refine ⟨by simpa using a1, ?_, ?_⟩
              · have : ms ≠ #[] := by simpa using a2
                cases es with
                | nil => exact absurd (Array.eq_empty_of_size_eq_zero (by simpa using g2)) this
                | cons _ _ => rfl
              · rw [List.all_eq_true]
                intro e he
                obtain ⟨x, hx, hr2⟩ := there e he
                rw [Array.all_eq_true'] at a3
                have := a3 x hx
                rw [hr2.2.2.1] at this
                exact this
            -- what is left
            obtain ⟨old, hold⟩ : ∃ old, old = (ms.filter fun e => !seen.toArray.contains e.born).filter (·.born < since) := ⟨_, rfl⟩
            obtain ⟨new, hnew⟩ : ∃ new, new = (ms.filter fun e => !seen.toArray.contains e.born).filter (·.born ≥ since) := ⟨_, rfl⟩
            obtain ⟨cand, hcand⟩ : ∃ cand, cand = (if old.isEmpty then #[none] else #[]) ++ (old ++ new).map some := ⟨_, rfl⟩
            have hsz : 0 < cand.size := by
              subst hcand
              by_cases ho : old.isEmpty
              · simp [ho]; omega
              · have : 0 < old.size := by
                  rcases Nat.eq_zero_or_pos old.size with h | h
                  · exact absurd (by simp [Array.isEmpty, h]) ho
                  · exact h
                simp [ho]
                omega
            obtain ⟨i, w1, hi, hch, hw1⟩ := run_choose_lt (P := P) cand.size hsz w
            have hrel1 : Rel N φ γ H w1 := hr.heap (by rcases hw1 with rfl | rfl <;> rfl)
            have hh1 : w1.heap[cb]? = some (.mapIter (some y.1) since seen.toArray last) := by rcases hw1 with rfl | rfl <;> exact h1
            have hback : ∀ {φ' γ' H' w' T}, Step N φ γ H w1 φ' γ' H' w' T → Step N φ γ H w φ' γ' H' w' T := by
              intro φ' γ' H' w' T hs
              rcases hw1 with rfl | rfl
              · exact hs
              · exact hs.drew
            have hci : cand[i]? = some cand[i] := by simp [hi]
            have hrunN : cand[i] = none → (Instr.next (.pointer (some ⟨cb, 0, none⟩)) false ty).run P w = .ok (.tuple #[.bool false]) w1 := by
              intro hc
              simp only [Instr.next, Sem.run_bind, hgo, Result.andThen_ok, hgm', hcond', Bool.false_eq_true, if_false]
              rw [← hold, ← hnew, ← hcand, hch]
              simp [hci, hc]
            have hrunS : ∀ {x : MapEntry} {w2 : World}, cand[i] = some x → (setObj cb (.mapIter (some y.1) since (seen.toArray.push x.born) clock)).run P w1 = .ok () w2 → (Instr.next (.pointer (some ⟨cb, 0, none⟩)) false ty).run P w = .ok (.tuple #[.bool true, x.key, x.val]) w2 := by
              intro x w2 hc hh
              simp only [Instr.next, Sem.run_bind, hgo, Result.andThen_ok, hgm', hcond', Bool.false_eq_true, if_false]
              rw [← hold, ← hnew, ← hcand, hch]
              simp only [Result.andThen_ok, hci, hc, Sem.run_bind, hh, Sem.run_pure]
            cases hc : cand[i] with
            | none =>
              have hmem : (none : Option MapEntry) ∈ cand := by rw [← hc]; exact Array.getElem_mem hi
              have hoe : old.isEmpty = true := by
                subst hcand
                by_cases ho : old.isEmpty
                · exact ho
                · simp [ho] at hmem
              refine ⟨(.tuple [.bool false], H.put r (.tail false)), ?_, fun i => i = r, .value (w' := w1) (hrunN hc) (hback (Step.put hrel1 hm hg rfl (FLe.refl _) rfl rfl rfl rfl (fun _ _ => rfl) hrel1.froz (fun _ _ _ h => .inl h) trivial (fun h => by simp [Blk.solid] at h))) hover⟩
              refine List.mem_append_left _ ?_
              rw [if_pos]
              · exact List.mem_singleton_self _
              · rw [List.isEmpty_iff, List.filter_eq_nil_iff]
                intro e he hh
                obtain ⟨x, hx, hr2⟩ := there e he
                simp only [Bool.and_eq_true, Bool.not_eq_true', decide_eq_true_eq] at hh
                have : x ∈ old := by
                  subst hold
                  simp only [Array.mem_filter, hr2.2.2.1]
                  refine ⟨⟨hx, ?_⟩, ?_⟩
                  · have := hh.1
                    simpa using this
                  · simpa using hh.2
                rw [Array.isEmpty_iff] at hoe
                rw [hoe] at this
                exact absurd this (by simp)
            | some x =>
              have hmem : some x ∈ cand := by rw [← hc]; exact Array.getElem_mem hi
              have hxl : x ∈ ms ∧ seen.contains x.born = false := by
                subst hcand
                have : x ∈ old ∨ x ∈ new := by
                  by_cases ho : old.isEmpty <;> simpa [ho] using hmem
                rcases this with h | h
                · subst hold
                  simp only [Array.mem_filter] at h
                  exact ⟨h.1.1, by simpa using h.1.2⟩
                · subst hnew
                  simp only [Array.mem_filter] at h
                  exact ⟨h.1.1, by simpa using h.1.2⟩
              obtain ⟨en, hen, hr2⟩ := here x hxl.1
              refine ⟨(.tuple [.bool true, .val en.1, en.2.1], H.put r (.miter (some m) since (seen ++ [en.2.2]) clock)), ?_, fun i => i = r, .value (hrunS hc (w2 := { w1 with heap := w1.heap.setIfInBounds cb (.mapIter (some y.1) since (seen.toArray.push x.born) clock) }) ?_) (hback (iter_put hrel1 hm hg rfl rfl rfl hh1 ⟨rfl, some y.1, ?_, y, hy, rfl⟩)) (.tuple (cs' := #[.bool true, x.key, x.val]) rfl (fun j u hj => ?_))⟩
              · refine List.mem_append_right _ (List.mem_map.2 ⟨en, List.mem_filter.2 ⟨hen, ?_⟩, rfl⟩)
                rw [← hr2.2.2.1, hxl.2]; rfl
              · rw [run_setObj hh1 (by simp)]
              · have hlt1 : cb < w1.heap.size := (Array.getElem?_eq_some_iff.1 hh1).1
                simp [hlt1, hr2.2.2.1]
              · match j, hj with
                | 0, hj => simp at hj; subst hj; exact .val rfl
                | 1, hj => simp at hj; subst hj; rw [show (#[Value.bool true, x.key, x.val] : Array Value).getD 1 undef = x.key from rfl, hr2.2.1]; exact .val hr2.1
                | 2, hj => simp at hj; subst hj; exact hr2.2.2.2
      · exact absurd h (by simp)
    · exact absurd h (by simp)
  · exact absurd h (by simp)

omit hok hr in
theorem find_born {φ : Froz} {γ : Place} {stamp : Nat} : ∀ {es : List (Value × V × Nat)} {ms : List MapEntry} {e : Value × V × Nat}, EntriesRel φ γ es ms → es.find? (fun e => e.2.2 == stamp) = some e → ∃ x, ms.find? (fun x => x.born == stamp) = some x ∧ EntryRel φ γ e x
  | [], ms, e, _, h => by simp at h
  | a :: es, [], e, hr, _ => by have := hr.1; simp at this
  | a :: es, x :: ms, e, hr, h => by
    obtain ⟨x0, hx0, hax⟩ := hr.2 0 a rfl
    simp at hx0
    subst hx0
    have hr2 : EntriesRel φ γ es ms := ⟨by simpa using hr.1, fun j e hj => by
      obtain ⟨y, hy, h2⟩ := hr.2 (j + 1) e (by simpa using hj)
      exact ⟨y, by simpa using hy, h2⟩⟩
    rw [List.find?_cons] at h ⊢
    rw [hax.2.2.1]
    split at h
    · cases h
      exact ⟨x, rfl, hax⟩
    · exact find_born hr2 h

omit hok in
theorem entry_ok {x v : V} {x' : Value} (h : evalEntry H x = some v) (hx : VRel φ γ x x') : MemOut P N φ γ H w v H NoT (do pure (.value (← Instr.entry x'))) := by
  unfold evalEntry at h
  split at h
  · rename_i r
    split at h
    · rename_i m since seen stepped hg
      split at h
      · rename_i stamp es clock hlast hgm
        split at h
        · rename_i hclock
          split at h
          · rename_i e hfind
            cases h
            cases hx with
            | ptr hm =>
              rename_i cb m0 e0
              obtain ⟨h0, cm, h1, y, hy, hcm⟩ := hr.blk _ _ _ hm hg
              simp only at h0 h1
              subst h0
              subst hcm
              obtain ⟨ms, g1, g2, g3⟩ := hr.blk _ _ _ hy hgm
              have hems := entries_of g2 g3
              have hgo := run_getObj (P := P) h1 (by simp)
              have hgm' := run_getObj (P := P) g1 (by simp)
              obtain ⟨xe, hxe, hex⟩ := find_born hems hfind
              have hback : seen.toArray.back? = some stamp := by simpa using hlast
              have hfa : ms.find? (fun x => x.born == stamp) = some xe := by rw [← Array.find?_toList]; exact hxe
              refine .value (w' := w) (cv := .tuple #[xe.key, xe.val]) ?_ (Step.refl hr) (.tuple rfl (fun j u hj => ?_))
              · simp only [Instr.entry, Sem.run_bind, hgo, Result.andThen_ok, hback, hgm', hclock, bne_self_eq_false, Bool.false_eq_true, if_false, hfa, Sem.run_pure]
              · match j, hj with
                | 0, hj => simp at hj; subst hj; rw [show (#[xe.key, xe.val] : Array Value).getD 0 undef = xe.key from rfl, hex.2.1]; exact .val hex.1
                | 1, hj => simp at hj; subst hj; exact hex.2.2.2
          · exact absurd h (by simp)
        · exact absurd h (by simp)
      · exact absurd h (by simp)
    · exact absurd h (by simp)
  · exact absurd h (by simp)

include hok in
theorem mapEntry_ok (hρ : φ.rho = tb.rho) {T : TypeId} {x k v : V} {x' k' : Value} {H' : Heap} (h : evalMapEntry tb H T x k = some (v, H')) (hx : VRel φ γ x x') (hk : VRel φ γ k k') : ∃ T', MemOut P N φ γ H w v H' T' (do pure (.value (← Instr.mapEntry T x' k'))) := by
  unfold evalMapEntry at h
  split at h
  · rename_i kt et m hd
    split at h
    · rename_i key es clock hkey hg
      obtain ⟨rfl, hpl, d, hdk, hsame, hcheck⟩ := keyOf_ok hok hρ hkey hk
      cases hx with
      | map hm =>
        rename_i cm a b
        obtain ⟨ms, h1, h2, h3⟩ := hr.blk _ _ _ hm hg
        simp only at h1
        have hems := entries_of h2 h3
        have hgo := run_getObj (P := P) h1 (by simp)
        split at h
        · rename_i j u hf
          split at h
          · rename_i e0 he0
            cases h
            obtain ⟨r', hf1, hf2⟩ := findIx_ok hsame hems hf
            cases r' with
            | none => exact hf2.elim
            | some p =>
              obtain ⟨ej, hu, _, e, hej, hev, hsk⟩ := hf2
              simp only [Nat.sub_zero] at hej ej
              rw [hej] at he0
              cases he0
              obtain ⟨mm, hmm, hme⟩ := hems.2 _ _ hej
              rw [Array.getElem?_toList] at hmm
              have hs := map_put hr hm hg h1 (es' := es.modify j fun e => (k', e.2.1, e.2.2)) (clock' := clock) (ms' := ms.modify j fun e => { e with key := k' }) ⟨by simp [h2], fun i e' he' => ?_⟩
              · refine ⟨_, .value (cv := .tuple #[p.2, .int .i64 mm.born]) ?_ hs (.tuple rfl (fun i u' hi => ?_))⟩
                · have hkk : (Instr.keyThatStays (((ms[j]?).map (·.key)).getD k') k').run P w = .ok k' w := by
                    rw [hmm]
                    simp only [Option.map_some, Option.getD_some, Instr.keyThatStays, hme.2.1, sameBits_of hsk, if_true, Sem.run_pure]
                  simp only [Instr.mapEntry, Sem.run_bind, run_underlying (hok.desc _ _ hd), Result.andThen_ok, hgo, hcheck, Instr.findKey, run_underlying hdk, hf1, Sem.run_pure]
                  rw [ej, hkk]
                  simp only [Result.andThen_ok]
                  rw [run_setObj h1 (by simp), hmm]
                  rfl
                · match i, hi with
                  | 0, hi => simp at hi; subst hi; exact hu
                  | 1, hi => simp at hi; subst hi; rw [← hme.2.2.1]; exact .val rfl
              · rw [List.getElem?_modify] at he'
                simp only [Array.toList_modify, List.getElem?_modify]
                by_cases hij : j = i
                · subst hij
                  simp only [if_true] at he' ⊢
                  rw [hej] at he'
                  simp at he'
                  subst he'
                  rw [Array.getElem?_toList, hmm]
                  exact ⟨_, rfl, hpl, rfl, hme.2.2.1, hme.2.2.2⟩
                · simp only [hij, if_false, Option.map_id'] at he' ⊢
                  obtain ⟨x, hx, hex⟩ := hems.2 i e' (by simpa using he')
                  exact ⟨x, by simpa using hx, hex⟩
          · exact absurd h (by simp)
        · rename_i hf
          split at h
          · rename_i z hz
            cases h
            obtain ⟨zv, hzv, hzo⟩ := run_zeroValue' hok w hz
            have hzr : ∀ {φ : Froz} {γ : Place}, VRel φ γ z zv := ofValue_rel hzo
            obtain ⟨r', hf1, hf2⟩ := findIx_ok hsame hems hf
            cases r' with
            | some p => exact hf2.elim
            | none =>
              have hs := map_put hr hm hg h1 (es' := es ++ [(k', z, clock)]) (clock' := clock + 1) (ms' := ms.push { key := k', val := zv, born := clock }) ⟨by simp [h2], fun i e' he' => ?_⟩
              · refine ⟨_, .value (cv := .tuple #[zv, .int .i64 clock]) ?_ hs (.tuple rfl (fun i u' hi => ?_))⟩
                · simp only [Instr.mapEntry, Sem.run_bind, run_underlying (hok.desc _ _ hd), Result.andThen_ok, hgo, hcheck, Instr.findKey, run_underlying hdk, hf1, Sem.run_pure, hzv]
                  rw [run_setObj h1 (by simp)]
                  rfl
                · match i, hi with
                  | 0, hi => simp at hi; subst hi; exact hzr
                  | 1, hi => simp at hi; subst hi; exact .val rfl
              · simp only [Array.toList_push]
                by_cases hi : i < es.length
                · rw [List.getElem?_append_left hi] at he'
                  obtain ⟨x, hx, hex⟩ := hems.2 i e' he'
                  exact ⟨x, by rw [List.getElem?_append_left (by have := hems.1; omega)]; exact hx, hex⟩
                · rw [List.getElem?_append_right (by omega)] at he'
                  have hil := getElem?_lt he'
                  simp at hil
                  have hie : i = es.length := by omega
                  subst hie
                  simp at he'
                  subst he'
                  exact ⟨{ key := k', val := zv, born := clock }, by rw [List.getElem?_append_right (by have := hems.1; omega)]; simp [h2], hpl, rfl, rfl, hzr⟩
          · exact absurd h (by simp)
        · exact absurd h (by simp)
    · exact absurd h (by simp)
  · exact absurd h (by simp)

omit hok hr in
theorem findIdx_born {φ : Froz} {γ : Place} {b : Int} : ∀ {es : List (Value × V × Nat)} {ms : List MapEntry}, EntriesRel φ γ es ms → ms.findIdx? (fun x => (x.born : Int) == b) = es.findIdx? (fun e => (e.2.2 : Int) == b)
  | [], ms, hr => by
    have : ms = [] := List.length_eq_zero_iff.1 hr.1
    subst this; rfl
  | a :: es, [], hr => by have := hr.1; simp at this
  | a :: es, x :: ms, hr => by
    obtain ⟨x0, hx0, hax⟩ := hr.2 0 a rfl
    simp at hx0
    subst hx0
    have hr2 : EntriesRel φ γ es ms := ⟨by simpa using hr.1, fun j e hj => by
      obtain ⟨y, hy, h2⟩ := hr.2 (j + 1) e (by simpa using hj)
      exact ⟨y, by simpa using hy, h2⟩⟩
    rw [List.findIdx?_cons, List.findIdx?_cons, hax.2.2.1, findIdx_born hr2]

omit hok in
theorem entryStore_ok {T : TypeId} {x s v : V} {x' s' v' : Value} {H' : Heap} (h : evalEntryStore H x s v = some H') (hx : VRel φ γ x x') (hs : VRel φ γ s s') (hv : VRel φ γ v v') : ∃ T', MemOut P N φ γ H w V.undef H' T' (do Instr.entryStore T x' s' v'; pure .skip) := by
  unfold evalEntryStore at h
  split at h
  · rename_i m born
    split at h
    · rename_i es clock hg
      split at h
      · rename_i i hi
        cases h
        cases hs
        cases hx with
        | map hm =>
          rename_i cm a b
          obtain ⟨ms, h1, h2, h3⟩ := hr.blk _ _ _ hm hg
          simp only at h1
          have hems := entries_of h2 h3
          have hgo := run_getObj (P := P) h1 (by simp)
          have hfi : ms.findIdx? (fun x => (x.born : Int) == born) = some i := by
            rw [← hi, ← findIdx_born hems]
            have e : ms = ms.toList.toArray := by simp
            conv => lhs; rw [e]
            rw [List.findIdx?_toArray]
          have hil : i < es.length := by
            have := List.findIdx?_eq_some_iff_getElem.1 hi
            obtain ⟨h, _⟩ := this
            exact h
          refine ⟨_, .unit ?_ (map_put hr hm hg h1 (ms' := ms.modify i fun e => { e with val := v' }) ⟨by simp [h2], fun j e' he' => ?_⟩)⟩
          · simp only [Instr.entryStore, Sem.run_bind, hgo, Result.andThen_ok]
            have hai : (asInt (.int .i64 born)).run P w = .ok born w := by simp [asInt, asIntOf]
            rw [hai]
            simp only [Result.andThen_ok, hfi]
            rw [run_setObj h1 (by simp)]
          · rw [List.getElem?_modify] at he'
            simp only [Array.toList_modify, List.getElem?_modify]
            by_cases hij : i = j
            · subst hij
              simp only [if_true] at he' ⊢
              obtain ⟨mm, hmm, hme⟩ := hems.2 i es[i] (by simp [hil])
              rw [List.getElem?_eq_getElem hil] at he'
              simp at he'
              subst he'
              rw [hmm]
              exact ⟨_, rfl, hme.1, hme.2.1, hme.2.2.1, hv⟩
            · simp only [hij, if_false, Option.map_id'] at he' ⊢
              obtain ⟨x, hx, hex⟩ := hems.2 j e' (by simpa using he')
              exact ⟨x, by simpa using hx, hex⟩
      · exact absurd h (by simp)
    · exact absurd h (by simp)
  · exact absurd h (by simp)

omit hr in
/-- The first of the cells that an append would add. -/
theorem Adds.firstCells {P : Program} {sz : Nat} {z : Array Value} {w : World} {t2 e2 : TypeId} {x' : Value} {n : Nat} {vals : List Value} (ha : Adds P sz z w t2 x' n vals) (hd : P.underlying t2 = some (.slice e2)) (k : Nat) (hk : k ≤ n) :
    (Builtin.lenOf x').run P w = .ok n w ∧ (Builtin.firstCells sz k x').run P w = .ok (vals.take (k * sz)).toArray w := by
  cases ha with
  | slice hu hl hc =>
    rename_i e a c
    refine ⟨by simp [Builtin.lenOf], run_firstCells_some w sz k a n c _ ?_ (fun j v hj => ?_)⟩
    · have := Nat.mul_le_mul_right sz hk
      simp; omega
    · rw [List.getElem?_take] at hj
      split at hj
      · exact hc j v hj
      · exact absurd hj (by simp)
  | nil hu =>
    refine ⟨by simp [Builtin.lenOf], ?_⟩
    have := run_firstCells_none (P := P) w sz k 0 0
    simpa using this
  | str hu h1 => rw [hd] at hu; exact absurd hu (by simp)
  | zeros hu h0 h2 => rw [hd] at hu; exact absurd hu (by simp)

include hok
theorem copy_ok {H' : Heap} {T1 T2 ty : TypeId} {d x v : V} {d' x' : Value} (h : evalCopy tb H T1 T2 d x = some (v, H')) (hd : VRel φ γ d d') (hx : VRel φ γ x x') : ∃ T, MemOut P N φ γ H w v H' T (do pure (.value (← Builtin.copy_ #[T1, T2] ty #[d', x']))) := by
  unfold evalCopy at h
  split at h
  · rename_i e e2 h1 h2
    simp only [Option.bind_eq_some_iff] at h
    obtain ⟨sz, hsz, by_, hby, z, hz, h⟩ := h
    split at h
    · rename_i hzl
      obtain ⟨xs, hxs, h⟩ := Option.bind_eq_some_iff.1 h
      obtain ⟨i, zv, g1, g2, g3, g4, g5⟩ := info3 hok hsz hby hz
      obtain ⟨vals, ha, hrow, hvl, hvc⟩ := adds_ok hok hr hz g5 hzl hxs hx
      have run : ∀ {base : Option Addr} {len cap : Nat} {w2 : World}, (match base with | some a => storeCells a (vals.take (min xs.length len * sz)) | none => pure () : Sem Unit).run P w = .ok () w2 →
          (Builtin.copy_ #[T1, T2] ty #[.slice base len cap, x']).run P w = .ok (.int .i64 (min xs.length len : Nat)) w2 := by
        intro base len cap w2 hst
        have hf := ha.firstCells (hok.desc _ _ h2) (min xs.length len) (Nat.min_le_left _ _)
        have hmin : Nat.min xs.length len = min xs.length len := rfl
        cases base with
        | none =>
          simp only [] at hst
          simp [Builtin.copy_, run_underlying (hok.desc _ _ h1), hf.1, hf.2, run_sizeOf' hok w hsz, goInt, hmin] at hst ⊢
          exact hst
        | some a =>
          simp only [] at hst
          simp [Builtin.copy_, run_underlying (hok.desc _ _ h1), hf.1, hf.2, run_sizeOf' hok w hsz, goInt, hmin, hst]
      have zero : ∀ {base : Option Addr} {cap : Nat}, MemOut P N φ γ H w (.int 0) H NoT (do pure (.value (← Builtin.copy_ #[T1, T2] ty #[.slice base 0 cap, x']))) := by
        intro base cap
        have := run (base := base) (len := 0) (cap := cap) (w2 := w) (by cases base <;> simp [storeCells])
        exact .value (by simpa using this) (Step.refl hr) (.val rfl)
      have go : ∀ {b off len cb m e0 cap : Nat}, γ b = some (cb, m, e0) → copyBox H sz xs b off len = some (v, H') → ∃ T, MemOut P N φ γ H w v H' T (do pure (.value (← Builtin.copy_ #[T1, T2] ty #[.slice (some ⟨cb, m + off, none⟩) len cap, x']))) := by
        intro b off len cb m e0 cap hb h
        unfold copyBox at h
        split at h
        · rename_i cs hg
          split at h
          · rename_i hle
            cases h
            have hrow2 : ∀ c, c ∈ xs.take (min xs.length len) → c.length = sz := fun c hc => hrow c (List.mem_of_mem_take hc)
            have hfl := flat_len hrow2
            have hln : (xs.take (min xs.length len)).length = min xs.length len := by simp
            rw [hln] at hfl
            have hmul : min xs.length len * sz ≤ xs.length * sz := Nat.mul_le_mul_right _ (Nat.min_le_left _ _)
            have hvt : (vals.take (min xs.length len * sz)).length = min xs.length len * sz := by rw [List.length_take]; omega
            obtain ⟨w2, hst, hs⟩ := box_write (P := P) hr hb hg (off := off) (xs := (xs.take (min xs.length len)).flatten) (vs := vals.take (min xs.length len * sz)) (hvt.trans hfl.symm) (by omega) (fun j u hj => by
              have hjl := getElem?_lt hj
              rw [hfl] at hjl
              have e1 : xs.flatten = (xs.take (min xs.length len)).flatten ++ (xs.drop (min xs.length len)).flatten := by rw [← List.flatten_append, List.take_append_drop]
              have hj2 : xs.flatten[j]? = some u := by rw [e1, List.getElem?_append_left (by omega)]; exact hj
              have := hvc j u hj2
              rw [List.getD_eq_getElem?_getD] at this ⊢
              rw [List.getElem?_take, if_pos hjl]
              exact this)
            rw [hfl] at hs
            exact ⟨_, .value (run (base := some ⟨cb, m + off, none⟩) hst) hs (.val rfl)⟩
          · exact absurd h (by simp)
        · exact absurd h (by simp)
      unfold copyTo at h
      split at h
      · rename_i n tok
        cases h
        rcases hd.list_inv with ⟨_, _, rfl⟩ | ⟨_, a, cap, sz2, f, rfl, hli⟩
        · exact ⟨_, zero⟩
        · exact ⟨_, zero⟩
      · rename_i b off len cap
        cases hd with
        | mslice hb hlc hcm => exact go hb h
      · rename_i b off len kc sz2
        cases hd with
        | vslice hb hlk hkc hcm hat =>
          split at h
          · rename_i h0
            cases h
            subst h0
            exact ⟨_, zero⟩
          · obtain ⟨rfl, _⟩ := hat (by omega)
            exact go hb h
      · exact absurd h (by simp)
    · exact absurd h (by simp)
  · exact absurd h (by simp)

theorem clear_ok {H' : Heap} {T ty : TypeId} {x : V} {x' : Value} (h : evalClear tb H T x = some H') (hx : VRel φ γ x x') : ∃ T', MemOut P N φ γ H w V.undef H' T' (do pure (.value (← Builtin.clear_ #[T] ty #[x']))) := by
  have hund : ∀ {φ : Froz} {γ : Place}, VRel φ γ V.undef (.tuple #[]) := .tuple rfl (fun j v hj => by simp at hj)
  unfold evalClear at h
  split at h
  · rename_i e h1
    simp only [Option.bind_eq_bind, Option.bind_eq_some_iff] at h
    obtain ⟨sz, hsz, z, hz, h⟩ := h
    obtain ⟨zv, hzv, hzo⟩ := run_zeroValue' hok w hz
    have zero : ∀ {base : Option Addr} {cap : Nat}, MemOut P N φ γ H w V.undef H NoT (do pure (.value (← Builtin.clear_ #[T] ty #[.slice base 0 cap]))) := by
      intro base cap
      refine .value (w' := w) (cv := .tuple #[]) ?_ (Step.refl hr) hund
      cases base <;> simp [Builtin.clear_, run_underlying (hok.desc _ _ h1)]
    have go : ∀ {b off len cb m e0 cap : Nat}, len ≠ 0 → γ b = some (cb, m, e0) → (match H.get b with
        | some (.cells cs) => if z.cells.length = sz && off + len * sz ≤ cs.length then some (H.put b (.cells (cs.take off ++ (List.replicate len z.cells).flatten ++ cs.drop (off + len * sz)))) else none
        | _ => none) = some H' → ∃ T', MemOut P N φ γ H w V.undef H' T' (do pure (.value (← Builtin.clear_ #[T] ty #[.slice (some ⟨cb, m + off, none⟩) len cap]))) := by
      intro b off len cb m e0 cap hl0 hb h
      split at h
      · rename_i cs hg
        split at h
        · rename_i hcond
          cases h
          simp only [Bool.and_eq_true, decide_eq_true_eq] at hcond
          obtain ⟨hzl, hle⟩ := hcond
          have hz0 := zeros_rel (zero_cells (φ := φ) (γ := γ) hzo) hzl len
          have hzs : zv.cells.size = sz := by rw [← hzl]; exact (zero_cells (φ := φ) (γ := γ) hzo).1
          have hfl : ((List.replicate len z.cells).flatten).length = len * sz := by simp [hzl]
          have hzc : (Builtin.zeroCells zv.cells len).toList = (madeCells zv.cells (len * sz)).toList := by rw [zeroCells_made, hzs]
          obtain ⟨w2, hst, hs⟩ := box_write (P := P) hr hb hg (off := off) (xs := (List.replicate len z.cells).flatten) (vs := (Builtin.zeroCells zv.cells len).toList) (by rw [hfl, hzc]; simp [size_madeCells]) (by omega) (fun j u hj => by
            have := hz0.2 j u hj
            refine ⟨this.1, ?_⟩
            rw [hzc, List.getD_eq_getElem?_getD, Array.getElem?_toList, ← Array.getD_eq_getD_getElem?]
            exact this.2)
          rw [hfl] at hs
          refine ⟨_, .value (cv := .tuple #[]) ?_ hs hund⟩
          obtain ⟨len, rfl⟩ := Nat.exists_eq_succ_of_ne_zero hl0
          simp [Builtin.clear_, run_underlying (hok.desc _ _ h1), hzv, hst]
        · exact absurd h (by simp)
      · exact absurd h (by simp)
    split at h
    · rename_i n tok
      cases h
      rcases hx.list_inv with ⟨_, _, rfl⟩ | ⟨_, a, cap, sz2, f, rfl, hli⟩
      · exact ⟨_, zero⟩
      · exact ⟨_, zero⟩
    · rename_i b off len cap
      cases hx with
      | mslice hb hlc hcm =>
        split at h
        · rename_i h0
          cases h
          subst h0
          exact ⟨_, zero⟩
        · rename_i h0
          exact go h0 hb h
    · rename_i b off len kc sz2
      cases hx with
      | vslice hb hlk hkc hcm hat =>
        split at h
        · rename_i h0
          cases h
          subst h0
          exact ⟨_, zero⟩
        · rename_i h0
          obtain ⟨rfl, _⟩ := hat (by omega)
          exact go h0 hb h
    · exact absurd h (by simp)
  · exact absurd h (by simp)

theorem cap_ok {T ty : TypeId} {x v : V} {x' : Value} (h : evalCap tb T x = some v) (hx : VRel φ γ x x') : MemOut P N φ γ H w v H NoT (do pure (.value (← Builtin.cap_ #[T] ty #[x']))) := by
  unfold evalCap at h
  split at h
  · rename_i e tok hd
    cases h
    cases hx
    exact .value (w' := w) (by simp [Builtin.cap_, run_underlying (hok.desc _ _ hd), goInt]) (Step.refl hr) (.val rfl)
  · rename_i e es hd
    cases h
    rcases hx.list_inv with ⟨h0, _⟩ | ⟨_, a, cap, sz, f, rfl, hli⟩
    · exact absurd h0 (by simp)
    · have : cap = es.length := hli.tok
      subst this
      exact .value (w' := w) (by simp [Builtin.cap_, run_underlying (hok.desc _ _ hd), goInt]) (Step.refl hr) (.val rfl)
  · rename_i e b off len cap hd
    cases h
    cases hx
    exact .value (w' := w) (by simp [Builtin.cap_, run_underlying (hok.desc _ _ hd), goInt]) (Step.refl hr) (.val rfl)
  · exact absurd h (by simp)

theorem mem_ok {env : Env} {a : Act} (he : ERel φ γ env a) (hgl : GlobOk φ tb) (o : Oper) {L : List (V × Heap)} (h : evalMem tb env H o.op = some L) (hf : ∀ r, r ∈ L → H.next < r.2.next → γ H.next = none) : ∃ r ∈ L, ∃ T, MemOut P N φ γ H w r.1 r.2 T (execOp a.eval o) ∧ (softOp tb env o.op = true → T = NoT) := by
  obtain ⟨dst, op, ty, pos, after, guard⟩ := o
  have one : ∀ {v : V} {H' : Heap} {T : Nat → Prop} {e : Sem Next}, MemOut P N φ γ H w v H' T e → L = [(v, H')] → (softOp tb env op = true → T = NoT) → ∃ r ∈ L, ∃ T, MemOut P N φ γ H w r.1 r.2 T e ∧ (softOp tb env op = true → T = NoT) := fun hm e hs => by subst e; exact ⟨_, List.mem_singleton_self _, _, hm, hs⟩
  have args1 : ∀ {args : Array Operand} {l : List Operand} (j : Nat) (x : Operand), args.toList = l → l[j]? = some x → (args.map a.eval)[j]? = some (a.eval x) := by
    intro args l j x hl hj
    rw [← hl, Array.getElem?_toList] at hj
    simp [hj]
  simp only at h
  unfold evalMem at h
  split at h
  · simp only [Option.bind_eq_bind, Option.bind_eq_some_iff] at h
    obtain ⟨z, hz, h⟩ := h
    obtain ⟨⟨v, H'⟩, hb, rfl⟩ := Option.map_eq_some_iff.1 h
    exact one (alloc_ok hok hr (hf _ (List.mem_singleton_self _)) hz hb) rfl (fun _ => rfl)
  · obtain ⟨⟨v, H'⟩, hb, rfl⟩ := Option.map_eq_some_iff.1 h
    exact one (boxOp_ok hr (hf _ (List.mem_singleton_self _)) (ev_rel he hgl _) hb) rfl (fun _ => rfl)
  · obtain ⟨v, hb, rfl⟩ := Option.map_eq_some_iff.1 h
    exact one (load_ok hok hr (ev_rel he hgl _) hb) rfl (fun _ => rfl)
  · obtain ⟨H', hb, rfl⟩ := Option.map_eq_some_iff.1 h
    obtain ⟨T, hm⟩ := store_ok hok hr (ev_rel he hgl _) (ev_rel he hgl _) hb
    exact one hm rfl (fun h => by simp [softOp] at h)
  · obtain ⟨H', hb, rfl⟩ := Option.map_eq_some_iff.1 h
    exact one (makeMap_ok hr (hf _ (List.mem_singleton_self _)) hb) rfl (fun _ => rfl)
  · obtain ⟨⟨v, H'⟩, hb, rfl⟩ := Option.map_eq_some_iff.1 h
    exact one (makeSlice_ok hok hr (hf _ (List.mem_singleton_self _)) (ev_rel he hgl _) (ev_rel he hgl _) hb) rfl (fun _ => rfl)
  · obtain ⟨v, hb, rfl⟩ := Option.map_eq_some_iff.1 h
    exact one (lookup_ok hok hr hgl.rho hb (ev_rel he hgl _) (ev_rel he hgl _)) rfl (fun _ => rfl)
  · obtain ⟨H', hb, rfl⟩ := Option.map_eq_some_iff.1 h
    obtain ⟨T, hm⟩ := mapUpdate_ok hok hr hgl.rho hb (ev_rel he hgl _) (ev_rel he hgl _) (ev_rel he hgl _)
    exact one hm rfl (fun h => by simp [softOp] at h)
  · obtain ⟨v, hb, rfl⟩ := Option.map_eq_some_iff.1 h
    exact one (entry_ok hr hb (ev_rel he hgl _)) rfl (fun _ => rfl)
  · obtain ⟨⟨v, H'⟩, hb, rfl⟩ := Option.map_eq_some_iff.1 h
    obtain ⟨T, hm⟩ := mapEntry_ok hok hr hgl.rho hb (ev_rel he hgl _) (ev_rel he hgl _)
    exact one hm rfl (fun h => by simp [softOp] at h)
  · obtain ⟨H', hb, rfl⟩ := Option.map_eq_some_iff.1 h
    obtain ⟨T, hm⟩ := entryStore_ok hr hb (ev_rel he hgl _) (ev_rel he hgl _) (ev_rel he hgl _)
    exact one hm rfl (fun h => by simp [softOp] at h)
  · obtain ⟨⟨v, H'⟩, hb, rfl⟩ := Option.map_eq_some_iff.1 h
    exact one (range_ok hok hr (hf _ (List.mem_singleton_self _)) hb (ev_rel he hgl _)) rfl (fun _ => rfl)
  · obtain ⟨r, hr1, T, hm⟩ := next_ok (ty := ty) hr h (ev_rel he hgl _)
    exact ⟨r, hr1, T, hm, fun h => by simp [softOp] at h⟩
  · rename_i args ats
    split at h
    · rename_i x t hargs hats
      have ha0 : ats[0]? = some t := by rw [← Array.getElem?_toList, hats]; rfl
      have hx := ev_rel he hgl x
      split at h
      · rename_i m hxm
        rw [hxm] at hx
        split at h
        · rename_i kt et es clock hd hg
          cases h
          have := lenMap_ok (ty := ty) hok hr hd hg hx ha0 (args1 0 x hargs rfl)
          refine one (T := NoT) ?_ rfl (fun _ => rfl)
          simpa [execOp, resolve, invoke, builtin] using this
        · exact absurd h (by simp)
      · obtain ⟨v, hb, rfl⟩ := Option.map_eq_some_iff.1 h
        have := len_ok (ty := ty) hok hr hb hx ha0 (args1 0 x hargs rfl)
        refine one (T := NoT) ?_ rfl (fun _ => rfl)
        simpa [execOp, resolve, invoke, builtin] using this
    · exact absurd h (by simp)
  · rename_i args ats
    split at h
    · rename_i s x t1 t2 hargs hats
      obtain ⟨⟨v, H'⟩, hb, rfl⟩ := Option.map_eq_some_iff.1 h
      obtain ⟨T, hm, hsoft⟩ := append_ok (ty := ty) hok hr hgl.rho (hf _ (List.mem_singleton_self _)) (ev_rel he hgl s) (ev_rel he hgl x) hb
      have e1 : args = #[s, x] := by apply Array.ext'; exact hargs
      have e2 : ats = #[t1, t2] := by apply Array.ext'; exact hats
      subst e1 e2
      refine one (T := T) ?_ rfl (fun h => hsoft (fun n es b c hh => by simp [softOp, hh] at h) (fun k n es b c hh => by simp [softOp, hh] at h) (fun a b c d hh => by simp [softOp, hh] at h) (fun a b c d e hh => by simp [softOp, hh] at h))
      simpa [execOp, resolve, invoke, builtin] using hm
    · exact absurd h (by simp)
  · rename_i args ats
    split at h
    · rename_i x k rest t rest2 hargs hats
      obtain ⟨H', hb, rfl⟩ := Option.map_eq_some_iff.1 h
      have ha0 : ats[0]? = some t := by rw [← Array.getElem?_toList, hats]; rfl
      obtain ⟨T, hm⟩ := delete_ok (ty := ty) hok hr hgl.rho hb (ev_rel he hgl x) (ev_rel he hgl k) ha0 (args1 0 x hargs rfl) (args1 1 k hargs rfl)
      refine one (T := T) ?_ rfl (fun h => by simp [softOp] at h)
      simpa [execOp, resolve, invoke, builtin] using hm
    · exact absurd h (by simp)
  · rename_i args ats
    split at h
    · rename_i d x t1 t2 hargs hats
      obtain ⟨⟨v, H'⟩, hb, rfl⟩ := Option.map_eq_some_iff.1 h
      obtain ⟨T, hm⟩ := copy_ok (ty := ty) hok hr hb (ev_rel he hgl d) (ev_rel he hgl x)
      have e1 : args = #[d, x] := by apply Array.ext'; exact hargs
      have e2 : ats = #[t1, t2] := by apply Array.ext'; exact hats
      subst e1 e2
      refine one (T := T) ?_ rfl (fun h => by simp [softOp] at h)
      simpa [execOp, resolve, invoke, builtin] using hm
    · exact absurd h (by simp)
  · rename_i args ats
    split at h
    · rename_i x t hargs hats
      obtain ⟨H', hb, rfl⟩ := Option.map_eq_some_iff.1 h
      obtain ⟨T, hm⟩ := clear_ok (ty := ty) hok hr hb (ev_rel he hgl x)
      have e1 : args = #[x] := by apply Array.ext'; exact hargs
      have e2 : ats = #[t] := by apply Array.ext'; exact hats
      subst e1 e2
      refine one (T := T) ?_ rfl (fun h => by simp [softOp] at h)
      simpa [execOp, resolve, invoke, builtin] using hm
    · exact absurd h (by simp)
  · rename_i args ats
    split at h
    · rename_i x t hargs hats
      obtain ⟨v, hb, rfl⟩ := Option.map_eq_some_iff.1 h
      have hm := cap_ok (ty := ty) hok hr hb (ev_rel he hgl x)
      have e1 : args = #[x] := by apply Array.ext'; exact hargs
      have e2 : ats = #[t] := by apply Array.ext'; exact hats
      subst e1 e2
      refine one (T := NoT) ?_ rfl (fun _ => rfl)
      simpa [execOp, resolve, invoke, builtin] using hm
    · exact absurd h (by simp)
  · exact absurd h (by simp)
end

end
end Go.Sx
