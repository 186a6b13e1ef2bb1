/- Maps, and ranges over strings and maps. -/
import Derived.Test.YtaidiaiedhbaoaaSx10
/- Maps, and ranges over strings and maps. -/
set_option linter.unusedVariables false
set_option linter.unusedSimpArgs false
namespace Go.Sx
noncomputable section


theorem keyOf_ok {P : Program} {tb : Tb} (hok : tb.Ok P) {φ : Froz} {γ : Place} {T : TypeId} {k : V} {k' key : Value} (hρ : φ.rho = tb.rho) (h : keyOf tb T k = some key) (hk0 : VRel φ γ k k') :
    k' = key ∧ plain key = true ∧ ∃ d, P.underlying T = some d ∧ (∀ e : Value, Instr.sameNow d key e = sameKey key e) ∧ ∀ (em : Bool) (w : World), (Instr.checkKey em 10000 T key).run P w = .ok () w := by
  have hk := told_rel hρ hk0
  unfold keyOf at h
  generalize told tb k = k1 at h hk
  split at h
  · rename_i kd kk n hd
    split at h
    · rename_i he
      cases h; cases hk
      subst he
      refine ⟨rfl, rfl, _, hok.desc _ _ hd, fun e => by cases e <;> rfl, fun em w => ?_⟩
      rw [show (10000 : Nat) = 9999 + 1 from rfl, Instr.checkKey]
      simp [run_underlying (hok.desc _ _ hd)]
    · exact absurd h (by simp)
  · rename_i s hd
    cases h; cases hk
    refine ⟨rfl, rfl, _, hok.desc _ _ hd, fun e => by cases e <;> rfl, fun em w => ?_⟩
    rw [show (10000 : Nat) = 9999 + 1 from rfl, Instr.checkKey]
    simp [run_underlying (hok.desc _ _ hd)]
  · rename_i b hd
    cases h; cases hk
    refine ⟨rfl, rfl, _, hok.desc _ _ hd, fun e => by cases e <;> rfl, fun em w => ?_⟩
    rw [show (10000 : Nat) = 9999 + 1 from rfl, Instr.checkKey]
    simp [run_underlying (hok.desc _ _ hd)]
  · exact absurd h (by simp)

def EntriesRel (φ : Froz) (γ : Place) (es : List (Value × V × Nat)) (ms : List MapEntry) : Prop := ms.length = es.length ∧ ∀ (j : Nat) (e : Value × V × Nat), es[j]? = some e → ∃ m, ms[j]? = some m ∧ EntryRel φ γ e m

theorem findIx_ok {φ : Froz} {γ : Place} {d : TypeDesc} {key : Value} (hd : ∀ e : Value, Instr.sameNow d key e = sameKey key e) : ∀ {es : List (Value × V × Nat)} {ms : List MapEntry} {i : Nat} {r : Option (Nat × V)}, EntriesRel φ γ es ms → findIx key es i = some r →
    ∃ r', Instr.findNow d key ms i = some r' ∧ (match r, r' with | none, none => True | some (j, v), some (j', v') => j' = j ∧ VRel φ γ v v' ∧ i ≤ j ∧ ∃ e, es[j - i]? = some e ∧ e.2.1 = v ∧ sameKey key e.1 = some true | _, _ => False)
  | [], ms, i, r, hr, h => by
    have : ms = [] := List.length_eq_zero_iff.1 hr.1
    subst this
    simp [findIx] at h
    subst h
    exact ⟨none, rfl, trivial⟩
  | e :: es, ms, i, r, hr, h => by
    cases ms with
    | nil => have := hr.1; simp at this
    | cons m ms =>
      obtain ⟨m', hm, he⟩ := hr.2 0 e rfl
      simp at hm
      subst hm
      unfold findIx at h
      unfold Instr.findNow
      rw [he.2.1, hd]
      split at h
      · rename_i hs
        cases h
        rw [hs]
        exact ⟨_, rfl, rfl, he.2.2.2, Nat.le_refl _, e, by simp, rfl, hs⟩
      · rename_i hs
        rw [hs]
        obtain ⟨r', h1, h2⟩ := findIx_ok hd (es := es) (ms := ms) ⟨by have := hr.1; simpa using this, fun j e' hj => by simpa using hr.2 (j + 1) e' (by simpa using hj)⟩ h
        refine ⟨r', h1, ?_⟩
        cases r with
        | none => cases r' <;> first | trivial | exact h2
        | some p =>
          cases r' with
          | none => exact h2
          | some p' =>
            obtain ⟨a1, a2, a3, e', a4, a5, a6⟩ := h2
            refine ⟨a1, a2, by omega, e', ?_, a5, a6⟩
            rw [show p.1 - i = (p.1 - (i + 1)) + 1 by omega, List.getElem?_cons_succ]
            exact a4
      · exact absurd h (by simp)

theorem entries_of {φ : Froz} {γ : Place} {es : List (Value × V × Nat)} {ms : Array MapEntry} (h1 : ms.size = es.length) (h2 : ∀ (j : Nat) (e : Value × V × Nat), es[j]? = some e → EntryRel φ γ e (ms.getD j default)) : EntriesRel φ γ es ms.toList := by
  refine ⟨by simpa using h1, fun j e hj => ?_⟩
  have hl := getElem?_lt hj
  have hs : j < ms.size := by omega
  refine ⟨ms[j], by simp [hs], ?_⟩
  have := h2 j e hj
  simpa [Array.getD_eq_getD_getElem?, hs] using this

theorem run_getObj {P : Program} {w : World} {r : Nat} {o : Obj} (h : w.heap[r]? = some o) (hn : ∀ c t f, o ≠ .cells c t f) : (getObj r).run P w = .ok o w := by
  unfold getObj
  simp only [Sem.run]
  rw [h]
  cases o <;> first | rfl | exact absurd rfl (hn _ _ _)

theorem run_setObj {P : Program} {w : World} {r : Nat} {o o' : Obj} (h : w.heap[r]? = some o) (hn : ∀ c t f, o ≠ .cells c t f) : (setObj r o').run P w = .ok () { w with heap := w.heap.setIfInBounds r o' } := by
  unfold setObj
  simp only [Sem.run]
  rw [h]
  cases o <;> first | rfl | exact absurd rfl (hn _ _ _)

section
variable {P : Program} {tb : Tb} (hok : tb.Ok P) {N : Nat} {φ : Froz} {γ : Place} {H : Heap} {w : World} (hr : Rel N φ γ H w)
include hr

/-- A map's entries, as the model finds them. -/
theorem map_at {x : V} {x' : Value} {es : List (Value × V × Nat)} (hx : VRel φ γ x x') (h : mapOf H x = some es) :
    (x' = .map none ∧ es = []) ∨ ∃ m cm a b ms clock, x = .map m ∧ γ m = some (cm, a, b) ∧ H.get m = some (.map es clock) ∧ x' = .map (some cm) ∧ w.heap[cm]? = some (.map ms clock) ∧ EntriesRel φ γ es ms.toList := by
  unfold mapOf at h
  split at h
  · cases h; cases hx; exact .inl ⟨rfl, rfl⟩
  · split at h
    · rename_i m _ es2 clock hg
      cases h
      cases hx with
      | map hm =>
        obtain ⟨ms, h1, h2, h3⟩ := hr.blk _ _ _ hm hg
        exact .inr ⟨_, _, _, _, ms, clock, rfl, hm, hg, rfl, h1, entries_of h2 h3⟩
    · exact absurd h (by simp)
  · exact absurd h (by simp)

include hok
theorem lookup_ok (hρ : φ.rho = tb.rho) {T : TypeId} {x k v : V} {ok : Bool} {x' k' : Value} (h : evalLookup tb H T x k ok = some v) (hx : VRel φ γ x x') (hk : VRel φ γ k k') : MemOut P N φ γ H w v H NoT (do pure (.value (← Instr.lookup T x' k' ok))) := by
  unfold evalLookup at h
  split at h
  · rename_i kt et hd
    split at h
    · rename_i key es hkey hes
      obtain ⟨rfl, hpl, d, hdk, hsame, hcheck⟩ := keyOf_ok hok hρ hkey hk
      have main : ∀ ms : Array MapEntry, EntriesRel φ γ es ms.toList → ((x' = .map none ∧ ms = #[]) ∨ ∃ cm clock, x' = .map (some cm) ∧ w.heap[cm]? = some (.map ms clock)) →
          MemOut P N φ γ H w v H NoT (do pure (.value (← Instr.lookup T x' k' ok))) := by
        intro ms hems hget
        split at h
        · rename_i j u hf
          cases h
          obtain ⟨r', h1, h2⟩ := findIx_ok hsame hems hf
          cases r' with
          | none => exact h2.elim
          | some p =>
            obtain ⟨_, hv, _⟩ := h2
            refine .value (w' := w) (cv := if ok then .tuple #[p.2, .bool true] else p.2) ?_ (Step.refl hr) ?_
            · rcases hget with ⟨rfl, rfl⟩ | ⟨cm, clock, rfl, hh⟩
              · simp only [Instr.lookup, Sem.run_bind, run_underlying (hok.desc _ _ hd), Result.andThen_ok, hcheck, Instr.findKey, run_underlying hdk, h1, Sem.run_pure]
              · simp only [Instr.lookup, Sem.run_bind, run_underlying (hok.desc _ _ hd), Result.andThen_ok, run_getObj (P := P) hh (by simp), hcheck, Instr.findKey, run_underlying hdk, h1, Sem.run_pure]
            · cases ok
              · exact hv
              · exact .tuple rfl (fun j u hj => by
                  match j, hj with
                  | 0, hj => simp at hj; subst hj; exact hv
                  | 1, hj => simp at hj; subst hj; exact .val rfl)
        · rename_i hf
          split at h
          · rename_i z hz
            cases h
            obtain ⟨zv, hzv, hzo⟩ := run_zeroValue' hok w hz
            obtain ⟨r', h1, h2⟩ := findIx_ok hsame hems hf
            cases r' with
            | some p => exact h2.elim
            | none =>
              refine .value (w' := w) (cv := if ok then .tuple #[zv, .bool false] else zv) ?_ (Step.refl hr) ?_
              · rcases hget with ⟨rfl, rfl⟩ | ⟨cm, clock, rfl, hh⟩
                · simp only [Instr.lookup, Sem.run_bind, run_underlying (hok.desc _ _ hd), Result.andThen_ok, hcheck, Instr.findKey, run_underlying hdk, h1, Sem.run_pure, hzv]
                · simp only [Instr.lookup, Sem.run_bind, run_underlying (hok.desc _ _ hd), Result.andThen_ok, run_getObj (P := P) hh (by simp), hcheck, Instr.findKey, run_underlying hdk, h1, Sem.run_pure, hzv]
              · cases ok
                · exact ofValue_rel hzo
                · exact .tuple rfl (fun j u hj => by
                    match j, hj with
                    | 0, hj => simp at hj; subst hj; exact ofValue_rel hzo
                    | 1, hj => simp at hj; subst hj; exact .val rfl)
          · exact absurd h (by simp)
        · exact absurd h (by simp)
      rcases map_at hr hx hes with ⟨rfl, rfl⟩ | ⟨m, cm, a, b, ms, clock, rfl, hm, hg, rfl, hh, hems⟩
      · exact main #[] ⟨rfl, fun j e hj => by simp at hj⟩ (.inl ⟨rfl, rfl⟩)
      · exact main ms hems (.inr ⟨_, _, rfl, hh⟩)
    · exact absurd h (by simp)
  · exact absurd h (by simp)

omit hok in
/-- A map gets new entries. -/
theorem map_put {m cm a b clock clock' : Nat} {es es' : List (Value × V × Nat)} {ms ms' : Array MapEntry} (hm : γ m = some (cm, a, b)) (hg : H.get m = some (.map es clock)) (hh : w.heap[cm]? = some (.map ms clock)) (he : EntriesRel φ γ es' ms'.toList) :
    Step N φ γ H w φ γ (H.put m (.map es' clock')) { w with heap := w.heap.setIfInBounds cm (.map ms' clock') } (fun i => i = m) := by
  have hlt : cm < w.heap.size := (Array.getElem?_eq_some_iff.1 hh).1
  refine Step.put hr hm hg rfl (FLe.refl _) rfl rfl rfl (by simp) (fun i hi => by simp [Ne.symm hi]) (fun i o v hv => ?_) (fun _ _ _ h => .inl h) ⟨ms', by simp [hlt], by simpa using he.1, fun j e hj => ?_⟩ (fun _ o ho => hr.free _ _ _ hm hg rfl o (Nat.zero_le _))
  · have hne : i ≠ cm := by
      rintro rfl
      have := hr.free _ _ _ hm hg rfl o (Nat.zero_le _)
      simp only at this
      rw [this] at hv
      exact absurd hv (by simp)
    have := hr.froz _ _ _ hv
    rw [← this]
    exact World.cell?_of_block (w := w) (by simp [Ne.symm hne])
  · obtain ⟨x, hx, hex⟩ := he.2 j e hj
    rw [Array.getElem?_toList] at hx
    rw [Array.getD_eq_getD_getElem?, hx]
    exact hex

omit hok hr in
theorem sameBits_of {k e : Value} (h : sameKey k e = some true) : Instr.sameBits 10000 e k = true := by
  unfold sameKey at h
  split at h
  · split at h
    · rename_i hk
      subst hk
      simp at h
      subst h
      rw [show (10000 : Nat) = 9999 + 1 from rfl]
      simp [Instr.sameBits]
    · exact absurd h (by simp)
  · have h2 := (bytes_beq' _ _).1 (Option.some.inj h)
    subst h2
    rw [show (10000 : Nat) = 9999 + 1 from rfl]
    simp only [Instr.sameBits]
    exact (bytes_beq' _ _).2 rfl
  · simp at h
    subst h
    rw [show (10000 : Nat) = 9999 + 1 from rfl]
    simp [Instr.sameBits]
  · exact absurd h (by simp)

theorem mapUpdate_ok (hρ : φ.rho = tb.rho) {T : TypeId} {x k v : V} {x' k' v' : Value} {H' : Heap} (h : evalMapUpdate tb H T x k v = some H') (hx : VRel φ γ x x') (hk : VRel φ γ k k') (hv : VRel φ γ v v') : ∃ T', MemOut P N φ γ H w V.undef H' T' (do Instr.mapUpdate T x' k' v'; pure .skip) := by
  unfold evalMapUpdate at h
  split at h
  · rename_i kt et m hd
    split at h
    · rename_i key es clock hkey hg
      obtain ⟨rfl, hpl, d, hdk, hsame, hcheck⟩ := keyOf_ok hok hρ hkey hk
      cases hx with
      | map hm =>
        rename_i cm a b
        obtain ⟨ms, h1, h2, h3⟩ := hr.blk _ _ _ hm hg
        simp only at h1
        have hems := entries_of h2 h3
        have hgo := run_getObj (P := P) h1 (by simp)
        split at h
        · rename_i j u hf
          cases h
          obtain ⟨r', hf1, hf2⟩ := findIx_ok hsame hems hf
          cases r' with
          | none => exact hf2.elim
          | some p =>
            obtain ⟨ej, hu, _, e, hej, _, hsk⟩ := hf2
            simp only [Nat.sub_zero] at hej ej
            obtain ⟨mm, hmm, hme⟩ := hems.2 _ _ hej
            rw [Array.getElem?_toList] at hmm
            refine ⟨_, .unit ?_ (map_put hr hm hg h1 (ms' := ms.modify j fun e => { e with key := k', val := v' }) ⟨by simp [h2], fun i e' he' => ?_⟩)⟩
            · have hkk : (Instr.keyThatStays (((ms[j]?).map (·.key)).getD k') k').run P w = .ok k' w := by
                rw [hmm]
                simp only [Option.map_some, Option.getD_some, Instr.keyThatStays, hme.2.1, sameBits_of hsk, if_true, Sem.run_pure]
              simp only [Instr.mapUpdate, Sem.run_bind, run_underlying (hok.desc _ _ hd), Result.andThen_ok, hgo, hcheck, Instr.findKey, run_underlying hdk, hf1, Sem.run_pure]
              rw [ej, hkk]
              simp only [Result.andThen_ok]
              exact run_setObj h1 (by simp)
            · rw [List.getElem?_modify] at he'
              simp only [Array.toList_modify, List.getElem?_modify]
              by_cases hij : j = i
              · subst hij
                simp only [if_true] at he' ⊢
                rw [hej] at he'
                simp at he'
                subst he'
                rw [Array.getElem?_toList, hmm]
                exact ⟨_, rfl, hpl, rfl, hme.2.2.1, hv⟩
              · simp only [hij, if_false, Option.map_id'] at he' ⊢
                obtain ⟨x, hx, hex⟩ := hems.2 i e' (by simpa using he')
                exact ⟨x, by simpa using hx, hex⟩
        · rename_i hf
          cases h
          obtain ⟨r', hf1, hf2⟩ := findIx_ok hsame hems hf
          cases r' with
          | some p => exact hf2.elim
          | none =>
            refine ⟨_, .unit ?_ (map_put hr hm hg h1 (ms' := ms.push { key := k', val := v', born := clock }) ⟨by simp [h2], fun i e' he' => ?_⟩)⟩
            · simp only [Instr.mapUpdate, Sem.run_bind, run_underlying (hok.desc _ _ hd), Result.andThen_ok, hgo, hcheck, Instr.findKey, run_underlying hdk, hf1, Sem.run_pure]
              exact run_setObj h1 (by simp)
            · simp only [Array.toList_push]
              by_cases hi : i < es.length
              · rw [List.getElem?_append_left hi] at he'
                obtain ⟨x, hx, hex⟩ := hems.2 i e' he'
                exact ⟨x, by rw [List.getElem?_append_left (by have := hems.1; omega)]; exact hx, hex⟩
              · rw [List.getElem?_append_right (by omega)] at he'
                have hil := getElem?_lt he'
                simp at hil
                have hie : i = es.length := by omega
                subst hie
                simp at he'
                subst he'
                exact ⟨{ key := k', val := v', born := clock }, by rw [List.getElem?_append_right (by have := hems.1; omega)]; simp [h2], hpl, rfl, rfl, hv⟩
        · exact absurd h (by simp)
    · exact absurd h (by simp)
  · exact absurd h (by simp)

theorem delete_ok (hρ : φ.rho = tb.rho) {T ty : TypeId} {ats : Array TypeId} {x k : V} {x' k' : Value} {H' : Heap} (h : evalDelete tb H T x k = some H') (hx : VRel φ γ x x') (hk : VRel φ γ k k') (hats : ats[0]? = some T) {args : Array Value} (ha0 : args[0]? = some x') (ha1 : args[1]? = some k') :
    ∃ T', MemOut P N φ γ H w (V.tuple []) H' T' (do pure (.value (← Builtin.delete_ ats ty args))) := by
  have hundef : VRel φ γ (V.tuple []) (.tuple #[]) := .tuple rfl (fun j v hj => by simp at hj)
  unfold evalDelete at h
  split at h
  · rename_i kt et hd
    split at h
    · rename_i key hkey
      cases h; cases hx
      obtain ⟨rfl, hpl, d, hdk, hsame, hcheck⟩ := keyOf_ok hok hρ hkey hk
      exact ⟨NoT, .value (by simp [Builtin.delete_, hats, ha0, ha1, run_underlying (hok.desc _ _ hd), hcheck]) (Step.refl hr) hundef⟩
    · rename_i key m hkey
      obtain ⟨rfl, hpl, d, hdk, hsame, hcheck⟩ := keyOf_ok hok hρ hkey hk
      split at h
      · rename_i es clock hg
        cases hx with
        | map hm =>
          rename_i cm a b
          obtain ⟨ms, h1, h2, h3⟩ := hr.blk _ _ _ hm hg
          simp only at h1
          have hems := entries_of h2 h3
          have hgo := run_getObj (P := P) h1 (by simp)
          split at h
          · rename_i j u hf
            cases h
            obtain ⟨r', hf1, hf2⟩ := findIx_ok hsame hems hf
            cases r' with
            | none => exact hf2.elim
            | some p =>
              obtain ⟨ej, hu, _, e, hej, _, hsk⟩ := hf2
              simp only [Nat.sub_zero] at hej ej
              have hjl : j < ms.size := by have := getElem?_lt hej; omega
              have hput := map_put (clock' := clock) hr hm hg h1 (es' := es.eraseIdx j) (ms' := ms.eraseIdxIfInBounds j) ⟨by simp [Array.eraseIdxIfInBounds, hjl, List.length_eraseIdx, h2, getElem?_lt hej], fun i e' he' => ?_⟩
              · refine ⟨_, .value ?_ hput hundef⟩
                simp only [Builtin.delete_, hats, ha0, ha1, Sem.run_bind, run_underlying (hok.desc _ _ hd), Result.andThen_ok, hgo, hcheck, Instr.findKey, run_underlying hdk, hf1, Sem.run_pure]
                rw [ej, run_setObj h1 (by simp)]
                rfl
              · have e1 : (ms.eraseIdxIfInBounds j).toList = ms.toList.eraseIdx j := by simp [Array.eraseIdxIfInBounds, hjl]
                rw [e1]
                rw [List.getElem?_eraseIdx] at he' ⊢
                split at he'
                · rename_i hlt
                  rw [if_pos hlt]
                  exact hems.2 _ _ he'
                · rename_i hlt
                  rw [if_neg hlt]
                  exact hems.2 _ _ he'
          · rename_i hf
            cases h
            obtain ⟨r', hf1, hf2⟩ := findIx_ok hsame hems hf
            cases r' with
            | some p => exact hf2.elim
            | none =>
              refine ⟨_, .value ?_ (map_put (clock' := clock) hr hm hg h1 (ms' := ms) hems) hundef⟩
              simp only [Builtin.delete_, hats, ha0, ha1, Sem.run_bind, run_underlying (hok.desc _ _ hd), Result.andThen_ok, hgo, hcheck, Instr.findKey, run_underlying hdk, hf1, Sem.run_pure]
              rw [run_setObj h1 (by simp)]
              rfl
          · exact absurd h (by simp)
      · exact absurd h (by simp)
    · exact absurd h (by simp)
  · exact absurd h (by simp)

theorem lenMap_ok {T kt et ty : TypeId} {ats : Array TypeId} {m : Nat} {es : List (Value × V × Nat)} {clock : Nat} {x' : Value} (hd : tb.desc T = some (.map kt et)) (hg : H.get m = some (.map es clock)) (hx : VRel φ γ (.map m) x') {args : Array Value} (hats : ats[0]? = some T) (ha0 : args[0]? = some x') :
    MemOut P N φ γ H w (V.int es.length) H NoT (do pure (.value (← Builtin.len_ ats ty args))) := by
  cases hx with
  | map hm =>
    obtain ⟨ms, h1, h2, h3⟩ := hr.blk _ _ _ hm hg
    simp only at h1
    refine .value (w' := w) ?_ (Step.refl hr) (.val (v := .int .i64 es.length) rfl)
    simp [Builtin.len_, hats, ha0, run_underlying (hok.desc _ _ hd), run_getObj (P := P) h1 (by simp), goInt, h2]

theorem len_ok {T ty : TypeId} {ats : Array TypeId} {x v : V} {x' : Value} (h : evalLen tb T x = some v) (hx : VRel φ γ x x') {args : Array Value} (hats : ats[0]? = some T) (ha0 : args[0]? = some x') :
    MemOut P N φ γ H w v H NoT (do pure (.value (← Builtin.len_ ats ty args))) := by
  unfold evalLen at h
  split at h
  · rename_i s hd
    cases h; cases hx
    exact .value (w' := w) (by simp [Builtin.len_, hats, ha0, run_underlying (hok.desc _ _ hd), goInt]) (Step.refl hr) (.val rfl)
  · rename_i e hd
    cases h
    cases hx with
    | sym h1 =>
      subst h1
      exact .value (w' := w) (cv := .int .i64 (e.text φ.rho).size) (by simp [SE.val, Builtin.len_, hats, ha0, run_underlying (hok.desc _ _ hd), goInt]) (Step.refl hr) (.sym rfl)
  · rename_i n e hd
    cases h
    exact .value (w' := w) (by simp [Builtin.len_, hats, ha0, run_underlying (hok.desc _ _ hd), goInt]) (Step.refl hr) (.val rfl)
  · rename_i e nl es tok hd
    cases h
    rcases hx.list_inv with ⟨rfl, rfl, rfl⟩ | ⟨rfl, a, cap, sz, f, rfl, hli⟩
    · exact .value (w' := w) (by simp [Builtin.len_, hats, ha0, run_underlying (hok.desc _ _ hd), goInt]) (Step.refl hr) (.val rfl)
    · exact .value (w' := w) (by simp [Builtin.len_, hats, ha0, run_underlying (hok.desc _ _ hd), goInt]) (Step.refl hr) (.val rfl)
  · rename_i hd
    cases h
    cases hx
    exact .value (w' := w) (by simp [Builtin.len_, hats, ha0, run_underlying (hok.desc _ _ hd), goInt]) (Step.refl hr) (.val rfl)
  · rename_i hd
    cases h
    cases hx
    exact .value (w' := w) (by simp [Builtin.len_, hats, ha0, run_underlying (hok.desc _ _ hd), goInt]) (Step.refl hr) (.val rfl)
  · rename_i e k nl c tok hd
    split at h
    · rename_i hk
      cases h
      cases hx with
      | sli hl =>
        have hlen := rows_len (ρ := φ.rho) hk c
        rcases hl.list_inv with ⟨h1, h2, rfl⟩ | ⟨h1, a, cap, sz, f, rfl, hli⟩
        · rw [h2] at hlen
          exact .value (w' := w) (cv := .int .i64 0) (by simp [Builtin.len_, hats, ha0, run_underlying (hok.desc _ _ hd), goInt]) (Step.refl hr) (.sym (by show Value.int .i64 0 = Value.int .i64 _; rw [hlen]; rfl))
        · exact .value (w' := w) (cv := .int .i64 (rowsOf φ.rho k c).length) (by simp [Builtin.len_, hats, ha0, run_underlying (hok.desc _ _ hd), goInt]) (Step.refl hr) (.sym (by show Value.int .i64 _ = Value.int .i64 _; rw [hlen]))
    · exact absurd h (by simp)
  · rename_i hd
    cases h; cases hx
    exact .value (w' := w) (by simp [Builtin.len_, hats, ha0, run_underlying (hok.desc _ _ hd), goInt]) (Step.refl hr) (.val rfl)
  · exact absurd h (by simp)

theorem range_ok {H' : Heap} (hf : H.next < H'.next → γ H.next = none) {T : TypeId} {x v : V} {x' : Value} (h : evalRange tb H T x = some (v, H')) (hx : VRel φ γ x x') : MemOut P N φ γ H w v H' NoT (do pure (.value (← Instr.range T x'))) := by
  unfold evalRange at h
  simp only [Option.bind_eq_bind, Option.bind_eq_some_iff] at h
  obtain ⟨it, hit, h⟩ := h
  obtain ⟨H2, hn, he⟩ := Option.map_eq_some_iff.1 h
  simp only [Prod.mk.injEq] at he
  obtain ⟨rfl, rfl⟩ := he
  have hf := hf (Heap.new_lt hn)
  have fin : ∀ o : Obj, (Instr.range T x').run P w = .ok (.pointer (some ⟨w.heap.size, 0, none⟩)) (w.alloc o) → BlkRel φ (PAdd γ H.next (w.heap.size, 0, 0)) (w.alloc o) (w.heap.size, 0, 0) it → MemOut P N φ γ H w (.ptr H.next 0) H2 NoT (do pure (.value (← Instr.range T x'))) :=
    fun o hrun hb => .value hrun (Step.new hr o (FLe.refl _) (fun _ _ _ h => .inl h) hn hf 0 0 hb (fun _ off _ => hr.nofroz off)) (.ptr (PAdd.self _ _ _))
  have top : ∀ o : Obj, (w.alloc o).heap[w.heap.size]? = some o := fun o => by
    show (w.heap.push o)[w.heap.size]? = _
    simp
  split at hit
  · rename_i s hd
    cases hit; cases hx
    exact fin _ (by simp [Instr.range, run_underlying (hok.desc _ _ hd)]) ⟨rfl, top _⟩
  · rename_i hd
    cases hit; cases hx
    exact fin _ (by simp [Instr.range, run_underlying (hok.desc _ _ hd)]) ⟨rfl, none, top _, rfl⟩
  · rename_i m hd
    split at hit
    · rename_i es clock hg
      cases hit
      cases hx with
      | map hm =>
        obtain ⟨ms, h1, h2, h3⟩ := hr.blk _ _ _ hm hg
        simp only at h1
        exact fin _ (by simp [Instr.range, run_underlying (hok.desc _ _ hd), run_getObj (P := P) h1 (by simp)]) ⟨rfl, some _, top _, _, PLe.add _ hf _ _ hm, rfl⟩
    · exact absurd hit (by simp)
  · exact absurd hit (by simp)

end

end
end Go.Sx
