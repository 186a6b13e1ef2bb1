/- Arguments that are lists of any length, as unknown lists. -/
import Derived.Test.YtaidiaiedhbaoaaSxQ
/- Arguments that are lists of any length, as unknown lists. -/
set_option linter.unusedVariables false
set_option linter.unusedSimpArgs false
namespace Go.Sx
noncomputable section

def Sh.app : Sh → Sh → Sh
  | .nil, s => s
  | .cons h t, s => .cons h (t.app s)
  | x, s => .cons x s
/-- The shape of a type's cells. -/
def shF (sh : TypeId → Option Sh) : List Field → Option Sh
  | [] => some .nil
  | f :: fs => (sh f.type).bind fun a => (shF sh fs).map fun b => a.app b
def shT (tb : Tb) : Nat → TypeId → Option Sh
  | 0, _ => none
  | n + 1, t => match tb.desc t with
    | some .bool => some (.cons (.sc .bool) .nil)
    | some (.int k) => some (.cons (.sc (.int k)) .nil)
    | some .string => some (.cons (.sc .str) .nil)
    | some (.slice e) => (match tb.desc e with
      | some (.int .u8) => some (.cons .bytes .nil)
      | _ => (shT tb n e).map fun s => .cons (.li s) .nil)
    | some (.struct fs) => shF (shT tb n) fs.toList
    | _ => none
/-- Only cells, one behind another. -/
def Sh.flat : Sh → Bool
  | .nil => true
  | .cons .nil _ | .cons (.cons _ _) _ => false
  | .cons _ t => t.flat
  | _ => false
theorem Sh.app_exp : ∀ {a b : Sh}, a.flat = true → ∀ (f : Nat → Value), (a.app b).exp f = a.exp f ++ b.exp (fun j => f (j + a.width))
  | .nil, b, _, f => rfl
  | .cons h t, b, ha, f => by
    have ht : t.flat = true ∧ h.width = 1 := by
      cases h <;> simp [Sh.flat] at ha <;> exact ⟨ha, rfl⟩
    show h.exp f ++ (t.app b).exp _ = h.exp f ++ t.exp _ ++ _
    rw [Sh.app_exp ht.1, List.append_assoc]
    congr 2
    congr 1
    funext j
    show f (j + t.width + 1) = f (j + (h.width + t.width))
    rw [ht.2]
    congr 1
    omega
  | .sc _, _, ha, _ => by simp [Sh.flat] at ha
  | .bytes, _, ha, _ => by simp [Sh.flat] at ha
  | .li _, _, ha, _ => by simp [Sh.flat] at ha
theorem Sh.app_flat : ∀ {a b : Sh}, a.flat = true → b.flat = true → (a.app b).flat = true
  | .nil, b, _, hb => hb
  | .cons h t, b, ha, hb => by
    have ht : t.flat = true := by cases h <;> simp [Sh.flat] at ha <;> exact ha
    have := Sh.app_flat ht hb
    cases h <;> simp [Sh.flat] at ha <;> exact this
  | .sc _, _, ha, _ => by simp [Sh.flat] at ha
  | .bytes, _, ha, _ => by simp [Sh.flat] at ha
  | .li _, _, ha, _ => by simp [Sh.flat] at ha
theorem shF_flat {sh : TypeId → Option Sh} (h : ∀ t s, sh t = some s → s.flat = true) : ∀ {fs : List Field} {s : Sh}, shF sh fs = some s → s.flat = true
  | [], s, hs => by simp [shF] at hs; subst hs; rfl
  | f :: fs, s, hs => by
    simp only [shF, Option.bind_eq_some_iff, Option.map_eq_some_iff] at hs
    obtain ⟨a, ha, b, hb, rfl⟩ := hs
    exact Sh.app_flat (h _ _ ha) (shF_flat h hb)
theorem shT_flat {tb : Tb} : ∀ {n : Nat} {t : TypeId} {s : Sh}, shT tb n t = some s → s.flat = true
  | 0, t, s, h => by simp [shT] at h
  | n + 1, t, s, h => by
    unfold shT at h
    split at h
    · cases h; rfl
    · cases h; rfl
    · cases h; rfl
    · split at h
      · cases h; rfl
      · obtain ⟨s', _, rfl⟩ := Option.map_eq_some_iff.1 h
        rfl
    · exact shF_flat (fun t s hs => shT_flat hs) h
    · exact absurd h (by simp)

/-- Data whose lists are no longer than memory. -/
inductive Bnd : Value → Prop
  | leaf {d : Value} : elsD d = [] → Bnd d
  | list {l : List Value} : l.length ≤ maxLen → (∀ r, r ∈ l → ∀ c, c ∈ elsD r → Bnd c) → Bnd (listD l)
theorem Bnd.len {d : Value} (h : Bnd d) : (elsD d).length ≤ maxLen := by
  cases h with
  | leaf h => rw [h]; exact Nat.zero_le _
  | list h _ => exact h
theorem Bnd.cell {d r : Value} (h : Bnd d) (hr : r ∈ elsD d) {c : Value} (hc : c ∈ elsD r) : Bnd c := by
  cases h with
  | leaf h => rw [h] at hr; simp at hr
  | list _ h => exact h r hr c hc
theorem Bnd.nil : Bnd .nilFunc := .leaf rfl
theorem Bnd.at {d : Value} (h : Bnd d) (i j : Nat) : Bnd (cellD ((elsD d).getD i .nilFunc) j) := by
  unfold cellD
  rcases Nat.lt_or_ge i (elsD d).length with hi | hi
  · rcases Nat.lt_or_ge j (elsD ((elsD d).getD i .nilFunc)).length with hj | hj
    · rw [List.getD_eq_getElem?_getD (l := elsD ((elsD d).getD i .nilFunc)), List.getElem?_eq_getElem hj]
      refine h.cell (r := (elsD d).getD i .nilFunc) ?_ (List.getElem_mem hj)
      rw [List.getD_eq_getElem?_getD, List.getElem?_eq_getElem hi]
      exact List.getElem_mem hi
    · rw [List.getD_eq_getElem?_getD (l := elsD ((elsD d).getD i .nilFunc)), List.getElem?_eq_none hj]
      exact .nil
  · have : (elsD d).getD i .nilFunc = .nilFunc := by rw [List.getD_eq_getElem?_getD, List.getElem?_eq_none hi]; rfl
    rw [this]
    exact .nil

/-- The data of typed cells. -/
theorem ty_dat {tb : Tb} : ∀ {n : Nat} {t : TypeId} {s : Sh} {cs : List V}, shT tb n t = some s → Ty tb n t cs → ∃ l : List Value, l.length = s.width ∧ (∀ v, v ∈ l → Bnd v) ∧ ∀ ρ (f : Nat → Value), (∀ j, j < s.width → f j = l.getD j .nilFunc) → SimL ρ cs (s.exp f)
  | 0, t, s, cs, h, _ => by simp [shT] at h
  | n + 1, t, s, cs, h, hty => by
    unfold shT at h
    unfold Ty at hty
    split at h
    · rename_i hd
      cases h
      rw [hd] at hty
      obtain ⟨b, rfl⟩ := hty
      refine ⟨[.bool b], rfl, (fun v hv => by rw [List.mem_singleton.1 hv]; exact .leaf rfl), fun ρ f hf => ?_⟩
      show SimL ρ _ ([V.val (.bool (truthOf (f 0)))] ++ [])
      rw [hf 0 (show 0 < 1 + 0 by omega)]
      exact SimL.refl ρ _
    · rename_i k hd
      cases h
      rw [hd] at hty
      obtain ⟨i, rfl, h1, h2⟩ := hty
      refine ⟨[.int k i], rfl, (fun v hv => by rw [List.mem_singleton.1 hv]; exact .leaf rfl), fun ρ f hf => ?_⟩
      show SimL ρ _ ([V.val (.int k (k.wrap (numOf (f 0))))] ++ [])
      rw [hf 0 (show 0 < 1 + 0 by omega)]
      show SimL ρ _ [V.val (.int k (k.wrap i))]
      rw [wrap_id k i h1 h2]
      exact SimL.refl ρ _
    · rename_i hd
      cases h
      rw [hd] at hty
      obtain ⟨b, rfl, _⟩ := hty
      refine ⟨[.string b], rfl, (fun v hv => by rw [List.mem_singleton.1 hv]; exact .leaf rfl), fun ρ f hf => ?_⟩
      show SimL ρ _ ([V.val (.string (textOf (f 0)))] ++ [])
      rw [hf 0 (show 0 < 1 + 0 by omega)]
      exact SimL.refl ρ _
    · rename_i e hd
      rw [hd] at hty
      split at h
      · rename_i he
        cases h
        rcases hty with rfl | ⟨es, rfl, _, hes⟩
        · refine ⟨[.nilFunc], rfl, (fun v hv => by rw [List.mem_singleton.1 hv]; exact .leaf rfl), fun ρ f hf => ?_⟩
          show SimL ρ _ ([V.list (isNilD (f 0)) (bytesL (textOf (f 0))) .unk] ++ [])
          rw [hf 0 (show 0 < 1 + 0 by omega)]
          exact SimL.one ⟨fun _ => rfl, fun φ γ x _ hv => hv.weak⟩
        · have hb : ∃ bs : List UInt8, es = bs.map fun b => [V.val (.int .u8 b.toNat)] := by
            rename_i hlen
            clear hlen
            induction es with
            | nil => exact ⟨[], rfl⟩
            | cons c es ih =>
              obtain ⟨bs, hbs⟩ := ih (fun c hc => hes c (List.mem_cons_of_mem _ hc))
              have hc := hes c List.mem_cons_self
              cases n with
              | zero => simp [Ty] at hc
              | succ n =>
                unfold Ty at hc
                rw [he] at hc
                obtain ⟨i, rfl, h1, h2⟩ := hc
                have h1 : (0 : Int) ≤ i := h1
                have h2 : i ≤ (255 : Int) := h2
                refine ⟨UInt8.ofNat i.toNat :: bs, ?_⟩
                rw [List.map_cons, hbs, UInt8.toNat_ofNat']
                congr 4
                omega
          obtain ⟨bs, rfl⟩ := hb
          refine ⟨[.string ⟨bs.toArray⟩], rfl, (fun v hv => by rw [List.mem_singleton.1 hv]; exact .leaf rfl), fun ρ f hf => ?_⟩
          show SimL ρ _ ([V.list (isNilD (f 0)) (bytesL (textOf (f 0))) .unk] ++ [])
          rw [hf 0 (show 0 < 1 + 0 by omega)]
          exact SimL.refl ρ _
      · obtain ⟨s', hs', rfl⟩ := Option.map_eq_some_iff.1 h
        rcases hty with rfl | ⟨es, rfl, _, hes⟩
        · refine ⟨[.nilFunc], rfl, (fun v hv => by rw [List.mem_singleton.1 hv]; exact .leaf rfl), fun ρ f hf => ?_⟩
          show SimL ρ _ ([V.list (isNilD (f 0)) ((elsD (f 0)).map fun r => s'.exp (cellD r)) .unk] ++ [])
          rw [hf 0 (show 0 < 1 + 0 by omega)]
          exact SimL.one ⟨fun _ => rfl, fun φ γ x _ hv => hv.weak⟩
        · rename_i hlen
          have hl : ∃ ls : List (List Value), ls.length = es.length ∧ (∀ l, l ∈ ls → ∀ v, v ∈ l → Bnd v) ∧ ∀ ρ, SimR ρ es (ls.map fun l => s'.exp (cellD (listD l))) := by
            clear hlen
            induction es with
            | nil => exact ⟨[], rfl, fun l hl => by simp at hl, fun ρ => SimR.refl ρ []⟩
            | cons c es ih =>
              obtain ⟨ls, h1, h2b, h2⟩ := ih (fun c hc => hes c (List.mem_cons_of_mem _ hc))
              obtain ⟨l, h3, h3b, h4⟩ := ty_dat hs' (hes c List.mem_cons_self)
              exact ⟨l :: ls, by simp [h1], fun l' hl' => by
                rcases List.mem_cons.1 hl' with rfl | hl'
                · exact h3b
                · exact h2b l' hl', fun ρ => SimR.cons (h4 ρ _ (fun j hj => rfl)) (h2 ρ)⟩
          obtain ⟨ls, h1, h2b, h2⟩ := hl
          refine ⟨[listD (ls.map listD)], rfl, fun v hv => ?_, fun ρ f hf => ?_⟩
          · rw [List.mem_singleton.1 hv]
            refine .list (by rw [List.length_map, h1]; exact hlen) (fun r hr c hc => ?_)
            obtain ⟨l, hl, rfl⟩ := List.mem_map.1 hr
            exact h2b l hl c (by simpa [listD, elsD] using hc)
          show SimL ρ _ ([V.list (isNilD (f 0)) ((elsD (f 0)).map fun r => s'.exp (cellD r)) .unk] ++ [])
          rw [hf 0 (show 0 < 1 + 0 by omega)]
          show SimL ρ _ [V.list false (((ls.map listD).toArray.toList).map fun r => s'.exp (cellD r)) .unk]
          have e : ((ls.map listD).toArray.toList).map (fun r => s'.exp (cellD r)) = ls.map fun l => s'.exp (cellD (listD l)) := by
            rw [List.toList_toArray, List.map_map]
            rfl
          rw [e]
          refine SimL.one ⟨fun _ => rfl, fun φ γ x hφ hv => hv.list_sim ?_⟩
          rw [hφ]
          exact h2 ρ
    · rename_i fs hd
      rw [hd] at hty
      replace hty : TyF (Ty tb n) fs.toList cs := hty
      clear hd
      generalize fs.toList = fl at h hty
      induction fl generalizing s cs with
      | nil =>
        simp [shF] at h
        subst h
        simp [TyF] at hty
        subst hty
        exact ⟨[], rfl, fun v hv => by simp at hv, fun ρ f _ => SimL.nil ρ⟩
      | cons f fl ih =>
        simp only [shF, Option.bind_eq_some_iff, Option.map_eq_some_iff] at h
        obtain ⟨a, ha, b, hb, rfl⟩ := h
        obtain ⟨c1, c2, rfl, h1, h2⟩ := hty
        obtain ⟨l1, e1, b1, k1⟩ := ty_dat ha h1
        obtain ⟨l2, e2, b2, k2⟩ := ih b c2 hb h2
        have hw : ∀ {x y : Sh}, x.flat = true → (x.app y).width = x.width + y.width := by
          intro x
          induction x with
          | nil => intro y _; show y.width = 0 + y.width; omega
          | cons h t _ iht =>
            intro y hx
            have ht : t.flat = true := by cases h <;> simp [Sh.flat] at hx <;> exact hx
            show h.width + (t.app y).width = h.width + t.width + y.width
            rw [iht ht]
            omega
          | _ => intro y hx; simp [Sh.flat] at hx
        have hfl := shT_flat ha
        refine ⟨l1 ++ l2, by rw [List.length_append, e1, e2, hw hfl], fun v hv => (List.mem_append.1 hv).elim (b1 v) (b2 v), fun ρ f hf => ?_⟩
        rw [Sh.app_exp hfl]
        rw [hw hfl] at hf
        refine SimL.append (k1 ρ f (fun j hj => ?_)) (k2 ρ _ (fun j hj => ?_))
        · rw [hf j (by omega), List.getD_eq_getElem?_getD, List.getElem?_append_left (by omega), List.getD_eq_getElem?_getD]
        · rw [hf (j + a.width) (by omega), List.getD_eq_getElem?_getD, List.getElem?_append_right (by omega), List.getD_eq_getElem?_getD, e1, Nat.add_sub_cancel]
    · exact absurd h (by simp)

theorem Sim.trans {ρ : Nat → Value} {a b c : V} (h : Sim ρ a b) (k : Sim ρ b c) : Sim ρ a c := ⟨fun o => k.1 (h.1 o), fun φ γ x hφ hv => k.2 φ γ x hφ (h.2 φ γ x hφ hv)⟩
theorem SimL.trans {ρ : Nat → Value} {a b c : List V} (h : SimL ρ a b) (k : SimL ρ b c) : SimL ρ a c := ⟨k.1.trans h.1, fun j v hv => by
  obtain ⟨u, hu, h1⟩ := k.2 j v hv
  obtain ⟨w, hw, h2⟩ := h.2 j u hu
  exact ⟨w, hw, h2.trans h1⟩⟩
theorem Sh.exp_upto : ∀ {s : Sh}, s.flat = true → ∀ (f g : Nat → Value), (∀ j, j < s.width → f j = g j) → s.exp f = s.exp g
  | .nil, _, f, g, _ => rfl
  | .cons a t, hs, f, g, h => by
    have ht : t.flat = true ∧ a.width = 1 := by
      cases a <;> simp [Sh.flat] at hs <;> exact ⟨hs, rfl⟩
    have hw : (Sh.cons a t).width = a.width + t.width := rfl
    rw [hw, ht.2] at h
    show a.exp f ++ t.exp _ = a.exp g ++ t.exp _
    rw [Sh.exp_upto ht.1 (fun j => f (j + 1)) (fun j => g (j + 1)) (fun j hj => h (j + 1) (by omega))]
    congr 1
    have h0 := h 0 (by omega)
    cases a <;> first | (simp [Sh.flat] at hs; done) | simp only [Sh.exp, h0]
  | .sc _, hs, _, _, _ => by simp [Sh.flat] at hs
  | .bytes, hs, _, _, _ => by simp [Sh.flat] at hs
  | .li _, hs, _, _, _ => by simp [Sh.flat] at hs
/-- **Typed cells as unknowns.** -/
theorem ty_sym {tb : Tb} {n : Nat} {t : TypeId} {s : Sh} {cs : List V} (h : shT tb n t = some s) (hx : Ty tb n t cs) : ∃ l : List Value, l.length = s.width ∧ (∀ v, v ∈ l → Bnd v) ∧ ∀ (ρ : Nat → Value) (m : Nat), (∀ j, j < s.width → ρ (m + j) = l.getD j .nilFunc) → SimL ρ cs (s.sym fun j => .dvar (m + j)) := by
  obtain ⟨l, h1, h1b, h2⟩ := ty_dat h hx
  refine ⟨l, h1, h1b, fun ρ m hρ => ?_⟩
  exact (h2 ρ (fun j => ρ (m + j)) hρ).trans (Sh.sym_sim s _ _ (fun j => rfl))
theorem SymOf.sim {ρ : Nat → Value} {x y : V} (h : Sim ρ x y) : SymOf ρ x y := fun w v hv => h.2 (allFroz ρ w) _ v rfl hv
theorem Sim.agg {ρ : Nat → Value} {cs ds : List V} (h : SimL ρ cs ds) : Sim ρ (.agg cs) (.agg ds) := ⟨id, fun φ γ x hφ hv => by
  cases hv with
  | agg h1 h2 h3 =>
    refine .agg (by rw [h1, h.1]) (fun j v hj => ?_) (fun j v hj => ?_)
    · obtain ⟨u, hu, hs⟩ := h.2 j v hj
      exact hs.1 (h2 j u hu)
    · obtain ⟨u, hu, hs⟩ := h.2 j v hj
      exact hs.2 φ γ _ hφ (h3 j u hu)⟩
end
end Go.Sx
