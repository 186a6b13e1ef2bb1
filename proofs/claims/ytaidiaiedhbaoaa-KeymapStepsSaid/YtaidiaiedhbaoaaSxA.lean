/- Unknown lists: what their rows are, and how a row told by data is told by expressions. -/
import Derived.Test.YtaidiaiedhbaoaaSx3
/- Unknown lists: what their rows are, and how a row told by data is told by expressions. -/
set_option linter.unusedVariables false
set_option linter.unusedSimpArgs false
namespace Go.Sx
noncomputable section

/-! ### Equality of expressions -/
theorem bytes_beq' (a b : ByteArray) : (a == b) = true ↔ a = b := by
  obtain ⟨x⟩ := a
  obtain ⟨y⟩ := b
  constructor
  · intro h
    have e : x = y := by simpa using (show (x == y) = true from h)
    rw [e]
  · intro h
    injection h with h
    subst h
    show (x == x) = true
    simp
theorem SE.beq_eq : ∀ {a b : SE}, a.beq b = true → a = b := by
  intro a
  induction a with
  | ivar k n => intro b h; cases b <;> simp [SE.beq] at h; simp [h]
  | int k n => intro b h; cases b <;> simp [SE.beq] at h; simp [h]
  | bin o k x y ih1 ih2 => intro b h; cases b <;> simp [SE.beq] at h; rw [h.1, h.2.1, ih1 h.2.2.1, ih2 h.2.2.2]
  | conv k x ih => intro b h; cases b <;> simp [SE.beq] at h; rw [h.1, ih h.2]
  | max m x y ih1 ih2 => intro b h; cases b <;> simp [SE.beq] at h; rw [h.1, ih1 h.2.1, ih2 h.2.2]
  | len x ih => intro b h; cases b <;> simp only [SE.beq, Bool.false_eq_true] at h; rw [ih h]
  | bvar n => intro b h; cases b <;> simp [SE.beq] at h; simp [h]
  | bool n => intro b h; cases b <;> simp [SE.beq] at h; simp [h]
  | cmp o x y ih1 ih2 => intro b h; cases b <;> simp [SE.beq] at h; rw [h.1, ih1 h.2.1, ih2 h.2.2]
  | eqs x y ih1 ih2 => intro b h; cases b <;> simp [SE.beq] at h; rw [ih1 h.1, ih2 h.2]
  | eqb x y ih1 ih2 => intro b h; cases b <;> simp [SE.beq] at h; rw [ih1 h.1, ih2 h.2]
  | not x ih => intro b h; cases b <;> simp only [SE.beq, Bool.false_eq_true] at h; rw [ih h]
  | and x y ih1 ih2 => intro b h; cases b <;> simp [SE.beq] at h; rw [ih1 h.1, ih2 h.2]
  | svar n => intro b h; cases b <;> simp [SE.beq] at h; simp [h]
  | str n => intro b h; cases b <;> simp only [SE.beq, Bool.false_eq_true] at h; rw [(bytes_beq' _ _).1 h]
  | ite c x y ih0 ih1 ih2 => intro b h; cases b <;> simp [SE.beq] at h; rw [ih0 h.1, ih1 h.2.1, ih2 h.2.2]
  | byte x y ih1 ih2 => intro b h; cases b <;> simp [SE.beq] at h; rw [ih1 h.1, ih2 h.2]
  | cat x y ih1 ih2 => intro b h; cases b <;> simp [SE.beq] at h; rw [ih1 h.1, ih2 h.2]
  | sub c x y ih0 ih1 ih2 => intro b h; cases b <;> simp [SE.beq] at h; rw [ih0 h.1, ih1 h.2.1, ih2 h.2.2]
  | chr x ih => intro b h; cases b <;> simp only [SE.beq, Bool.false_eq_true] at h; rw [ih h]
  | dvar n => intro b h; cases b <;> simp [SE.beq] at h; simp [h]
  | dcell x y j ih1 ih2 => intro b h; cases b <;> simp [SE.beq] at h; rw [h.1, ih1 h.2.1, ih2 h.2.2]
  | dlen x ih => intro b h; cases b <;> simp only [SE.beq, Bool.false_eq_true] at h; rw [ih h]
  | dnil x ih => intro b h; cases b <;> simp only [SE.beq, Bool.false_eq_true] at h; rw [ih h]
  | dleaf t x ih => intro b h; cases b <;> simp [SE.beq] at h; rw [h.1, ih h.2]
  | dcut c x y ih0 ih1 ih2 => intro b h; cases b <;> simp [SE.beq] at h; rw [ih0 h.1, ih1 h.2.1, ih2 h.2.2]
  | dsnoc x y ih1 ih2 => intro b h; cases b <;> simp [SE.beq] at h; rw [ih1 h.1, ih2 h.2]
  | dcat x y ih1 ih2 => intro b h; cases b <;> simp [SE.beq] at h; rw [ih1 h.1, ih2 h.2]
  | dsc t x ih => intro b h; cases b <;> simp [SE.beq] at h; rw [h.1, ih h.2]
  | dtx x y ih1 ih2 => intro b h; cases b <;> simp [SE.beq] at h; rw [ih1 h.1, ih2 h.2]
  | dli x y ih1 ih2 => intro b h; cases b <;> simp [SE.beq] at h; rw [ih1 h.1, ih2 h.2]
  | dlst => intro b h; cases b <;> simp [SE.beq] at h; rfl
theorem Sh.beq_eq : ∀ {a b : Sh}, a.beq b = true → a = b := by
  intro a
  induction a with
  | sc t => intro b h; cases b <;> simp [Sh.beq] at h; rw [h]
  | bytes => intro b h; cases b <;> simp [Sh.beq] at h; rfl
  | li x ih => intro b h; cases b <;> simp only [Sh.beq, Bool.false_eq_true] at h; rw [ih h]
  | nil => intro b h; cases b <;> simp [Sh.beq] at h; rfl
  | cons x y ih1 ih2 => intro b h; cases b <;> simp [Sh.beq] at h; rw [ih1 h.1, ih2 h.2]

/-! ### Values told otherwise -/
/-- Whatever the first tells, the second tells. -/
def Sim (ρ : Nat → Value) (v v' : V) : Prop := (v.one = true → v'.one = true) ∧ ∀ (φ : Froz) (γ : Place) (x : Value), φ.rho = ρ → VRel φ γ v x → VRel φ γ v' x
def SimL (ρ : Nat → Value) (l l' : List V) : Prop := l'.length = l.length ∧ ∀ (j : Nat) (v' : V), l'[j]? = some v' → ∃ v, l[j]? = some v ∧ Sim ρ v v'
theorem Sim.refl (ρ : Nat → Value) (v : V) : Sim ρ v v := ⟨id, fun _ _ _ _ h => h⟩
theorem SimL.refl (ρ : Nat → Value) (l : List V) : SimL ρ l l := ⟨rfl, fun j v h => ⟨v, h, Sim.refl ρ v⟩⟩
theorem SimL.nil (ρ : Nat → Value) : SimL ρ [] [] := SimL.refl ρ []
theorem SimL.one {ρ : Nat → Value} {v v' : V} (h : Sim ρ v v') : SimL ρ [v] [v'] := ⟨rfl, fun j u hu => by
  cases j with
  | zero => simp at hu; subst hu; exact ⟨v, rfl, h⟩
  | succ j => simp at hu⟩
theorem SimL.append {ρ : Nat → Value} {l l' m m' : List V} (h : SimL ρ l l') (k : SimL ρ m m') : SimL ρ (l ++ m) (l' ++ m') := by
  refine ⟨by rw [List.length_append, List.length_append, h.1, k.1], fun j v' hj => ?_⟩
  by_cases hl : j < l'.length
  · rw [List.getElem?_append_left hl] at hj
    obtain ⟨v, h1, h2⟩ := h.2 j v' hj
    exact ⟨v, by rw [List.getElem?_append_left (by rw [← h.1]; exact hl)]; exact h1, h2⟩
  · rw [List.getElem?_append_right (by omega)] at hj
    obtain ⟨v, h1, h2⟩ := k.2 _ v' hj
    exact ⟨v, by rw [List.getElem?_append_right (by rw [← h.1]; omega), ← h.1]; exact h1, h2⟩
theorem SimL.cons {ρ : Nat → Value} {v v' : V} {m m' : List V} (h : Sim ρ v v') (k : SimL ρ m m') : SimL ρ (v :: m) (v' :: m') := (SimL.one h).append k

/-- Lists of rows. -/
def SimR (ρ : Nat → Value) (es es' : List (List V)) : Prop := es'.length = es.length ∧ ∀ (i : Nat) (c' : List V), es'[i]? = some c' → ∃ c, es[i]? = some c ∧ SimL ρ c c'
theorem SimR.refl (ρ : Nat → Value) (l : List (List V)) : SimR ρ l l := ⟨rfl, fun j v h => ⟨v, h, SimL.refl ρ v⟩⟩
theorem SimR.cons {ρ : Nat → Value} {c c' : List V} {es es' : List (List V)} (h : SimL ρ c c') (k : SimR ρ es es') : SimR ρ (c :: es) (c' :: es') := by
  refine ⟨by simp [k.1], fun i d hd => ?_⟩
  cases i with
  | zero => simp at hd; subst hd; exact ⟨c, rfl, h⟩
  | succ i => simp at hd; obtain ⟨e, h1, h2⟩ := k.2 i d hd; exact ⟨e, by simpa using h1, h2⟩

theorem VRel.weak {φ : Froz} {γ : Place} {n : Bool} {es : List (List V)} {tok : Tok} {x : Value} (h : VRel φ γ (.list n es tok) x) : VRel φ γ (.list n es .unk) x := by
  cases h with
  | lnil => exact .lnil
  | list sz f h1 h2 h3 h4 h5 h6 h7 => exact .list sz f h1 h2 h3 h4 h5 h6 trivial
theorem VRel.nil_rows {φ : Froz} {γ : Place} {es : List (List V)} {tok : Tok} {x : Value} (h : VRel φ γ (.list true es tok) x) : es = [] ∧ x = .slice none 0 0 := by
  cases h with
  | lnil => exact ⟨rfl, rfl⟩
theorem VRel.list_sim {φ : Froz} {γ : Place} {n : Bool} {es es' : List (List V)} {tok : Tok} {x : Value} (h : VRel φ γ (.list n es tok) x) (hs : SimR φ.rho es es') : VRel φ γ (.list n es' tok) x := by
  cases h with
  | lnil =>
    have : es' = [] := List.length_eq_zero_iff.1 hs.1
    subst this
    exact .lnil
  | list sz f h1 h2 h3 h4 h5 h6 h7 =>
    rw [← hs.1] at h2 h7 ⊢
    refine .list sz f h1 h2 h3 (fun c hc => ?_) (fun i c hi j v hj => ?_) (fun i c hi j v hj => ?_) h7
    · obtain ⟨i, hi, rfl⟩ := List.mem_iff_getElem.1 hc
      obtain ⟨d, hd, hdc⟩ := hs.2 i _ (List.getElem?_eq_getElem hi)
      rw [hdc.1]
      exact h4 d (List.mem_of_getElem? hd)
    · obtain ⟨d, hd, hdc⟩ := hs.2 i c hi
      obtain ⟨u, hu, huv⟩ := hdc.2 j v hj
      exact ⟨huv.1 (h5 i d hd j u hu).1, (h5 i d hd j u hu).2⟩
    · obtain ⟨d, hd, hdc⟩ := hs.2 i c hi
      obtain ⟨u, hu, huv⟩ := hdc.2 j v hj
      exact huv.2 φ γ _ rfl (h6 i d hd j u hu)
theorem VRel.cptr_sim {φ : Froz} {γ : Place} {cs cs' : List V} {x : Value} (h : VRel φ γ (.cptr cs) x) (hs : SimL φ.rho cs cs') : VRel φ γ (.cptr cs') x := by
  cases h with
  | cptr f h1 h2 h3 =>
    refine .cptr f h1 (fun j v hj => ?_) (fun j v hj => ?_)
    · obtain ⟨u, hu, huv⟩ := hs.2 j v hj
      exact ⟨huv.1 (h2 j u hu).1, (h2 j u hu).2⟩
    · obtain ⟨u, hu, huv⟩ := hs.2 j v hj
      exact huv.2 φ γ _ rfl (h3 j u hu)
theorem boolV_rel {φ : Froz} {γ : Place} (e : SE) : VRel φ γ (boolV e) (.bool (e.truth φ.rho)) := by
  unfold boolV
  split
  · exact .val rfl
  · exact .sym rfl

/-! ### Rows -/
theorem Sh.exp_len : ∀ (s : Sh) (f : Nat → Value), (s.exp f).length = s.width
  | .sc _, _ => rfl
  | .bytes, _ => rfl
  | .li _, _ => rfl
  | .nil, _ => rfl
  | .cons h t, f => by
    show (h.exp f ++ t.exp _).length = h.width + t.width
    rw [List.length_append, Sh.exp_len h, Sh.exp_len t]
theorem Sh.exp_one : ∀ (s : Sh) (f : Nat → Value) (v : V), v ∈ s.exp f → v.one = true
  | .sc _, _, v, h => by simp [Sh.exp] at h; subst h; rfl
  | .bytes, _, v, h => by simp [Sh.exp] at h; subst h; rfl
  | .li _, _, v, h => by simp [Sh.exp] at h; subst h; rfl
  | .nil, _, v, h => by simp [Sh.exp] at h
  | .cons a t, f, v, h => by
    rcases List.mem_append.1 (show v ∈ a.exp f ++ t.exp _ from h) with h | h
    · exact Sh.exp_one a f v h
    · exact Sh.exp_one t _ v h
theorem leafD_val (ρ : Nat → Value) (t : STy) (e : SE) : (SE.dleaf t e).val ρ t = leafD t (e.data ρ) := by
  cases t <;> rfl
theorem Sh.sym_sim {ρ : Nat → Value} : ∀ (s : Sh) (f : Nat → Value) (g : Nat → SE), (∀ j, (g j).data ρ = f j) → SimL ρ (s.exp f) (s.sym g)
  | .sc t, f, g, h => SimL.one ⟨fun _ => rfl, fun φ γ x hφ hv => by
      cases hv
      refine .sym ?_
      rw [hφ, leafD_val, h 0]⟩
  | .bytes, f, g, h => SimL.one ⟨fun _ => rfl, fun φ γ x hφ hv => by
      refine .sli ?_
      have e1 : (SE.dnil (g 0)).truth φ.rho = isNilD (f 0) := by rw [hφ, ← h 0]; rfl
      have e2 : rowsOf φ.rho .bytes (.dleaf .str (g 0)) = bytesL (textOf (f 0)) := by rw [hφ, ← h 0]; rfl
      rw [e1, e2]
      exact hv⟩
  | .li el, f, g, h => SimL.one ⟨fun _ => rfl, fun φ γ x hφ hv => by
      refine .sli ?_
      have e1 : (SE.dnil (g 0)).truth φ.rho = isNilD (f 0) := by rw [hφ, ← h 0]; rfl
      have e2 : rowsOf φ.rho (.li el) (g 0) = (elsD (f 0)).map fun r => el.exp (cellD r) := by rw [hφ, ← h 0]; rfl
      rw [e1, e2]
      exact hv⟩
  | .nil, _, _, _ => SimL.nil ρ
  | .cons a t, f, g, h => (Sh.sym_sim a f g h).append (Sh.sym_sim t _ _ (fun j => h (j + 1)))

theorem bytesL_len (s : ByteArray) : (bytesL s).length = s.size := by
  unfold bytesL
  rw [List.length_map, Array.length_toList]
  rfl
theorem rows_len {ρ : Nat → Value} {k : Sh} (hk : isList k = true) (e : SE) : (lenSE k e).num ρ = ((rowsOf ρ k e).length : Int) := by
  cases k with
  | bytes => show ((textOf (e.all ρ).2.2).size : Int) = _; unfold rowsOf; rw [bytesL_len]; rfl
  | li el => show (((elsD (e.all ρ).2.2).length : Nat) : Int) = _; unfold rowsOf; rw [List.length_map]; rfl
  | _ => simp [isList] at hk
theorem rows_row {ρ : Nat → Value} {k : Sh} {e : SE} {c : List V} (h : c ∈ rowsOf ρ k e) : c.length = rowW k := by
  cases k with
  | bytes => obtain ⟨b, _, rfl⟩ := List.mem_map.1 h; rfl
  | li el => obtain ⟨b, _, rfl⟩ := List.mem_map.1 h; exact Sh.exp_len el _
  | _ => simp [rowsOf] at h
theorem rows_one {ρ : Nat → Value} {k : Sh} {e : SE} {c : List V} (h : c ∈ rowsOf ρ k e) {v : V} (hv : v ∈ c) : v.one = true := by
  cases k with
  | bytes => obtain ⟨b, _, rfl⟩ := List.mem_map.1 h; simp at hv; subst hv; rfl
  | li el => obtain ⟨b, _, rfl⟩ := List.mem_map.1 h; exact Sh.exp_one el _ v hv
  | _ => simp [rowsOf] at h
/-- A row at a place that is told. -/
theorem rows_at {ρ : Nat → Value} {k : Sh} (hk : isList k = true) {e i : SE} (h : within ρ i (lenSE k e) = true) : ∃ c, (rowsOf ρ k e)[(i.num ρ).toNat]? = some c ∧ 0 ≤ i.num ρ ∧ i.num ρ < ((rowsOf ρ k e).length : Int) ∧ SimL ρ c (rowSym k e i) := by
  unfold within at h
  simp only [Bool.and_eq_true, decide_eq_true_eq] at h
  rw [rows_len hk] at h
  have hlt : (i.num ρ).toNat < (rowsOf ρ k e).length := by omega
  cases k with
  | bytes =>
    have hs : (i.num ρ).toNat < (e.text ρ).size := by
      have := hlt
      unfold rowsOf at this
      simp only [bytesL_len] at this
      exact this
    refine ⟨[V.val (.int .u8 ((e.text ρ)[(i.num ρ).toNat]'hs).toNat)], ?_, h.1, h.2, ?_⟩
    · show ((e.text ρ).data.toList.map fun b : UInt8 => [V.val (.int .u8 b.toNat)])[(i.num ρ).toNat]? = _
      have hs2 : (i.num ρ).toNat < (e.text ρ).data.toList.length := by rw [Array.length_toList]; exact hs
      rw [List.getElem?_map, List.getElem?_eq_getElem hs2, Array.getElem_toList]
      rfl
    refine SimL.one ⟨fun _ => rfl, fun φ γ x hφ hv => ?_⟩
    cases hv
    refine .sym ?_
    rw [hφ]
    show Value.int .u8 _ = Value.int .u8 (byteAt (e.text ρ) (i.num ρ))
    unfold byteAt
    rw [if_pos h.1]
    have : (e.text ρ)[(i.num ρ).toNat]? = some ((e.text ρ)[(i.num ρ).toNat]'hs) := by simp [hs]
    rw [this]
  | li el =>
    have hs : (i.num ρ).toNat < (elsD (e.data ρ)).length := by
      have := hlt
      unfold rowsOf at this
      simpa using this
    refine ⟨el.exp (cellD ((elsD (e.data ρ))[(i.num ρ).toNat]'hs)), ?_, h.1, h.2, ?_⟩
    · show ((elsD (e.data ρ)).map fun r => el.exp (cellD r))[(i.num ρ).toNat]? = _
      rw [List.getElem?_map, List.getElem?_eq_getElem hs]
      rfl
    refine Sh.sym_sim el _ _ (fun j => ?_)
    show cellD ((elsD (e.data ρ)).getD (i.num ρ).toNat .nilFunc) j = _
    rw [List.getD_eq_getElem?_getD, List.getElem?_eq_getElem hs]
    rfl
  | _ => simp [isList] at hk

/-! ### Cuts -/
theorem beq_num {a b : SE} (ρ : Nat → Value) (h : a = b) : a.num ρ = b.num ρ := by rw [h]
theorem rows_sub {ρ : Nat → Value} {k : Sh} (hk : isList k = true) (e a b : SE) : rowsOf ρ k (subSE k e a b) = ((rowsOf ρ k e).take (b.num ρ).toNat).drop (a.num ρ).toNat := by
  cases k with
  | bytes =>
    show bytesL ((e.text ρ).extract (a.num ρ).toNat (b.num ρ).toNat) = ((bytesL (e.text ρ)).take _).drop _
    unfold bytesL
    rw [ByteArray.data_extract, Array.toList_extract, ← List.map_take, ← List.map_drop, List.drop_take]
    try simp [List.extract]
  | li el =>
    show (elsD (listD (((elsD (e.data ρ)).take (b.num ρ).toNat).drop (a.num ρ).toNat))).map _ = (((elsD (e.data ρ)).map _).take _).drop _
    rw [← List.map_take, ← List.map_drop]
    rfl
  | _ => simp [isList] at hk
theorem rows_cut {ρ : Nat → Value} {k : Sh} (hk : isList k = true) (e a b : SE) : rowsOf ρ k (cutSE k e a b) = ((rowsOf ρ k e).take (b.num ρ).toNat).drop (a.num ρ).toNat := by
  unfold cutSE
  split
  · rename_i hc
    rw [Bool.and_eq_true] at hc
    have h1 : a.num ρ = 0 := by
      have := hc.1
      unfold isZero at this
      split at this
      · exact eq_of_beq this
      · exact absurd this (by simp)
    have h2 : b.num ρ = ((rowsOf ρ k e).length : Int) := by rw [SE.beq_eq hc.2, rows_len hk]
    rw [h1, h2]
    simp
  · exact rows_sub hk e a b
theorem boundSE_ok {tb : Tb} {v : Option V} {d a : SE} {dflt most : Nat} (h : boundSE v d = some a) (hd : d.num tb.rho = dflt) (h0 : 0 ≤ a.num tb.rho) (h1 : a.num tb.rho ≤ most) : bound tb v dflt most = some (a.num tb.rho).toNat := by
  unfold boundSE at h
  cases v with
  | none =>
    cases h
    show some dflt = _
    rw [hd]
    simp
  | some v =>
    simp only at h
    split at h
    · rename_i k e hse
      cases h
      have ht : told tb v = .val (.int k (a.num tb.rho)) := by
        unfold toSE at hse
        split at hse
        · cases hse; rfl
        · cases hse; rfl
        · cases hse
        · cases hse
        · exact absurd hse (by simp)
      unfold bound
      simp only [ht]
      rw [if_pos ⟨h0, h1⟩]
    · exact absurd h (by simp)
theorem toSE_int {φ : Froz} {γ : Place} {v : V} {k : IntKind} {a : SE} {x : Value} (h : toSE v = some (.int k, a)) (hv : VRel φ γ v x) : x = .int k (a.num φ.rho) := by
  unfold toSE at h
  split at h
  · cases h; cases hv with
    | sym h1 => exact h1
  · cases h; cases hv; rfl
  · cases h
  · cases h
  · exact absurd h (by simp)
theorem toSE_val {φ : Froz} {γ : Place} {v : V} {t : STy} {a : SE} {x : Value} (h : toSE v = some (t, a)) (hv : VRel φ γ v x) : x = a.val φ.rho t := by
  unfold toSE at h
  split at h
  · cases h; cases hv with
    | sym h1 => exact h1
  · cases h; cases hv; rfl
  · cases h; cases hv; rfl
  · cases h; cases hv; rfl
  · exact absurd h (by simp)

/-! ### Rows joined -/
theorem rows_cat {ρ : Nat → Value} {k : Sh} (hk : isList k = true) (e f : SE) : rowsOf ρ k (catSE k e f) = rowsOf ρ k e ++ rowsOf ρ k f := by
  cases k with
  | bytes =>
    show bytesL (e.text ρ ++ f.text ρ) = bytesL (e.text ρ) ++ bytesL (f.text ρ)
    unfold bytesL
    rw [ByteArray.data_append, Array.toList_append, List.map_append]
  | li el =>
    show (elsD (listD (elsD (e.data ρ) ++ elsD (f.data ρ)))).map _ = (elsD (e.data ρ)).map _ ++ (elsD (f.data ρ)).map _
    rw [← List.map_append]
    rfl
  | _ => simp [isList] at hk
theorem isNilD_els {d : Value} (h : isNilD d = true) : elsD d = [] ∧ textOf d = .empty := by
  cases d <;> first | (simp [isNilD] at h; done) | exact ⟨rfl, rfl⟩
theorem cellDat_sim {ρ : Nat → Value} {ok : IntKind → SE → Bool} (hok : ∀ k a, ok k a = true → fitsK ρ k a = true) {sh : Sh} {v : V} {c : SE} (h : cellDat ok sh v = some c) : ∃ v', (∀ f : Nat → Value, f 0 = c.data ρ → sh.exp f = [v']) ∧ Sim ρ v v' := by
  unfold cellDat at h
  split at h
  · rename_i t
    split at h
    · rename_i t' a hse
      have hc : (t' == t) = true ∧ okT ok t a = true ∧ c = .dsc t a := by
        split at h
        · rename_i hc
          rw [Bool.and_eq_true] at hc
          exact ⟨hc.1, hc.2, (Option.some.inj h).symm⟩
        · exact absurd h (by simp)
      obtain ⟨hc1, hc2, rfl⟩ := hc
      · have ht := eq_of_beq hc1
        subst ht
        refine ⟨.val (leafD t' ((SE.dsc t' a).data ρ)), fun f hf => by show [V.val (leafD t' (f 0))] = _; rw [hf], fun _ => rfl, fun φ γ x hφ hv => ?_⟩
        have hx := toSE_val hse hv
        have : leafD t' ((SE.dsc t' a).data ρ) = x := by
          rw [hx, hφ]
          cases t' with
          | int k =>
            have := hok k a hc2
            unfold fitsK at this
            show Value.int k (k.wrap (a.num ρ)) = Value.int k (a.num ρ)
            rw [of_decide_eq_true this]
          | bool => rfl
          | str => rfl
        rw [this]
        refine .val ?_
        rw [hx]
        exact SE.val_plain _ _ _
    · exact absurd h (by simp)
  · split at h
    · rename_i nl e tok
      cases h
      refine ⟨.list (isNilD ((SE.dtx nl e).data ρ)) (bytesL (textOf ((SE.dtx nl e).data ρ))) .unk, fun f hf => by show [V.list (isNilD (f 0)) (bytesL (textOf (f 0))) .unk] = _; rw [hf], fun _ => rfl, fun φ γ x hφ hv => ?_⟩
      cases hv with
      | sli h1 =>
        subst hφ
        have h1 := h1.weak
        have hd : (SE.dtx nl e).data φ.rho = if nl.truth φ.rho then .nilFunc else .string (e.text φ.rho) := rfl
        rw [hd]
        cases hn : nl.truth φ.rho with
        | true =>
          rw [hn] at h1
          obtain ⟨h2, rfl⟩ := h1.nil_rows
          exact .lnil
        | false =>
          rw [hn] at h1
          exact h1
    · rename_i nl tok
      cases h
      refine ⟨.list (isNilD ((SE.dtx (.bool nl) (.str .empty)).data ρ)) (bytesL (textOf ((SE.dtx (.bool nl) (.str .empty)).data ρ))) .unk, fun f hf => by show [V.list (isNilD (f 0)) (bytesL (textOf (f 0))) .unk] = _; rw [hf], fun _ => rfl, fun φ γ x hφ hv => ?_⟩
      cases nl with
      | true => exact hv.weak
      | false => exact hv.weak
    · exact absurd h (by simp)
  · rename_i el
    split at h
    · rename_i el' nl e tok
      split at h
      · rename_i hel
        cases h
        have hel : el = el' := Sh.beq_eq hel
        subst hel
        refine ⟨.list (isNilD ((SE.dli nl e).data ρ)) ((elsD ((SE.dli nl e).data ρ)).map fun r => el.exp (cellD r)) .unk, fun f hf => by show [V.list (isNilD (f 0)) ((elsD (f 0)).map fun r => el.exp (cellD r)) .unk] = _; rw [hf], fun _ => rfl, fun φ γ x hφ hv => ?_⟩
        cases hv with
        | sli h1 =>
          subst hφ
          have h1 := h1.weak
          have hd : (SE.dli nl e).data φ.rho = if nl.truth φ.rho then .nilFunc else listD (elsD (e.data φ.rho)) := rfl
          rw [hd]
          cases hn : nl.truth φ.rho with
          | true =>
            rw [hn] at h1
            obtain ⟨h2, rfl⟩ := h1.nil_rows
            exact .lnil
          | false =>
            rw [hn] at h1
            exact h1
      · exact absurd h (by simp)
    · rename_i nl tok
      cases h
      refine ⟨.list (isNilD ((SE.dli (.bool nl) .dlst).data ρ)) ((elsD ((SE.dli (.bool nl) .dlst).data ρ)).map fun r => el.exp (cellD r)) .unk, fun f hf => by show [V.list (isNilD (f 0)) ((elsD (f 0)).map fun r => el.exp (cellD r)) .unk] = _; rw [hf], fun _ => rfl, fun φ γ x hφ hv => ?_⟩
      cases nl with
      | true => exact hv.weak
      | false => exact hv.weak
    · exact absurd h (by simp)
  · exact absurd h (by simp)
theorem Sh.exp_congr : ∀ (s : Sh) (f g : Nat → Value), (∀ j, f j = g j) → s.exp f = s.exp g := fun s f g h => by
  have : f = g := funext h
  rw [this]
theorem cellD_snoc_lt {l : List Value} {x : Value} {j : Nat} (h : j < l.length) : cellD (listD (l ++ [x])) j = l.getD j .nilFunc := by
  show (l ++ [x]).getD j .nilFunc = _
  rw [List.getD_eq_getElem?_getD, List.getElem?_append_left h, List.getD_eq_getElem?_getD]
/-- A row made of cells: what stands in it from a place on. -/
theorem rowDat_sim {ρ : Nat → Value} {ok : IntKind → SE → Bool} (hok : ∀ k a, ok k a = true → fitsK ρ k a = true) : ∀ {sh : Sh} {cs : List V} {acc r : SE}, rowDat ok sh cs acc = some r →
    (∃ more, elsD (r.data ρ) = elsD (acc.data ρ) ++ more) ∧ SimL ρ cs (sh.exp fun j => cellD (r.data ρ) (j + (elsD (acc.data ρ)).length)) := by
  intro sh
  induction sh with
  | nil =>
    intro cs acc r h
    cases cs with
    | nil => simp [rowDat] at h; subst h; exact ⟨⟨[], by simp⟩, SimL.nil ρ⟩
    | cons _ _ => simp [rowDat] at h
  | cons a t _ iht =>
    intro cs acc r h
    cases cs with
    | nil => simp [rowDat] at h
    | cons v vs =>
      simp only [rowDat, Option.bind_eq_some_iff] at h
      obtain ⟨c, hc, h⟩ := h
      obtain ⟨⟨more, hm⟩, hs⟩ := iht h
      have hacc : elsD ((SE.dsnoc acc c).data ρ) = elsD (acc.data ρ) ++ [c.data ρ] := rfl
      rw [hacc] at hm hs
      refine ⟨⟨c.data ρ :: more, by rw [hm]; simp⟩, ?_⟩
      obtain ⟨v', hv', hsim⟩ := cellDat_sim hok hc
      have h0 : cellD (r.data ρ) (0 + (elsD (acc.data ρ)).length) = c.data ρ := by
        show (elsD (r.data ρ)).getD _ _ = _
        rw [hm, List.getD_eq_getElem?_getD]
        simp
      show SimL ρ (v :: vs) (a.exp _ ++ t.exp _)
      rw [hv' _ h0]
      refine SimL.cons hsim ?_
      have e : (fun j => cellD (r.data ρ) (j + 1 + (elsD (acc.data ρ)).length)) = fun j => cellD (r.data ρ) (j + (elsD (acc.data ρ) ++ [c.data ρ]).length) := by
        funext j
        rw [List.length_append]
        congr 1
        simp only [List.length_singleton]
        omega
      rw [e]
      exact hs
  | _ => intro cs acc r h; cases cs <;> simp [rowDat] at h
theorem snocRows_sim {ρ : Nat → Value} {ok : IntKind → SE → Bool} (hok : ∀ k a, ok k a = true → fitsK ρ k a = true) {el : Sh} : ∀ {es : List (List V)} {e e' : SE}, snocRows ok el es e = some e' → ∃ news, rowsOf ρ (.li el) e' = rowsOf ρ (.li el) e ++ news ∧ SimR ρ es news
  | [], e, e', h => by simp [snocRows] at h; subst h; exact ⟨[], by simp, SimR.refl ρ []⟩
  | c :: es, e, e', h => by
    simp only [snocRows, Option.bind_eq_some_iff] at h
    obtain ⟨r, hr, h⟩ := h
    obtain ⟨news, h1, h2⟩ := snocRows_sim hok h
    obtain ⟨_, h3⟩ := rowDat_sim hok hr
    have e1 : rowsOf ρ (.li el) (.dsnoc e r) = rowsOf ρ (.li el) e ++ [el.exp (cellD (r.data ρ))] := by
      show (elsD (listD (elsD (e.data ρ) ++ [r.data ρ]))).map _ = (elsD (e.data ρ)).map _ ++ _
      show (elsD (e.data ρ) ++ [r.data ρ]).map _ = _
      rw [List.map_append]
      rfl
    refine ⟨el.exp (cellD (r.data ρ)) :: news, by rw [h1, e1, List.append_assoc]; rfl, SimR.cons ?_ h2⟩
    have e2 : (fun j => cellD (r.data ρ) (j + (elsD (SE.dlst.data ρ)).length)) = cellD (r.data ρ) := by
      funext j
      show cellD _ (j + 0) = _
      rw [Nat.add_zero]
    rw [e2] at h3
    exact h3
theorem byteDat_sim {ρ : Nat → Value} {ok : IntKind → SE → Bool} (hok : ∀ k a, ok k a = true → fitsK ρ k a = true) {c : List V} {b : SE} (h : byteDat ok c = some b) : SimL ρ c [.val (.int .u8 (UInt8.ofNat (b.num ρ).toNat).toNat)] := by
  unfold byteDat at h
  simp only [Option.bind_eq_some_iff] at h
  obtain ⟨b', hb, h⟩ := h
  split at h
  · rename_i ho
    cases h
    have hf := hok _ _ ho
    unfold fitsK at hf
    have hf := of_decide_eq_true hf
    have hw : ((UInt8.ofNat (b.num ρ).toNat).toNat : Int) = b.num ρ := by
      have h0 : 0 ≤ b.num ρ ∧ b.num ρ < 256 := by
        rw [← hf]
        simp only [IntKind.wrap, IntKind.bits, IntKind.signed]
        simp
        omega
      rw [UInt8.toNat_ofNat']
      omega
    rw [hw]
    unfold cellSE at hb
    split at hb
    · cases hb
      exact SimL.refl ρ _
    · cases hb
      refine SimL.one ⟨fun _ => rfl, fun φ γ x hφ hv => ?_⟩
      cases hv with
      | sym h1 =>
        have e : x = .int .u8 (b.num ρ) := by rw [h1, hφ]; rfl
        rw [e]
        exact .val rfl
    · exact absurd hb (by simp)
  · exact absurd h (by simp)
theorem byteDats_sim {ρ : Nat → Value} {ok : IntKind → SE → Bool} (hok : ∀ k a, ok k a = true → fitsK ρ k a = true) : ∀ {es : List (List V)} {bs : List SE}, es.mapM (byteDat ok) = some bs → SimR ρ es (bs.map fun b => [V.val (.int .u8 (UInt8.ofNat (b.num ρ).toNat).toNat)])
  | [], bs, h => by simp at h; subst h; exact SimR.refl ρ []
  | c :: es, bs, h => by
    rw [List.mapM_cons] at h
    simp only [Option.bind_eq_bind, Option.bind_eq_some_iff, Option.pure_def, Option.some.injEq] at h
    obtain ⟨b, hb, bs', hbs, rfl⟩ := h
    exact SimR.cons (byteDat_sim hok hb) (byteDats_sim hok hbs)
theorem textSE_rows (ρ : Nat → Value) : ∀ bs : List SE, bytesL ((textSE bs).text ρ) = bs.map fun b => [V.val (.int .u8 (UInt8.ofNat (b.num ρ).toNat).toNat)]
  | [] => rfl
  | [x] => rfl
  | x :: y :: l => by
    have ih := textSE_rows ρ (y :: l)
    have e : bytesL ((textSE (x :: y :: l)).text ρ) = bytesL ((SE.chr x).text ρ) ++ bytesL ((textSE (y :: l)).text ρ) := rows_cat (k := .bytes) rfl (.chr x) (textSE (y :: l))
    rw [e, ih]
    rfl
theorem catBytes_rows (ρ : Nat → Value) (e : SE) (bs : List SE) : rowsOf ρ .bytes (catBytes e bs) = rowsOf ρ .bytes e ++ bs.map fun b => [V.val (.int .u8 (UInt8.ofNat (b.num ρ).toNat).toNat)] := by
  unfold catBytes
  split
  · simp
  · rename_i x l
    have key : rowsOf ρ .bytes (.cat e (textSE (x :: l))) = rowsOf ρ .bytes e ++ (x :: l).map fun b => [V.val (.int .u8 (UInt8.ofNat (b.num ρ).toNat).toNat)] := by
      rw [show SE.cat e (textSE (x :: l)) = catSE .bytes e (textSE (x :: l)) from rfl, rows_cat rfl]
      congr 1
      exact textSE_rows ρ (x :: l)
    split
    · rename_i s
      split
      · rename_i hs
        have h0 : s.size = 0 := Nat.eq_of_beq_eq_true hs
        have : bytesL s = [] := List.length_eq_zero_iff.1 (by rw [bytesL_len]; exact h0)
        show bytesL ((textSE (x :: l)).text ρ) = bytesL s ++ _
        rw [this, List.nil_append]
        exact textSE_rows ρ (x :: l)
      · exact key
    · exact key
theorem catRows_sim {ρ : Nat → Value} {ok : IntKind → SE → Bool} (hok : ∀ k a, ok k a = true → fitsK ρ k a = true) {k : Sh} {e e' : SE} {es : List (List V)} (h : catRows ok k e es = some e') : ∃ news, rowsOf ρ k e' = rowsOf ρ k e ++ news ∧ SimR ρ es news := by
  unfold catRows at h
  split at h
  · obtain ⟨bs, hbs, rfl⟩ := Option.map_eq_some_iff.1 h
    exact ⟨_, catBytes_rows ρ e bs, byteDats_sim hok hbs⟩
  · exact snocRows_sim hok h
  · exact absurd h (by simp)
theorem rows_empty (ρ : Nat → Value) (k : Sh) : rowsOf ρ k (emptyC k) = [] := by
  cases k <;> rfl
/-- A slice as an unknown list. -/
theorem toSli_rel {φ : Froz} {γ : Place} {ok : IntKind → SE → Bool} (hok : ∀ k a, ok k a = true → fitsK φ.rho k a = true) {k : Sh} {v : V} {nl e : SE} {tok : Tok} {x : Value} (h : toSli ok k v = some (nl, e, tok)) (hv : VRel φ γ v x) : VRel φ γ (.list (nl.truth φ.rho) (rowsOf φ.rho k e) tok) x := by
  unfold toSli at h
  split at h
  · split at h
    · rename_i hk
      cases h
      have hk := Sh.beq_eq hk
      subst hk
      cases hv with
      | sli h1 => exact h1
    · exact absurd h (by simp)
  · cases h
    obtain ⟨h1, rfl⟩ := hv.nil_rows
    rw [rows_empty]
    exact .lnil
  · obtain ⟨e2, h2, h3⟩ := Option.map_eq_some_iff.1 h
    cases h3
    obtain ⟨news, h4, h5⟩ := catRows_sim hok h2
    rw [rows_empty, List.nil_append] at h4
    rw [h4]
    exact hv.list_sim h5
  · exact absurd h (by simp)
end
end Go.Sx
