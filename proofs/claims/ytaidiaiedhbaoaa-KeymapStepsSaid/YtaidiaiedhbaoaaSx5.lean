/- Lists of elements and their cells; conversions, cuts, fields, indexes. -/
import Derived.Test.YtaidiaiedhbaoaaSx4
import Derived.Laws.IdiomStrings
import Derived.Laws.BytesArg
/- Lists of elements and their cells; conversions, cuts, fields, indexes. -/
set_option linter.unusedVariables false
set_option linter.unusedSimpArgs false
namespace Go.Sx
noncomputable section

theorem add_eq {a : Addr} (h : a.spot = none) (k : Nat) : a.add k = ⟨a.block, a.off + k, none⟩ := by
  obtain ⟨b, o, s⟩ := a
  simp only at h
  subst h
  unfold Addr.add
  split
  · subst_vars; rfl
  · rfl

/-! ### Rows of equal length -/
theorem flat_len {α : Type} {sz : Nat} : ∀ {es : List (List α)}, (∀ c, c ∈ es → c.length = sz) → es.flatten.length = es.length * sz
  | [], _ => by simp
  | c :: es, h => by
    rw [List.flatten_cons, List.length_append, flat_len (fun d hd => h d (List.mem_cons_of_mem _ hd)), h c List.mem_cons_self, List.length_cons, Nat.succ_mul, Nat.add_comm]

theorem flat_get {α : Type} {sz : Nat} : ∀ {es : List (List α)}, (∀ c, c ∈ es → c.length = sz) → ∀ {i j : Nat} {c : List α} {v : α}, es[i]? = some c → c[j]? = some v → es.flatten[i * sz + j]? = some v
  | [], _, i, j, c, v, hi, _ => by simp at hi
  | d :: es, h, 0, j, c, v, hi, hj => by
    simp at hi
    subst hi
    have hd := h d List.mem_cons_self
    have hl : j < d.length := by
      rcases Nat.lt_or_ge j d.length with h | h
      · exact h
      · rw [List.getElem?_eq_none h] at hj; exact absurd hj (by simp)
    rw [List.flatten_cons, Nat.zero_mul, Nat.zero_add, List.getElem?_append_left hl]
    exact hj
  | d :: es, h, i + 1, j, c, v, hi, hj => by
    have hd := h d List.mem_cons_self
    rw [List.flatten_cons, List.getElem?_append_right (by rw [hd, Nat.succ_mul]; omega), hd, show (i + 1) * sz + j - sz = i * sz + j by rw [Nat.succ_mul]; omega]
    exact flat_get (fun c hc => h c (List.mem_cons_of_mem _ hc)) (by simpa using hi) hj

theorem flat_inv {α : Type} {sz : Nat} : ∀ {es : List (List α)}, (∀ c, c ∈ es → c.length = sz) → ∀ {k : Nat} {v : α}, es.flatten[k]? = some v → ∃ i j c, k = i * sz + j ∧ es[i]? = some c ∧ c[j]? = some v
  | [], _, k, v, hk => by simp at hk
  | d :: es, h, k, v, hk => by
    have hd := h d List.mem_cons_self
    rw [List.flatten_cons] at hk
    by_cases hl : k < d.length
    · rw [List.getElem?_append_left hl] at hk
      exact ⟨0, k, d, by omega, rfl, hk⟩
    · rw [List.getElem?_append_right (by omega)] at hk
      obtain ⟨i, j, c, he, hi, hj⟩ := flat_inv (fun c hc => h c (List.mem_cons_of_mem _ hc)) hk
      exact ⟨i + 1, j, c, by rw [Nat.succ_mul]; omega, by simpa using hi, hj⟩

/-! ### Slices -/
theorem VRel.list_mk {φ : Froz} {γ : Place} {es : List (List V)} {tok : Tok} {a : Addr} {cap : Nat} (sz : Nat) (f : Nat → Value) (h1 : 0 < cap → a.spot = none) (h2 : es.length ≤ cap) (h3 : cap ≤ maxLen) (h4 : ∀ c, c ∈ es → c.length = sz)
    (h5 : ∀ (k : Nat) (v : V), es.flatten[k]? = some v → v.one = true ∧ φ a.block (a.off + k) = some (f k) ∧ VRel φ γ v (f k)) (h7 : TokRel γ tok a es.length cap sz) : VRel φ γ (.list false es tok) (.slice (some a) es.length cap) :=
  .list sz f h1 h2 h3 h4 (fun i c hi j v hj => have := h5 _ v (flat_get h4 hi hj); ⟨this.1, this.2.1⟩) (fun i c hi j v hj => (h5 _ v (flat_get h4 hi hj)).2.2) h7

/-- What a slice's value says of the model's. -/
structure ListIs (φ : Froz) (γ : Place) (es : List (List V)) (tok : Tok) (a : Addr) (cap sz : Nat) (f : Nat → Value) : Prop where
  spot : 0 < cap → a.spot = none
  le : es.length ≤ cap
  max : cap ≤ maxLen
  row : ∀ c, c ∈ es → c.length = sz
  cell : ∀ (k : Nat) (v : V), es.flatten[k]? = some v → v.one = true ∧ φ a.block (a.off + k) = some (f k) ∧ VRel φ γ v (f k)
  tok : TokRel γ tok a es.length cap sz

theorem VRel.list_inv {φ : Froz} {γ : Place} {n : Bool} {es : List (List V)} {tok : Tok} {x : Value} (h : VRel φ γ (.list n es tok) x) :
    (n = true ∧ es = [] ∧ x = .slice none 0 0) ∨ (n = false ∧ ∃ a cap sz f, x = .slice (some a) es.length cap ∧ ListIs φ γ es tok a cap sz f) := by
  cases h with
  | lnil => exact .inl ⟨rfl, rfl, rfl⟩
  | list sz f h1 h2 h3 h4 h5 h6 h7 =>
    refine .inr ⟨rfl, _, _, sz, f, rfl, h1, h2, h3, h4, fun k v hk => ?_, h7⟩
    obtain ⟨i, j, c, rfl, hi, hj⟩ := flat_inv h4 hk
    exact ⟨(h5 i c hi j v hj).1, (h5 i c hi j v hj).2, h6 i c hi j v hj⟩

theorem ListIs.mk_rel {φ : Froz} {γ : Place} {es : List (List V)} {tok : Tok} {a : Addr} {cap sz : Nat} {f : Nat → Value} (h : ListIs φ γ es tok a cap sz f) : VRel φ γ (.list false es tok) (.slice (some a) es.length cap) :=
  .list_mk sz f h.spot h.le h.max h.row h.cell h.tok

/-- Its cells, as the model holds them. -/
theorem ListIs.cells {N : Nat} {φ : Froz} {γ : Place} {H : Heap} {w : World} {es : List (List V)} {tok : Tok} {a : Addr} {cap sz : Nat} {f : Nat → Value} (h : ListIs φ γ es tok a cap sz f) (hr : Rel N φ γ H w) :
    ∀ j u, ((List.range (es.length * sz)).map f)[j]? = some u → w.cell? (a.add j) = some u := by
  intro j u hj
  have hl : j < es.length * sz := by
    rcases Nat.lt_or_ge j (es.length * sz) with h | h
    · exact h
    · rw [List.getElem?_eq_none (by simpa using h)] at hj; exact absurd hj (by simp)
  have hj' : f j = u := by simpa [hl] using hj
  have hf : j < es.flatten.length := by rw [flat_len h.row]; exact hl
  have hc := h.cell j es.flatten[j] (by simp [hf])
  have hcap : 0 < cap := by
    have h1 := h.le
    rcases Nat.eq_zero_or_pos es.length with h2 | h2
    · rw [h2] at hl; omega
    · omega
  rw [add_eq (h.spot hcap), ← hj']
  exact hr.froz _ _ _ hc.2.1

theorem ListIs.one {φ : Froz} {γ : Place} {es : List (List V)} {tok : Tok} {a : Addr} {cap sz : Nat} {f : Nat → Value} (h : ListIs φ γ es tok a cap sz f) :
    ∀ u, u ∈ (List.range (es.length * sz)).map f → u.oneCell' = true := by
  intro u hu
  obtain ⟨j, hj, rfl⟩ := List.mem_map.1 hu
  have hf : j < es.flatten.length := by rw [flat_len h.row]; simpa using hj
  have hc := h.cell j es.flatten[j] (by simp [hf])
  exact hc.2.2.one hc.1

/-! ### Conversions -/
theorem ofNat_toNat (b : UInt8) : UInt8.ofNat b.toNat = b := by simp

theorem byte_plain (b : UInt8) : plain (.int .u8 b.toNat) = true := rfl

/-- A block of cells that nobody will write to. -/
def FAdd (φ : Froz) (b : Nat) (n : Nat) (f : Nat → Value) : Froz := ⟨fun i o => if i = b ∧ o < n then some (f o) else φ i o, φ.rho⟩
theorem FAdd.at_ (φ : Froz) (b : Nat) (n : Nat) (f : Nat → Value) (i o : Nat) : (FAdd φ b n f) i o = if i = b ∧ o < n then some (f o) else φ i o := rfl
theorem FAdd.le {φ : Froz} {b n : Nat} {f : Nat → Value} (h : ∀ o, φ b o = none) : FLe φ (FAdd φ b n f) := by
  refine ⟨?_, rfl⟩
  intro i o v hv
  rw [FAdd.at_]
  split
  · rename_i hh
    rw [hh.1, h] at hv
    exact absurd hv (by simp)
  · exact hv
theorem Rel.nofroz {N : Nat} {φ : Froz} {γ : Place} {H : Heap} {w : World} (h : Rel N φ γ H w) : ∀ o, φ w.heap.size o = none := by
  intro o
  cases hv : φ w.heap.size o with
  | none => rfl
  | some v =>
    have := cell_lt (h.froz _ _ _ hv)
    omega

theorem cell_new {w : World} {cs : Array Value} {t : TypeId} {fr : Nat × Nat} {o : Nat} {v : Value} (h : cs[o]? = some v) : (w.alloc (.cells cs t fr)).cell? ⟨w.heap.size, o, none⟩ = some v := by
  have hb : (w.alloc (.cells cs t fr)).heap[w.heap.size]? = some (.cells cs t fr) := by
    show (w.heap.push _)[w.heap.size]? = _
    simp
  unfold World.cell?
  rw [hb]
  simpa using h

/-- A row of the model, all of it shut, told by a list. -/
theorem Step.row {N : Nat} {φ : Froz} {γ : Place} {H : Heap} {w : World} (h : Rel N φ γ H w) (cs : Array Value) (t : TypeId) (fr : Nat × Nat) (n : Nat) (hn : n ≤ cs.size) :
    Step N φ γ H w (FAdd φ w.heap.size n (fun k => cs.getD k undef)) γ H (w.alloc (.cells cs t fr)) (fun _ => False) :=
  Step.alloc h _ (FAdd.le h.nofroz) (fun b off v hv => by
    rw [FAdd.at_] at hv
    split at hv
    · rename_i hh
      obtain ⟨rfl, ho⟩ := hh
      refine .inr ⟨rfl, cell_new ?_⟩
      cases hv
      simp [Array.getD_eq_getD_getElem?, show off < cs.size by omega]
    · exact .inl hv)

theorem list_of_row {N : Nat} {φ : Froz} {γ : Place} {H : Heap} {w : World} (h : Rel N φ γ H w) {es : List (List V)} {tok : Tok} {cs : Array Value} {sz cap : Nat} (hrow : ∀ c, c ∈ es → c.length = sz) (hle : es.length ≤ cap) (hmax : cap ≤ maxLen)
    (hc : ∀ k v, es.flatten[k]? = some v → v.one = true ∧ VRel φ γ v (cs.getD k undef)) (ht : TokRel γ tok ⟨w.heap.size, 0, none⟩ es.length cap sz) :
    VRel (FAdd φ w.heap.size (es.length * sz) (fun k => cs.getD k undef)) γ (.list false es tok) (.slice (some ⟨w.heap.size, 0, none⟩) es.length cap) := by
  refine .list_mk sz (fun k => cs.getD k undef) (fun _ => rfl) hle hmax hrow (fun k v hk => ⟨(hc k v hk).1, ?_, (hc k v hk).2.mono (FAdd.le h.nofroz) (PLe.refl _)⟩) ht
  have hl : k < es.flatten.length := by
    rcases Nat.lt_or_ge k es.flatten.length with h | h
    · exact h
    · rw [List.getElem?_eq_none h] at hk; exact absurd hk (by simp)
  rw [flat_len hrow] at hl
  simp [FAdd, hl]

theorem grownCap_ge (w : World) (need old : Nat) (e : TypeId) : need ≤ grownCap w need old e := by
  unfold grownCap Question.cut; simp only []; omega
theorem grownCap_lt (w : World) (need old : Nat) (e : TypeId) (h : need < 9223372036854775808) : grownCap w need old e ≤ maxLen := by
  unfold grownCap Question.cut maxLen
  have h2 : (2 : Nat) ^ 63 = 9223372036854775808 := by decide
  simp only [h2]
  have := Nat.mod_lt (w.tape w.drawn (.appendCap need old e)) (show 0 < 9223372036854775808 - need by omega)
  omega

theorem Step.drew {N : Nat} {φ φ' : Froz} {γ γ' : Place} {H H' : Heap} {w w' : World} {T : Nat → Prop} (h : Step N φ γ H w.drew φ' γ' H' w' T) : Step N φ γ H w φ' γ' H' w' T := h.from rfl rfl rfl rfl

def NoT : Nat → Prop := fun _ => False

/-- What an operation without memory comes to. -/
def PureOut (P : Program) (N : Nat) (φ : Froz) (γ : Place) (H : Heap) (w : World) (v : V) (e : Sem Value) : Prop :=
  ∃ φ' cv w', e.run P w = .ok cv w' ∧ Step N φ γ H w φ' γ H w' NoT ∧ VRel φ' γ v cv

theorem PureOut.same {P : Program} {N : Nat} {φ : Froz} {γ : Place} {H : Heap} {w : World} {v : V} {e : Sem Value} {cv : Value} (hr : Rel N φ γ H w) (h : e.run P w = .ok cv w) (hv : VRel φ γ v cv) : PureOut P N φ γ H w v e :=
  ⟨φ, cv, w, h, Step.refl hr, hv⟩

theorem un_ok {P : Program} {N : Nat} {φ : Froz} {γ : Place} {H : Heap} {w : World} {op : UnOp} {x v : V} {x' : Value} (hr : Rel N φ γ H w) (h : evalUn P op x = some v) (hx : VRel φ γ x x') : PureOut P N φ γ H w v (Op.unary op x') := by
  unfold evalUn at h
  split at h
  · cases h; cases hx
    exact .same hr (by simp [Op.unary]) (.val rfl)
  · cases h
    cases hx with
    | sym h1 =>
      subst h1
      rename_i e
      exact .same (cv := .bool (!e.truth φ.rho)) hr (by simp [Op.unary, SE.val]) (.sym (by simp [SE.val, mkNot_truth]))
  · cases h
    cases hx with
    | sym h1 =>
      subst h1
      exact .same hr (by simp [Op.unary, SE.val]; rfl) (.sym (by simp [SE.val, SE.num, SE.all, intBin, numOf]))
  · rename_i u _
    split at h
    · simp only [Option.bind_eq_bind, Option.bind_eq_some_iff] at h
      obtain ⟨r, h1, h2⟩ := h
      cases hx
      exact .same hr (pureRun_run h1 w) (ofCell_rel h2).1
    · exact absurd h (by simp)
  · exact absurd h (by simp)

theorem bytes_of_list : ∀ {es : List (List V)} {l : List UInt8}, es.mapM byteOf = some l →
    ∃ ns : List Int, ns.length = es.length ∧ l = ns.map (fun n => UInt8.ofNat n.toNat) ∧ es = ns.map (fun n => [V.val (.int .u8 n)])
  | [], l, h => by simp at h; subst h; exact ⟨[], rfl, rfl, rfl⟩
  | c :: es, l, h => by
    rw [List.mapM_cons] at h
    simp only [Option.bind_eq_bind, Option.bind_eq_some_iff, Option.pure_def, Option.some.injEq] at h
    obtain ⟨b, hb, l2, hl2, rfl⟩ := h
    obtain ⟨ns, h1, h2, h3⟩ := bytes_of_list hl2
    unfold byteOf at hb
    split at hb
    · rename_i n
      cases hb
      exact ⟨n :: ns, by simp [h1], by simp [h2], by simp [h3]⟩
    · exact absurd hb (by simp)

theorem mapM_len {α β : Type} {g : α → Option β} : ∀ {l : List α} {m : List β}, l.mapM g = some m → l.length = m.length
  | [], m, h => by simp at h; subst h; rfl
  | a :: l, m, h => by
    rw [List.mapM_cons] at h
    simp only [Option.bind_eq_bind, Option.bind_eq_some_iff, Option.pure_def, Option.some.injEq] at h
    obtain ⟨b, _, m', h2, rfl⟩ := h
    simp [mapM_len h2]
theorem mapM_at {α β : Type} {g : α → Option β} : ∀ {l : List α} {m : List β}, l.mapM g = some m → ∀ (i : Nat) (x : β), m[i]? = some x → ∃ a, l[i]? = some a ∧ g a = some x
  | [], m, h, i, x, hx => by simp at h; subst h; simp at hx
  | a :: l, m, h, i, x, hx => by
    rw [List.mapM_cons] at h
    simp only [Option.bind_eq_bind, Option.bind_eq_some_iff, Option.pure_def, Option.some.injEq] at h
    obtain ⟨b, hb, m', h2, rfl⟩ := h
    cases i with
    | zero => simp at hx; subst hx; exact ⟨a, rfl, hb⟩
    | succ i => simp at hx; obtain ⟨c, h3, h4⟩ := mapM_at h2 i x hx; exact ⟨c, by simpa using h3, h4⟩
theorem textSE_text (ρ : Nat → Value) : ∀ xs : List SE, (textSE xs).text ρ = ⟨(xs.map fun x => UInt8.ofNat (x.num ρ).toNat).toArray⟩
  | [] => rfl
  | [x] => rfl
  | x :: y :: l => by
    have ih := textSE_text ρ (y :: l)
    show (⟨#[UInt8.ofNat (x.num ρ).toNat]⟩ : ByteArray) ++ (textSE (y :: l)).text ρ = _
    rw [ih]
    apply ByteArray.ext
    rw [ByteArray.data_append]
    simp
/-- What is told of a text made of bytes: each byte's number. -/
theorem textOfCells_out {es : List (List V)} {v : V} {ρ : Nat → Value} (h : textOfCells es = some v) : ∃ xs : List SE, es.length = xs.length ∧
    (∀ (i : Nat) (x : SE), xs[i]? = some x → ∃ u, es[i]? = some [u] ∧ ∀ (φ : Froz) (γ : Place) (c : Value), φ.rho = ρ → VRel φ γ u c → c = .int .u8 (x.num ρ)) ∧
    (∀ (φ : Froz) (γ : Place), φ.rho = ρ → VRel φ γ v (.string (strOfNums (xs.map fun x => x.num ρ)))) := by
  unfold textOfCells at h
  split at h
  · rename_i l hl
    cases h
    obtain ⟨ns, h1, h2, h3⟩ := bytes_of_list hl
    refine ⟨ns.map fun n => .int .u8 n, by simp [h1], fun i x hx => ?_, fun φ γ _ => ?_⟩
    · rw [List.getElem?_map] at hx
      obtain ⟨n, hn, rfl⟩ := Option.map_eq_some_iff.1 hx
      refine ⟨.val (.int .u8 n), by rw [h3, List.getElem?_map, hn]; rfl, fun φ γ c _ hc => ?_⟩
      cases hc
      rfl
    · have e : (ns.map fun n => SE.int .u8 n).map (fun x => x.num ρ) = ns := by
        rw [List.map_map]
        have : ((fun x : SE => x.num ρ) ∘ fun n => SE.int .u8 n) = id := rfl
        rw [this, List.map_id]
      rw [e, h2]
      exact .val rfl
  · obtain ⟨xs, hxs, rfl⟩ := Option.map_eq_some_iff.1 h
    refine ⟨xs, (mapM_len hxs), fun i x hx => ?_, fun φ γ hφ => ?_⟩
    · obtain ⟨c, hc, hcx⟩ := mapM_at hxs i x hx
      unfold cellSE at hcx
      split at hcx
      · rename_i n
        cases hcx
        exact ⟨_, hc, fun φ γ c _ hv => by cases hv; rfl⟩
      · rename_i e
        cases hcx
        exact ⟨_, hc, fun φ γ c hφ hv => by
          cases hv with
          | sym h1 => rw [h1, hφ]; rfl⟩
      · exact absurd hcx (by simp)
    · refine .sym ?_
      show Value.string _ = Value.string ((textSE xs).text φ.rho)
      rw [textSE_text, hφ]
      congr 1
      unfold strOfNums
      simp [List.map_map]
theorem flat_at {es : List (List V)} {xs : List SE} {Q : Nat → V → SE → Prop} (h : ∀ (i : Nat) (x : SE), xs[i]? = some x → ∃ u, es[i]? = some [u] ∧ Q i u x) (hl : es.length = xs.length) {i : Nat} (hi : i < xs.length) {v : V} (hv : es[i]? = some [v]) : es.flatten[i]? = some v := by
  have hs : ∀ c, c ∈ es → ∃ u, c = [u] := fun c hc => by
    obtain ⟨j, hj, rfl⟩ := List.mem_iff_getElem.1 hc
    obtain ⟨u, hu, _⟩ := h j (xs[j]'(by omega)) (List.getElem?_eq_getElem (by omega))
    exact ⟨u, by rw [List.getElem?_eq_getElem hj] at hu; exact Option.some.inj hu⟩
  clear h hl hi
  induction es generalizing i with
  | nil => simp at hv
  | cons c es ih =>
    obtain ⟨u, rfl⟩ := hs c List.mem_cons_self
    cases i with
    | zero => simp at hv; subst hv; rfl
    | succ i =>
      simp at hv
      show es.flatten[i]? = some v
      exact ih hv (fun c hc => hs c (List.mem_cons_of_mem _ hc))

theorem flat_single {α β : Type} (g : α → β) : ∀ l : List α, (l.map fun a => [g a]).flatten = l.map g
  | [] => rfl
  | a :: l => by simp [flat_single g l]

theorem conv0_ok {P : Program} {tb : Tb} (hok : tb.Ok P) {N : Nat} {φ : Froz} {γ : Place} {H : Heap} {w : World} {S D : TypeId} {x v : V} {x' : Value} (hr : Rel N φ γ H w) (h : evalConv0 P tb S D x = some v) (hx : VRel φ γ x x') :
    PureOut P N φ γ H w v (convert S D x') := by
  unfold evalConv0 at h
  split at h
  · rename_i hs hd
    cases h; cases hx
    exact .same hr (by simp [convert, run_underlying (hok.desc _ _ hs), run_underlying (hok.desc _ _ hd), Conv.intToInt]) (.val rfl)
  · rename_i ds _ hs hd
    cases h; cases hx
    exact .same hr (by cases ds <;> simp [convert, run_underlying (hok.desc _ _ hs), run_underlying (hok.desc _ _ hd)]) (.val rfl)
  · rename_i vd k0 k1 e hs hd
    cases h
    cases hx with
    | sym h1 =>
      subst h1
      exact .same (cv := .int k0 (k0.wrap (e.num φ.rho))) hr (by simp [SE.val, convert, run_underlying (hok.desc _ _ hs), run_underlying (hok.desc _ _ hd), Conv.intToInt]) (.sym rfl)
  · rename_i ds _ hs hd
    cases h
    cases hx with
    | sym h1 =>
      subst h1
      exact .same hr (by cases ds <;> simp [SE.val, convert, run_underlying (hok.desc _ _ hs), run_underlying (hok.desc _ _ hd)]) (.sym rfl)
  · rename_i e s hs hd
    split at h
    · rename_i he
      split at h
      · rename_i hsz
        cases h; cases hx
        have hsz' : s.size < 9223372036854775808 := by omega
        have hc := grownCap_ge w s.size 0 e
        have hrun := run_bytes_of_string (P := P) w S D e s (hok.desc _ _ hs) (hok.desc _ _ hd) (hok.desc _ _ he)
        have hlen : (s.data.toList.map fun b : UInt8 => [V.val (.int .u8 b.toNat)]).length = s.size := by simp only [List.length_map, Array.length_toList]; rfl
        have hrs : s.size * 1 ≤ (bytesRow s (grownCap w s.size 0 e)).size := by
          simp only [bytesRow, Array.size_append, Array.size_map, ByteArray.size]
          omega
        refine ⟨_, _, _, hrun, (Step.row (hr.heap (w' := w.drew) rfl) (bytesRow s (grownCap w s.size 0 e)) e _ (s.size * 1) hrs).drew, ?_⟩
        have hl := list_of_row (hr.heap (w' := w.drew) rfl) (es := s.data.toList.map fun b : UInt8 => [V.val (.int .u8 b.toNat)]) (tok := .unk) (cs := bytesRow s (grownCap w s.size 0 e)) (sz := 1) (cap := grownCap w s.size 0 e)
          (by intro c hc; obtain ⟨b, _, rfl⟩ := List.mem_map.1 hc; rfl) (by rw [hlen]; exact hc) (grownCap_lt w _ _ e hsz') ?_ trivial
        · rw [hlen] at hl
          exact hl
        · intro k v hk
          rw [flat_single (fun b : UInt8 => V.val (.int .u8 b.toNat))] at hk
          rw [List.getElem?_map] at hk
          obtain ⟨b, hb, rfl⟩ := Option.map_eq_some_iff.1 hk
          refine ⟨rfl, ?_⟩
          have hks : k < s.data.size := by
            rcases Nat.lt_or_ge k s.data.size with h | h
            · exact h
            · rw [List.getElem?_eq_none (by simpa using h)] at hb; exact absurd hb (by simp)
          have : (bytesRow s (grownCap w s.size 0 e)).getD k undef = .int .u8 b.toNat := by
            simp only [bytesRow, Array.getD_eq_getD_getElem?]
            rw [Array.getElem?_append_left (by simpa using hks)]
            simp at hb
            simp [hb]
          rw [this]
          exact .val rfl
      · exact absurd h (by simp)
    · exact absurd h (by simp)
  · rename_i e n es tok hs hd
    split at h
    · rename_i he
      obtain ⟨xs, h1, h2, h3⟩ := textOfCells_out (ρ := φ.rho) h
      · rcases hx.list_inv with ⟨rfl, rfl, rfl⟩ | ⟨rfl, a, cap, sz, f, rfl, hli⟩
        · have hx0 : xs = [] := List.length_eq_zero_iff.1 h1.symm
          subst hx0
          exact .same hr (run_convert_bytes_nil w S e (hok.desc _ _ hs) (hok.desc _ _ he) 0 0 D (hok.desc _ _ hd)) (h3 _ _ rfl)
        · have hcell : ∀ i, i < (xs.map fun x => x.num φ.rho).length → w.cell? ⟨a.block, a.off + i, none⟩ = some (.int .u8 ((xs.map fun x => x.num φ.rho).getD i 0)) := by
            intro i hi
            have hi2 : i < xs.length := by simpa using hi
            obtain ⟨v, hv, hrel⟩ := h2 i xs[i] (List.getElem?_eq_getElem hi2)
            have hk : es.flatten[i]? = some v := flat_at h2 h1 hi2 hv
            have hc := hli.cell i _ hk
            have hcc := hr.froz _ _ _ hc.2.1
            rw [hcc, hrel _ _ _ rfl hc.2.2]
            simp [List.getD_eq_getElem?_getD, hi2]
          have hlen : es.length = (xs.map fun x => x.num φ.rho).length := by simpa using h1
          have hrun : (convert S D (.slice (some a) (xs.map fun x => x.num φ.rho).length cap)).run P w = .ok (.string (strOfNums (xs.map fun x => x.num φ.rho))) w := by
            rcases Nat.eq_zero_or_pos cap with h0 | h0
            · have hn0 : xs = [] := List.length_eq_zero_iff.1 (by have := hli.le; omega)
              subst hn0
              have hl0 : (loadCells a 0).run P w = .ok (([] : List Int).map (Value.int .u8)).toArray w := by
                simpa using run_loadCells_list (P := P) w a [] (fun j v hj => by simp at hj)
              rw [run_convert_bytes_string w S D e _ _ cap (hok.desc _ _ hs) (hok.desc _ _ he) (hok.desc _ _ hd)]
              have := run_bytesToString (P := P) w a 0 cap [] hl0
              simp only [List.map_nil, List.length_nil]
              rw [this]
              rfl
            · have ha : a = ⟨a.block, a.off, none⟩ := by
                obtain ⟨b, o, s⟩ := a
                have := hli.spot h0
                simp only at this
                subst this
                rfl
              rw [ha]
              exact run_convert_bytes_arg (P := P) w S e (hok.desc _ _ hs) (hok.desc _ _ he) a.block a.off _ cap (xs.map fun x => x.num φ.rho) rfl hcell D (hok.desc _ _ hd)
          rw [← hlen] at hrun
          exact .same hr hrun (h3 _ _ rfl)
    · exact absurd h (by simp)
  · rename_i hs hd _ _ _ _
    simp only [Option.bind_eq_bind, Option.bind_eq_some_iff] at h
    obtain ⟨a, ha, r, h1, h2⟩ := h
    have ex := toValue_eq ha hx
    subst ex
    exact .same hr (pureRun_run h1 w) (ofCell_rel h2).1
  · exact absurd h (by simp)

theorem PureOut.conv {P : Program} {N : Nat} {φ : Froz} {γ : Place} {H : Heap} {w : World} {v v' : V} {e : Sem Value} (h : PureOut P N φ γ H w v e) (hv : ∀ (φ' : Froz) (x : Value), φ'.rho = φ.rho → VRel φ' γ v x → VRel φ' γ v' x) : PureOut P N φ γ H w v' e := by
  obtain ⟨φ', cv, w', h1, h2, h3⟩ := h
  exact ⟨φ', cv, w', h1, h2, hv φ' cv h2.fle.rho h3⟩
theorem isBytesT_eq {tb : Tb} {T : TypeId} (h : isBytesT tb T = true) : ∃ e, tb.desc T = some (.slice e) ∧ tb.desc e = some (.int .u8) := by
  unfold isBytesT at h
  split at h
  · rename_i e hd
    split at h
    · rename_i he
      exact ⟨e, hd, he⟩
    · exact absurd h (by simp)
  · exact absurd h (by simp)
theorem isStrT_eq {tb : Tb} {T : TypeId} (h : isStrT tb T = true) : tb.desc T = some .string := by
  unfold isStrT at h
  split at h
  · assumption
  · exact absurd h (by simp)
theorem bytesL_mapM (s : ByteArray) : (bytesL s).mapM byteOf = some s.data.toList := by
  unfold bytesL
  generalize s.data.toList = l
  induction l with
  | nil => rfl
  | cons b l ih =>
    rw [List.map_cons, List.mapM_cons, ih]
    show (some (UInt8.ofNat ((b.toNat : Int)).toNat) >>= fun x => some l >>= fun xs => some (x :: xs)) = _
    simp
theorem conv_ok {P : Program} {tb : Tb} (hok : tb.Ok P) {N : Nat} {φ : Froz} {γ : Place} {H : Heap} {w : World} (hρ : φ.rho = tb.rho) {S D : TypeId} {x v : V} {x' : Value} (hr : Rel N φ γ H w) (h : evalConv P tb S D x = some v) (hx : VRel φ γ x x') :
    PureOut P N φ γ H w v (convert S D x') := by
  unfold evalConv at h
  split at h
  · rename_i nl c tok
    split at h
    · rename_i hc
      rw [Bool.and_eq_true] at hc
      cases h
      obtain ⟨e, hs, he⟩ := isBytesT_eq hc.1
      have hd := isStrT_eq hc.2
      cases hx with
      | sli h1 =>
        have h2 : evalConv0 P tb S D (.list (nl.truth φ.rho) (rowsOf φ.rho .bytes c) tok) = some (.val (.string (c.text φ.rho))) := by
          unfold evalConv0
          simp only [hs, hd, he]
          unfold textOfCells
          show (match (bytesL (c.text φ.rho)).mapM byteOf with | some l => _ | none => _) = _
          rw [bytesL_mapM]
        refine (conv0_ok hok hr h2 h1).conv (fun φ' y hφ' hy => ?_)
        cases hy
        exact .sym (by rw [hφ']; rfl)
    · exact absurd h (by simp)
  · rename_i c
    split at h
    · rename_i hc
      rw [Bool.and_eq_true] at hc
      obtain ⟨e, hd, he⟩ := isBytesT_eq hc.2
      have hs := isStrT_eq hc.1
      unfold bytesOfText at h
      split at h
      · rename_i hf
        cases h
        unfold fewBytes at hf
        have hf := of_decide_eq_true hf
        cases hx with
        | sym h1 =>
          subst h1
          have h2 : evalConv0 P tb S D (.val (.string (c.text φ.rho))) = some (.list false (bytesL (c.text φ.rho)) .unk) := by
            unfold evalConv0
            simp only [hs, hd, he]
            rw [← hρ] at hf
            rw [if_pos hf]
            rfl
          refine (conv0_ok hok hr h2 (.val rfl)).conv (fun φ' y hφ' hy => .sli ?_)
          rw [hφ']
          exact hy
      · exact absurd h (by simp)
    · exact conv0_ok hok hr h hx
  · exact conv0_ok hok hr h hx

end
end Go.Sx
