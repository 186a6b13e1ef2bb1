/- Fields, indexes, cuts, composite values. -/
import Derived.Test.YtaidiaiedhbaoaaSx5
import Derived.Laws.StructEq
/- Fields, indexes, cuts, composite values. -/
set_option linter.unusedVariables false
set_option linter.unusedSimpArgs false
namespace Go.Sx
noncomputable section

section tables
variable {P : Program} {tb : Tb} (hok : tb.Ok P) (w : World)
include hok
theorem size_info {t : TypeId} {n : Nat} (h : tb.size t = some n) : ∃ i, P.info? t = some i ∧ i.size = n := by
  unfold Tb.size at h
  obtain ⟨⟨a, b, z⟩, hi, rfl⟩ := Option.map_eq_some_iff.1 h
  obtain ⟨i, h1, h2, _, _⟩ := hok.info _ _ _ _ hi
  exact ⟨i, h1, h2⟩
theorem run_sizeOf' {t : TypeId} {n : Nat} (h : tb.size t = some n) : (sizeOf t).run P w = .ok n w := by
  obtain ⟨i, h1, h2⟩ := size_info hok h
  simp [sizeOf, typeInfo, h1, h2]
theorem run_isAgg' {t : TypeId} {g : Bool} (h : tb.agg t = some g) : (isAgg t).run P w = .ok g w := by
  unfold Tb.agg at h
  obtain ⟨d, hd, rfl⟩ := Option.map_eq_some_iff.1 h
  have := run_underlying (hok.desc _ _ hd) w
  cases d <;> simp [isAgg, this]
theorem zero_info {t : TypeId} {z : V} (h : tb.zero t = some z) : ∃ i zv, P.info? t = some i ∧ i.zero = some zv ∧ ofValue zv = some z := by
  unfold Tb.zero at h
  simp only [Option.bind_eq_some_iff] at h
  obtain ⟨⟨a, b, z0⟩, hi, zv, hz, ho⟩ := h
  obtain ⟨i, h1, _, _, h4⟩ := hok.info _ _ _ _ hi
  exact ⟨i, zv, h1, h4.trans hz, ho⟩
theorem run_zeroValue' {t : TypeId} {z : V} (h : tb.zero t = some z) : ∃ zv, (zeroValue t).run P w = .ok zv w ∧ ofValue zv = some z := by
  obtain ⟨i, zv, h1, h2, h3⟩ := zero_info hok h
  exact ⟨zv, by simp [zeroValue, typeInfo, h1, h2], h3⟩
end tables

theorem ofValue_cells {v : Value} {u : V} (h : ofValue v = some u) : u.cells.all V.one = true := by
  unfold ofValue at h
  split at h
  · obtain ⟨l, hl, rfl⟩ := Option.map_eq_some_iff.1 h
    rw [List.all_eq_true]
    intro x hx
    obtain ⟨j, hj⟩ := List.mem_iff_getElem?.1 hx
    obtain ⟨a, _, ha⟩ := (mapM_some hl).2 j x hj
    exact (ofCell_rel (φ := ⟨fun _ _ => none, fun _ => undef⟩) (γ := fun _ => none) ha).2
  · have := (ofCell_rel (φ := ⟨fun _ _ => none, fun _ => undef⟩) (γ := fun _ => none) h).2
    cases u <;> first | (simpa [V.cells] using this) | (simp [V.one] at this)

theorem VRel.cellsRel {φ : Froz} {γ : Place} {v : V} {x : Value} (h : VRel φ γ v x) (ho : v.cells.all V.one = true) : CellsRel φ γ v.cells x.cells := h.cells ho

theorem agg_of_cells {φ : Froz} {γ : Place} {cs : List V} {arr : Array Value} (h : CellsRel φ γ cs arr) : VRel φ γ (.agg cs) (.agg arr) :=
  .agg h.1 (fun j v hj => (h.2 j v hj).1) (fun j v hj => (h.2 j v hj).2)

theorem VRel.agg_inv {φ : Froz} {γ : Place} {cs : List V} {x : Value} (h : VRel φ γ (.agg cs) x) : ∃ arr, x = .agg arr ∧ CellsRel φ γ cs arr := by
  cases h with
  | agg h1 h2 h3 => exact ⟨_, rfl, h1, fun j v hj => ⟨h2 j v hj, h3 j v hj⟩⟩

theorem getElem?_lt {α : Type} {l : List α} {k : Nat} {v : α} (h : l[k]? = some v) : k < l.length := by
  rcases Nat.lt_or_ge k l.length with h1 | h1
  · exact h1
  · rw [List.getElem?_eq_none h1] at h; exact absurd h (by simp)

theorem CellsRel.part {φ : Froz} {γ : Place} {cs : List V} {arr : Array Value} (h : CellsRel φ γ cs arr) (off n : Nat) (hn : off + n ≤ cs.length) : CellsRel φ γ ((cs.drop off).take n) (arr.extract off (off + n)) := by
  refine ⟨by have := h.1; simp; omega, fun j v hj => ?_⟩
  have hl := getElem?_lt hj
  simp only [List.length_take, List.length_drop] at hl
  have hl2 : j < n := by omega
  rw [List.getElem?_take, if_pos hl2, List.getElem?_drop] at hj
  have := h.2 _ _ hj
  refine ⟨this.1, ?_⟩
  have e : (arr.extract off (off + n)).getD j undef = arr.getD (off + j) undef := by
    have hs := h.1
    simp only [Array.getD_eq_getD_getElem?, Array.getElem?_extract]
    rw [if_pos (by omega)]
  rw [e]
  exact this.2

theorem part_ok {P : Program} {tb : Tb} (hok : tb.Ok P) {φ : Froz} {γ : Place} {t : TypeId} {cs : List V} {arr : Array Value} {off : Nat} {v : V} (h : part? tb t cs off = some v) (hc : CellsRel φ γ cs arr) (w : World) :
    ∃ cv, (part t arr off).run P w = .ok cv w ∧ VRel φ γ v cv := by
  unfold part? at h
  simp only [Option.bind_eq_bind, Option.bind_eq_some_iff] at h
  obtain ⟨n, hn, g, hg, h⟩ := h
  cases g with
  | true =>
    simp only [if_true] at h
    split at h
    · cases h
      exact ⟨_, by simp [part, run_isAgg' hok w hg, run_sizeOf' hok w hn], agg_of_cells (hc.part off n ‹_›)⟩
    · exact absurd h (by simp)
  | false =>
    simp only [Bool.false_eq_true, if_false] at h
    have := hc.2 _ _ h
    have hl := getElem?_lt h
    have hs : off < arr.size := by have := hc.1; omega
    refine ⟨arr.getD off undef, ?_, this.2⟩
    simp [part, run_isAgg' hok w hg, hs, Array.getD_eq_getD_getElem?]

theorem told_rel {tb : Tb} {φ : Froz} {γ : Place} {v : V} {x : Value} (hρ : φ.rho = tb.rho) (h : VRel φ γ v x) : VRel φ γ (told tb v) x := by
  unfold told
  split
  · cases h with
    | sym h1 =>
      subst h1
      rw [hρ]
      exact .val rfl
  · exact h

theorem idx_ok {tb : Tb} {φ : Froz} {γ : Place} {i : V} {iv : Value} {n j : Nat} (h : idx tb i n = some j) (hρ : φ.rho = tb.rho) (hi : VRel φ γ i iv) : ∃ k m, iv = .int k m ∧ 0 ≤ m ∧ m < n ∧ j = m.toNat ∧ j < n := by
  have ht := told_rel hρ hi
  unfold idx at h
  split at h
  · rename_i heq
    rw [heq] at ht
    cases ht
    split at h
    · cases h; exact ⟨_, _, rfl, ‹_ ∧ _›.1, ‹_ ∧ _›.2, rfl, by omega⟩
    · exact absurd h (by simp)
  · exact absurd h (by simp)

theorem cptr_drop {φ : Froz} {γ : Place} {cs : List V} {a : Addr} (h : VRel φ γ (.cptr cs) (.pointer (some a))) (k : Nat) : VRel φ γ (.cptr (cs.drop k)) (.pointer (some (a.add k))) := by
  cases h with
  | cptr f h1 h2 h3 =>
    rw [add_eq h1]
    refine .cptr (fun j => f (k + j)) rfl (fun j v hj => ?_) (fun j v hj => ?_)
    · rw [List.getElem?_drop] at hj
      have := h2 _ _ hj
      exact ⟨this.1, by rw [Nat.add_assoc]; exact this.2⟩
    · rw [List.getElem?_drop] at hj
      exact h3 _ _ hj

theorem ptr_add {φ : Froz} {γ : Place} {b off : Nat} {a : Addr} (h : VRel φ γ (.ptr b off) (.pointer (some a))) (k : Nat) : VRel φ γ (.ptr b (off + k)) (.pointer (some (a.add k))) := by
  cases h with
  | ptr h =>
    rw [add_eq rfl]
    have := VRel.ptr (φ := φ) (off := off + k) h
    rwa [← Nat.add_assoc] at this

theorem cptr_of_list {φ : Froz} {γ : Place} {es : List (List V)} {tok : Tok} {a : Addr} {cap sz : Nat} {f : Nat → Value} (h : ListIs φ γ es tok a cap sz f) {j : Nat} {c : List V} (hj : es[j]? = some c) : VRel φ γ (.cptr c) (.pointer (some (a.add (j * sz)))) := by
  rw [add_eq (h.spot (by have h1 := (List.getElem?_eq_some_iff.1 hj).1; have h2 := h.le; omega))]
  refine .cptr (fun i => f (j * sz + i)) rfl (fun i v hi => ?_) (fun i v hi => ?_)
  · have := h.cell _ _ (flat_get h.row hj hi)
    exact ⟨this.1, by rw [Nat.add_assoc]; exact this.2.1⟩
  · exact (h.cell _ _ (flat_get h.row hj hi)).2.2

theorem szIs_eq {tb : Tb} {t : TypeId} {n : Nat} (h : szIs tb t n = true) : tb.size t = some n := by
  unfold szIs at h
  split at h
  · rename_i m hm
    rw [hm, Nat.eq_of_beq_eq_true h]
  · exact absurd h (by simp)
section ops
variable {P : Program} {tb : Tb} (hok : tb.Ok P) {N : Nat} {φ : Froz} {γ : Place} {H : Heap} {w : World} (hr : Rel N φ γ H w)
include hok hr

theorem indexAddr0_ok (hρ : φ.rho = tb.rho) {T : TypeId} {x i v : V} {x' i' : Value} (h : evalIndexAddr0 tb T x i = some v) (hx : VRel φ γ x x') (hi : VRel φ γ i i') : PureOut P N φ γ H w v (Instr.indexAt T x' i') := by
  unfold evalIndexAddr0 at h
  split at h
  · rename_i e hd
    split at h
    · rename_i nl es tok
      simp only [Option.bind_eq_bind, Option.bind_eq_some_iff] at h
      obtain ⟨j, hj, cs, hcs, h⟩ := h
      split at h
      · rename_i hsz
        cases h
        obtain ⟨k, m, rfl, h0, h1, rfl, hlt⟩ := idx_ok hj hρ hi
        rcases hx.list_inv with ⟨rfl, rfl, rfl⟩ | ⟨rfl, a, cap, sz, f, rfl, hli⟩
        · simp at hcs
        · have hrow := hli.row cs (List.mem_of_getElem? hcs)
          rw [hrow] at hsz
          refine .same hr ?_ (cptr_of_list hli hcs)
          simp [Instr.indexAt, asIntOf, run_underlying (hok.desc _ _ hd), h0, h1, run_sizeOf' hok w hsz.symm]
      · exact absurd h (by simp)
    · rename_i b off len cap
      simp only [Option.bind_eq_bind, Option.bind_eq_some_iff] at h
      obtain ⟨j, hj, sz, hsz, h⟩ := h
      cases h
      obtain ⟨k, m, rfl, h0, h1, rfl, hlt⟩ := idx_ok hj hρ hi
      cases hx with
      | mslice hb hlc hcm =>
        refine .same hr ?_ (.ptr hb)
        simp [Instr.indexAt, asIntOf, run_underlying (hok.desc _ _ hd), h0, h1, run_sizeOf' hok w hsz, add_eq, Nat.add_assoc]
    · rename_i b off len kc sz2
      simp only [Option.bind_eq_bind, Option.bind_eq_some_iff] at h
      obtain ⟨j, hj, sz, hsz, h⟩ := h
      split at h
      · rename_i hsz2
        subst hsz2
        cases h
        obtain ⟨k, m, rfl, h0, h1, rfl, hlt⟩ := idx_ok hj hρ hi
        cases hx with
        | vslice hb hlk hkc hcm hat =>
          obtain ⟨rfl, _⟩ := hat (by omega)
          refine .same hr ?_ (.ptr hb)
          simp [Instr.indexAt, asIntOf, run_underlying (hok.desc _ _ hd), h0, h1, run_sizeOf' hok w hsz, add_eq, Nat.add_assoc]
      · exact absurd h (by simp)
    · exact absurd h (by simp)
  · rename_i n e hd
    simp only [Option.bind_eq_bind, Option.bind_eq_some_iff] at h
    obtain ⟨j, hj, sz, hsz, h⟩ := h
    obtain ⟨k, m, rfl, h0, h1, rfl, hlt⟩ := idx_ok hj hρ hi
    split at h
    · cases h
      have hx2 := hx
      cases hx
      refine .same hr ?_ (ptr_add hx2 _)
      simp [Instr.indexAt, asIntOf, run_underlying (hok.desc _ _ hd), Instr.sureAddr, h0, h1, run_sizeOf' hok w hsz]
    · cases h
      have hx2 := hx
      cases hx
      refine .same hr ?_ (cptr_drop hx2 _)
      simp [Instr.indexAt, asIntOf, run_underlying (hok.desc _ _ hd), Instr.sureAddr, h0, h1, run_sizeOf' hok w hsz]
    · exact absurd h (by simp)
  · exact absurd h (by simp)

theorem indexAddr_ok (hρ : φ.rho = tb.rho) {T : TypeId} {x i v : V} {x' i' : Value} (h : evalIndexAddr tb T x i = some v) (hx : VRel φ γ x x') (hi : VRel φ γ i i') : PureOut P N φ γ H w v (Instr.indexAt T x' i') := by
  unfold evalIndexAddr at h
  split at h
  · rename_i k nl e tok
    unfold symIndexAddr at h
    split at h
    · rename_i t kk ie hd hse
      split at h
      · rename_i hc
        simp only [Bool.and_eq_true] at hc
        obtain ⟨hk, hin, hsz⟩ := hc
        cases h
        rw [← hρ] at hin
        obtain ⟨c, hcr, h0, h1, hsim⟩ := rows_at hk hin
        have hi' := toSE_int hse hi
        subst hi'
        cases hx with
        | sli hl =>
          have hsz2 : tb.size t = some (rowW k) := szIs_eq hsz
          have hcl : c.length = rowW k := rows_row (List.mem_of_getElem? hcr)
          have h2 : evalIndexAddr0 tb T (.list (nl.truth φ.rho) (rowsOf φ.rho k e) tok) (.val (.int kk (ie.num φ.rho))) = some (.cptr c) := by
            unfold evalIndexAddr0
            have hidx : idx tb (.val (.int kk (ie.num φ.rho))) (rowsOf φ.rho k e).length = some (ie.num φ.rho).toNat := by
              show (if _ then _ else _) = _
              rw [if_pos ⟨h0, h1⟩]
            simp only [hd, hidx, hcr, Option.bind_eq_bind, Option.bind_some, hcl, hsz2, if_true]
          refine (indexAddr0_ok hok hr hρ h2 hl (.val rfl)).conv (fun φ' y hφ' hy => hy.cptr_sim ?_)
          rw [hφ']
          exact hsim
      · exact absurd h (by simp)
    · exact absurd h (by simp)
  · exact indexAddr0_ok hok hr hρ h hx hi

theorem index0_ok (hρ : φ.rho = tb.rho) {T : TypeId} {x i v : V} {x' i' : Value} (h : evalIndex0 tb T x i = some v) (hx : VRel φ γ x x') (hi : VRel φ γ i i') : PureOut P N φ γ H w v (Instr.index T x' i') := by
  unfold evalIndex0 at h
  split at h
  · rename_i n e cs hd
    simp only [Option.bind_eq_bind, Option.bind_eq_some_iff] at h
    obtain ⟨j, hj, sz, hsz, h⟩ := h
    obtain ⟨k, m, rfl, h0, h1, rfl, hlt⟩ := idx_ok hj hρ hi
    obtain ⟨arr, rfl, hc⟩ := hx.agg_inv
    obtain ⟨cv, hrun, hv⟩ := part_ok hok h hc w
    refine .same hr ?_ hv
    simp [Instr.index, asIntOf, run_underlying (hok.desc _ _ hd), h0, h1, run_sizeOf' hok w hsz, hrun]
  · rename_i s hd
    simp only [Option.bind_eq_bind, Option.bind_eq_some_iff, Option.some.injEq] at h
    obtain ⟨j, hj, b, hb, rfl⟩ := h
    obtain ⟨k, m, rfl, h0, h1, rfl, hlt⟩ := idx_ok hj hρ hi
    cases hx
    refine .same hr ?_ (.val rfl)
    have hb2 : s[m.toNat]? = some b := by
      have hs : m.toNat < s.size := hlt
      have : s.data[m.toNat]? = some (s[m.toNat]'hs) := by
        rw [Array.getElem?_eq_getElem (show m.toNat < s.data.size from hs)]
        rfl
      rw [hb] at this
      cases this
      simp [hs]
    simp [Instr.index, asIntOf, run_underlying (hok.desc _ _ hd), h0, hb2]
  · exact absurd h (by simp)

theorem index_ok (hρ : φ.rho = tb.rho) {T : TypeId} {x i v : V} {x' i' : Value} (h : evalIndex tb T x i = some v) (hx : VRel φ γ x x') (hi : VRel φ γ i i') : PureOut P N φ γ H w v (Instr.index T x' i') := by
  unfold evalIndex at h
  split at h
  · rename_i e
    unfold symIndex at h
    split at h
    · rename_i k ie hd hse
      split at h
      · rename_i hc
        simp only [Bool.and_eq_true, decide_eq_true_eq] at hc
        cases h
        have hi' : ∃ k, i' = .int k (ie.num tb.rho) := by
          unfold toSE at hse
          split at hse
          · cases hse
            cases hi with
            | sym h1 => exact ⟨_, by rw [h1, hρ]; rfl⟩
          · cases hse; cases hi; exact ⟨_, rfl⟩
          · cases hse
          · cases hse
          · exact absurd hse (by simp)
        obtain ⟨k', rfl⟩ := hi'
        cases hx with
        | sym h1 =>
          subst h1
          rw [hρ]
          have hlt : (ie.num tb.rho).toNat < (e.text tb.rho).size := by omega
          have hb : (e.text tb.rho)[(ie.num tb.rho).toNat]? = some ((e.text tb.rho)[(ie.num tb.rho).toNat]'hlt) := by simp [hlt]
          refine .same hr (cv := .int .u8 ((e.text tb.rho)[(ie.num tb.rho).toNat]'hlt).toNat) ?_ (.sym ?_)
          · simp [SE.val, Instr.index, asIntOf, run_underlying (hok.desc _ _ hd), hc.1, hb]
          · show _ = Value.int .u8 _
            rw [hρ]
            congr 1
            show _ = byteAt (e.text tb.rho) (ie.num tb.rho)
            unfold byteAt
            rw [if_pos hc.1, hb]
      · exact absurd h (by simp)
    · exact absurd h (by simp)
  · exact index0_ok hok hr hρ h hx hi

theorem field_ok {T : TypeId} {x v : V} {f : Nat} {x' : Value} (h : evalField tb T x f = some v) (hx : VRel φ γ x x') : PureOut P N φ γ H w v (Instr.field T x' f) := by
  unfold evalField fieldOf at h
  simp only [Option.bind_eq_bind, Option.bind_eq_some_iff] at h
  obtain ⟨fd, hf, h⟩ := h
  split at hf
  · rename_i fs hd
    split at h
    · obtain ⟨arr, rfl, hc⟩ := hx.agg_inv
      obtain ⟨cv, hrun, hv⟩ := part_ok hok h hc w
      refine .same hr ?_ hv
      simp [Instr.field, run_underlying (hok.desc _ _ hd), hf, asAgg, hrun]
    · exact absurd h (by simp)
  · exact absurd hf (by simp)

theorem fieldAddr_ok {T : TypeId} {x v : V} {f : Nat} {x' : Value} (h : evalFieldAddr tb T x f = some v) (hx : VRel φ γ x x') : PureOut P N φ γ H w v (Instr.fieldAt T x' f) := by
  unfold evalFieldAddr fieldOf at h
  simp only [Option.bind_eq_bind, Option.bind_eq_some_iff] at h
  obtain ⟨fd, hf, sz, hsz, h⟩ := h
  split at hf
  · rename_i fs hd
    split at h
    · exact absurd h (by simp)
    · rename_i hz
      split at h
      · cases h
        have hx2 := hx
        cases hx
        refine .same hr ?_ (ptr_add hx2 _)
        simp [Instr.fieldAt, run_underlying (hok.desc _ _ hd), hf, Instr.sureAddr, fieldPlace, run_sizeOf' hok w hsz, hz]
      · cases h
        have hx2 := hx
        cases hx
        refine .same hr ?_ (cptr_drop hx2 _)
        simp [Instr.fieldAt, run_underlying (hok.desc _ _ hd), hf, Instr.sureAddr, fieldPlace, run_sizeOf' hok w hsz, hz]
      · exact absurd h (by simp)
  · exact absurd hf (by simp)

omit hok in
theorem extract_ok {v : V} {i : Nat} {vs : List V} {x' : Value} (h : vs[i]? = some v) (hx : VRel φ γ (.tuple vs) x') : PureOut P N φ γ H w v (Instr.extract x' i) := by
  cases hx with
  | tuple h1 h2 =>
    rename_i cs'
    have hl := getElem?_lt h
    have hs : i < cs'.size := by omega
    refine .same hr ?_ (h2 _ _ h)
    simp [Instr.extract, hs, Array.getD_eq_getD_getElem?]

end ops

theorem bound_ok {tb : Tb} {φ : Froz} {γ : Place} {v : V} {x : Value} {d m n : Nat} (hρ : φ.rho = tb.rho) (h : bound tb (some v) d m = some n) (hx : VRel φ γ v x) : ∃ k i, x = .int k i ∧ 0 ≤ i ∧ i ≤ m ∧ n = i.toNat := by
  have ht := told_rel hρ hx
  unfold bound at h
  simp only at h
  split at h
  · rename_i heq
    rw [heq] at ht
    cases ht
    split at h
    · cases h; exact ⟨_, _, rfl, ‹_ ∧ _›.1, ‹_ ∧ _›.2, rfl⟩
    · exact absurd h (by simp)
  · exact absurd h (by simp)

/-- An operand that may be missing. -/
def ORel (φ : Froz) (γ : Place) : Option V → Option Value → Prop
  | none, none => True
  | some v, some x => VRel φ γ v x
  | _, _ => False

theorem sliceBound_run {P : Program} {tb : Tb} {φ : Froz} {γ : Place} {v : V} {x : Value} {d m n y : Nat} (hρ : φ.rho = tb.rho) (code : BoundsCode) (h : bound tb (some v) d m = some n) (hx : VRel φ γ v x) (hy : m ≤ y) (w : World) : (Instr.sliceBound x y code).run P w = .ok n w ∧ n ≤ m := by
  obtain ⟨k, i, rfl, h0, h1, rfl⟩ := bound_ok hρ h hx
  · exact ⟨by simp [Instr.sliceBound, asIntOf, h0, show i ≤ (y : Int) by omega], by omega⟩

theorem cuts_ok {P : Program} {tb : Tb} {φ : Froz} {γ : Place} {lo hi mx : Option V} {lo' hi' mx' : Option Value} {n cap l h : Nat} {m : Option Nat} (hρ : φ.rho = tb.rho) (hc : cuts tb lo hi mx n = some (l, h, m)) (hl : ORel φ γ lo lo') (hh : ORel φ γ hi hi') (hm : ORel φ γ mx mx')
    (hn : n ≤ cap) (isS : Bool) (w : World) : (Instr.sliceBounds isS n cap lo' hi' mx').run P w = .ok (l, h, m.getD cap) w ∧ l ≤ h ∧ h ≤ n ∧ (∀ k, m = some k → h ≤ k ∧ k ≤ n) ∧ mx.isSome = m.isSome := by
  have low : ∀ (h l : Nat), bound tb lo 0 h = some l → ((lo' = none ∧ l = 0) ∨ (∃ x, lo' = some x ∧ ∀ code, (Instr.sliceBound x h code).run P w = .ok l w)) ∧ l ≤ h := by
    intro h l hb
    cases lo with
    | none =>
      cases lo' with
      | none =>
        simp [bound] at hb
        subst hb
        exact ⟨.inl ⟨rfl, rfl⟩, Nat.zero_le _⟩
      | some _ => exact hl.elim
    | some v =>
      cases lo' with
      | none => exact hl.elim
      | some x => exact ⟨.inr ⟨x, rfl, fun code => (sliceBound_run hρ code hb hl (Nat.le_refl _) w).1⟩, (sliceBound_run (P := P) hρ .sliceB hb hl (Nat.le_refl _) w).2⟩
  unfold cuts at hc
  cases mx with
  | none =>
    cases mx' with
    | some _ => exact hm.elim
    | none =>
      simp only at hc
      split at hc
      · rename_i h2 hb
        split at hc
        · rename_i l2 hlb
          cases hc
          cases hi with
          | none =>
            cases hi' with
            | some _ => exact hh.elim
            | none =>
              simp [bound] at hb
              subst hb
              have := low n l hlb
              refine ⟨?_, this.2, Nat.le_refl _, by simp, rfl⟩
              rcases this.1 with ⟨rfl, rfl⟩ | ⟨x, rfl, hx⟩ <;> simp [Instr.sliceBounds, *]
          | some v =>
            cases hi' with
            | none => exact hh.elim
            | some x =>
              have h3 := sliceBound_run (P := P) (y := cap) hρ (if isS then .sliceAcap else .sliceAlen) hb hh hn w
              have := low h l hlb
              refine ⟨?_, this.2, h3.2, by simp, rfl⟩
              rcases this.1 with ⟨rfl, rfl⟩ | ⟨y, rfl, hy⟩ <;> simp [Instr.sliceBounds, *]
        · exact absurd hc (by simp)
      · exact absurd hc (by simp)
  | some mv =>
    cases mx' with
    | none => exact hm.elim
    | some mx2 =>
      simp only at hc
      split at hc
      · rename_i m2 hv hb2
        split at hc
        · rename_i h2 hb
          split at hc
          · rename_i l2 hlb
            cases hc
            cases hi' with
            | none => exact hh.elim
            | some x =>
              have h4 := sliceBound_run (P := P) (y := cap) hρ (if isS then .slice3Acap else .slice3Alen) hb2 hm hn w
              have h3 := sliceBound_run (P := P) (y := m2) hρ .slice3B hb hh (Nat.le_refl _) w
              have := low h l hlb
              refine ⟨?_, this.2, Nat.le_trans h3.2 h4.2, ?_, rfl⟩
              · rcases this.1 with ⟨rfl, rfl⟩ | ⟨y, rfl, hy⟩ <;> simp [Instr.sliceBounds, *]
              · intro k hk
                cases hk
                exact ⟨h3.2, h4.2⟩
          · exact absurd hc (by simp)
        · exact absurd hc (by simp)
      · exact absurd hc (by simp)

theorem cutsV_ok {P : Program} {tb : Tb} {φ : Froz} {γ : Place} {lo hi mx : Option V} {lo' hi' mx' : Option Value} {n k cap l h : Nat} {m : Option Nat} (hρ : φ.rho = tb.rho) (hc : cutsV tb lo hi mx n k = some (l, h, m)) (hl : ORel φ γ lo lo') (hh : ORel φ γ hi hi') (hm : ORel φ γ mx mx')
    (hnk : n ≤ k) (hk : k ≤ cap) (isS : Bool) (w : World) : (Instr.sliceBounds isS n cap lo' hi' mx').run P w = .ok (l, h, m.getD cap) w ∧ l ≤ h ∧ h ≤ k ∧ (∀ q, m = some q → h ≤ q ∧ q ≤ k) := by
  unfold cutsV at hc
  cases mx with
  | some mv =>
    have := cuts_ok (P := P) hρ hc hl hh hm hk isS w
    refine ⟨?_, this.2.1, this.2.2.1, this.2.2.2.1⟩
    rw [← this.1]
    cases mx' with
    | none => exact hm.elim
    | some mx2 => cases hi' <;> rfl
  | none =>
    cases hi with
    | none =>
      have hc2 : cuts tb lo none none n = some (l, h, m) := by
        unfold cuts
        exact hc
      have := cuts_ok (P := P) hρ hc2 hl hh hm (Nat.le_trans hnk hk) isS w
      refine ⟨this.1, this.2.1, Nat.le_trans this.2.2.1 hnk, fun q hq => ?_⟩
      have := this.2.2.2.1 q hq
      omega
    | some hv =>
      have hc2 : cuts tb lo (some hv) none k = some (l, h, m) := by
        unfold cuts
        exact hc
      have := cuts_ok (P := P) hρ hc2 hl hh hm hk isS w
      refine ⟨?_, this.2.1, this.2.2.1, this.2.2.2.1⟩
      rw [← this.1]
      cases mx' with
      | some _ => exact hm.elim
      | none =>
        cases hi' with
        | none => exact hh.elim
        | some _ => rfl

theorem flat_cut {α : Type} {sz : Nat} {es : List (List α)} (h : ∀ c, c ∈ es → c.length = sz) (l n : Nat) {k : Nat} {v : α} (hk : ((es.take n).drop l).flatten[k]? = some v) : es.flatten[l * sz + k]? = some v := by
  have hrow : ∀ c, c ∈ (es.take n).drop l → c.length = sz := fun c hc => h c (List.mem_of_mem_take (List.mem_of_mem_drop hc))
  obtain ⟨i, j, c, rfl, hi, hj⟩ := flat_inv hrow hk
  have hl := getElem?_lt hi
  simp only [List.length_drop, List.length_take] at hl
  rw [List.getElem?_drop, List.getElem?_take, if_pos (by omega)] at hi
  have := flat_get h hi hj
  rwa [show l * sz + (i * sz + j) = (l + i) * sz + j by rw [Nat.add_mul]; omega]

section ops
variable {P : Program} {tb : Tb} (hok : tb.Ok P) {N : Nat} {φ : Froz} {γ : Place} {H : Heap} {w : World} (hr : Rel N φ γ H w)
include hok hr

theorem slice0_ok (hρ : φ.rho = tb.rho) {T : TypeId} {x v : V} {lo hi mx : Option V} {x' : Value} {lo' hi' mx' : Option Value} (h : evalSlice0 tb T x lo hi mx = some v) (hx : VRel φ γ x x') (hl : ORel φ γ lo lo') (hh : ORel φ γ hi hi') (hm : ORel φ γ mx mx') :
    PureOut P N φ γ H w v (Instr.sliceAt T x' lo' hi' mx') := by
  unfold evalSlice0 at h
  split at h
  · rename_i s hd
    split at h
    · rename_i l hn hc
      cases h
      cases hx
      have hb := cuts_ok (P := P) hρ hc hl hh hm (Nat.le_refl _) false w
      have hmx : mx' = none := by
        cases mx with
        | none => cases mx' with
          | none => rfl
          | some _ => exact hm.elim
        | some _ => have := hb.2.2.2.2; simp at this
      subst hmx
      refine .same hr ?_ (.val rfl)
      simp [Instr.sliceAt, Instr.slice, run_underlying (hok.desc _ _ hd), hb.1]
    · exact absurd h (by simp)
  · rename_i e nl es tok hd
    split at h
    · rename_i sz l hn m hsz hc
      rcases hx.list_inv with ⟨rfl, rfl, rfl⟩ | ⟨rfl, a, cap, sz2, f, rfl, hli⟩
      · simp only [if_true] at h
        cases h
        have hb := cuts_ok (P := P) (cap := 0) hρ hc hl hh hm (Nat.le_refl _) true w
        refine .same hr ?_ .lnil
        have h0 : hn = 0 := by have := hb.2.2.1; simpa using this
        have h1 : l = 0 := by have := hb.2.1; omega
        have h2 : m.getD 0 = 0 := by
          cases m with
          | none => rfl
          | some k => have := (hb.2.2.2.1 k rfl).2; simpa using this
        have hb1 := hb.1
        simp only [List.length_nil] at hb1
        simp [Instr.sliceAt, Instr.slice, run_underlying (hok.desc _ _ hd), hb1, run_sizeOf' hok w hsz, h0, h1, h2]
      · simp only [Bool.false_eq_true, if_false] at h
        split at h
        · rename_i hall
          cases h
          have hb := cuts_ok (P := P) hρ hc hl hh hm hli.le true w
          have hrun : (Instr.sliceAt T (.slice (some a) es.length cap) lo' hi' mx').run P w = .ok (.slice (some (if m.getD cap = l then a else a.add (l * sz))) (hn - l) (m.getD cap - l)) w := by
            simp [Instr.sliceAt, Instr.slice, run_underlying (hok.desc _ _ hd), hb.1, run_sizeOf' hok w hsz]
            split <;> rfl
          refine .same hr hrun ?_
          have hlen : ((es.take hn).drop l).length = hn - l := by
            simp only [List.length_drop, List.length_take]
            have := hb.2.2.1
            omega
          have hmc : hn ≤ m.getD cap ∧ m.getD cap ≤ cap := by
            have h1 := hb.2.2.1
            have h2 := hli.le
            cases m with
            | none => simp; omega
            | some k => have := hb.2.2.2.1 k rfl; simp; omega
          rw [← hlen]
          by_cases hel : l < hn
          · have hne : ¬ m.getD cap = l := by omega
            rw [if_neg hne, add_eq (hli.spot (by omega))]
            have hse : sz2 = sz := by
              have hlt : l < es.length := by have := hb.2.2.1; omega
              have h1 := hli.row es[l] (List.getElem_mem hlt)
              have h2 := List.all_eq_true.1 hall es[l] (List.getElem_mem hlt)
              simp at h2
              omega
            subst hse
            refine .list_mk sz2 (fun k => f (l * sz2 + k)) (fun _ => rfl) (by rw [hlen]; omega) (by have := hli.max; omega) (fun c hc => hli.row c (List.mem_of_mem_take (List.mem_of_mem_drop hc))) (fun k v hk => ?_) ?_
            · have := hli.cell _ _ (flat_cut hli.row l hn hk)
              exact ⟨this.1, by rw [Nat.add_assoc]; exact this.2.1, this.2.2⟩
            · unfold cutTok
              cases m with
              | some k =>
                simp only []
                split
                · rename_i hk; subst hk; show _ = _; simp [hlen]
                · trivial
              | none =>
                simp only [Option.getD_none]
                split
                · rename_i hk
                  have ht := hli.tok
                  obtain ⟨hk1, hk2⟩ := hk
                  subst hk1
                  unfold TokRel at ht ⊢
                  cases tok with
                  | full => simp only at ht ⊢; rw [hlen]; omega
                  | own b s =>
                    simp only at ht ⊢
                    refine ⟨ht.1, ?_⟩
                    rw [ht.2, hlen]
                    have e1 : l * sz2 + (es.length - l) * sz2 = es.length * sz2 := by rw [← Nat.add_mul]; congr 1; omega
                    have e2 : l * sz2 + (cap - l) * sz2 = cap * sz2 := by rw [← Nat.add_mul]; congr 1; omega
                    rw [Nat.add_assoc, Nat.add_assoc, e1, e2]
                  | unk => trivial
                · trivial
          · have hel2 : l = hn := by have := hb.2.1; omega
            have hnil : (es.take hn).drop l = [] := List.length_eq_zero_iff.1 (by rw [hlen]; omega)
            rw [hnil]
            refine .list_mk 0 f ?_ (Nat.zero_le _) (by have := hli.max; omega) (by simp) (by simp) ?_
            · intro h0
              split
              · exact hli.spot (by omega)
              · rw [add_eq (hli.spot (by omega))]
            · unfold cutTok
              cases m with
              | some k =>
                simp only []
                split
                · rename_i hk; subst hk; show _ = _; simp; omega
                · trivial
              | none =>
                simp only []
                rw [if_neg (by omega)]
                trivial
        · exact absurd h (by simp)
    · exact absurd h (by simp)
  · rename_i e b off len cap hd
    split at h
    · rename_i sz l hn m hsz hc
      cases h
      cases hx with
      | @mslice _ _ _ _ cb m0 e2 hb hlc hcm =>
        have hbd := cuts_ok (P := P) hρ hc hl hh hm hlc true w
        have hmc : hn ≤ m.getD cap ∧ m.getD cap ≤ cap := by
          have h1 := hbd.2.2.1
          cases m with
          | none => simp; omega
          | some k => have := hbd.2.2.2.1 k rfl; simp; omega
        have hrun : (Instr.sliceAt T (.slice (some ⟨cb, m0 + off, none⟩) len cap) lo' hi' mx').run P w = .ok (.slice (some (if m.getD cap = l then ⟨cb, m0 + off, none⟩ else (⟨cb, m0 + off, none⟩ : Addr).add (l * sz))) (hn - l) (m.getD cap - l)) w := by
          simp [Instr.sliceAt, Instr.slice, run_underlying (hok.desc _ _ hd), hbd.1, run_sizeOf' hok w hsz]
          split <;> rfl
        have e3 : (if m.getD cap = l then ⟨cb, m0 + off, none⟩ else (⟨cb, m0 + off, none⟩ : Addr).add (l * sz)) = ⟨cb, m0 + (if m.getD cap = l then off else off + l * sz), none⟩ := by
          split
          · rfl
          · rw [add_eq rfl]
            simp [Nat.add_assoc]
        rw [e3] at hrun
        exact .same hr hrun (.mslice hb (by omega) (by omega))
    · exact absurd h (by simp)
  · rename_i e b off len kc sz2 hd
    split at h
    · rename_i sz l hn m hsz hc
      split at h
      · exact absurd h (by simp)
      · rename_i hsz2
        have hsz2 : sz = sz2 := by simpa using hsz2
        subst hsz2
        cases hx with
        | @vslice _ _ _ _ _ cap cb m0 e2 a hb hlk hkc hcm hat =>
          have hbd := cutsV_ok (P := P) hρ hc hl hh hm hlk hkc true w
          have hrun : (Instr.sliceAt T (.slice (some a) len cap) lo' hi' mx').run P w = .ok (.slice (some (if m.getD cap = l then a else a.add (l * sz))) (hn - l) (m.getD cap - l)) w := by
            simp [Instr.sliceAt, Instr.slice, run_underlying (hok.desc _ _ hd), hbd.1, run_sizeOf' hok w hsz]
            split <;> rfl
          cases m with
          | none =>
            cases h
            simp only [Option.getD_none] at hrun
            refine .same hr hrun (.vslice hb (by omega) (by omega) (by omega) (fun hp => ?_))
            obtain ⟨rfl, hle⟩ := hat (by omega)
            rw [if_neg (by omega), add_eq rfl]
            refine ⟨by simp [Nat.add_assoc], ?_⟩
            have e1 : l * sz + (cap - l) * sz = cap * sz := by rw [← Nat.add_mul]; congr 1; omega
            omega
          | some k =>
            have hk := hbd.2.2.2 k rfl
            simp only [Option.getD_some] at hrun
            simp only [Option.some.injEq] at h
            by_cases hkl : k = l
            · rw [if_pos hkl] at h
              subst h
              have e0 : hn - l = 0 := by omega
              have e1 : k - l = 0 := by omega
              rw [e0, e1] at hrun
              exact .same hr hrun (.list_mk 0 (fun _ => undef) (fun h => by omega) (Nat.le_refl _) (Nat.zero_le _) (by simp) (by simp) rfl)
            · rw [if_neg hkl] at h
              subst h
              obtain ⟨rfl, hle⟩ := hat (by omega)
              rw [if_neg hkl, add_eq rfl] at hrun
              have := VRel.mslice (φ := φ) (off := off + l * sz) (len := hn - l) (cap := k - l) hb (by omega) (by omega)
              rw [← Nat.add_assoc] at this
              exact .same hr hrun this
    · exact absurd h (by simp)
  · exact absurd h (by simp)

theorem slice_ok (hρ : φ.rho = tb.rho) {T : TypeId} {x v : V} {lo hi mx : Option V} {x' : Value} {lo' hi' mx' : Option Value} (h : evalSlice tb T x lo hi mx = some v) (hx : VRel φ γ x x') (hl : ORel φ γ lo lo') (hh : ORel φ γ hi hi') (hm : ORel φ γ mx mx') :
    PureOut P N φ γ H w v (Instr.sliceAt T x' lo' hi' mx') := by
  unfold evalSlice at h
  split at h
  · rename_i e
    unfold symSlice at h
    split at h
    · rename_i a b hd ha hb
      split at h
      · rename_i hc
        simp only [Bool.and_eq_true, decide_eq_true_eq, Option.isNone_iff_eq_none] at hc
        obtain ⟨hmx0, hc⟩ := hc
        subst hmx0
        cases h
        have hmx : mx' = none := by
          cases mx' with
          | none => rfl
          | some _ => exact hm.elim
        subst hmx
        have hb := cuts_ok (P := P) hρ hc hl hh hm (Nat.le_refl _) false w
        cases hx with
        | sym h1 =>
          subst h1
          rw [hρ]
          refine .same hr (cv := .string ((e.text tb.rho).extract (a.num tb.rho).toNat (b.num tb.rho).toNat)) ?_ (.sym ?_)
          · simp [SE.val, Instr.sliceAt, Instr.slice, run_underlying (hok.desc _ _ hd), hb.1]
          · rw [hρ]; rfl
      · exact absurd h (by simp)
    · exact absurd h (by simp)
  · rename_i k nl e tok
    unfold listSlice at h
    split at h
    · rename_i t a b hd ha hb
      split at h
      · rename_i hc
        simp only [Bool.and_eq_true] at hc
        obtain ⟨hk, hin, hsz⟩ := hc
        have hsz2 : tb.size t = some (rowW k) := szIs_eq hsz
        unfold inOrder at hin
        simp only [Bool.and_eq_true, decide_eq_true_eq] at hin
        obtain ⟨h0, h1, h2⟩ := hin
        have hlen : (lenSE k e).num tb.rho = ((rowsOf φ.rho k e).length : Int) := by rw [hρ]; exact rows_len hk e
        rw [hlen] at h2
        have e1 : bound tb hi (rowsOf φ.rho k e).length (rowsOf φ.rho k e).length = some (b.num tb.rho).toNat := boundSE_ok hb hlen (by omega) h2
        have e2 : bound tb lo 0 (b.num tb.rho).toNat = some (a.num tb.rho).toNat := boundSE_ok ha rfl h0 (by omega)
        have hall : (rowsOf φ.rho k e).all (fun c => c.length == rowW k) = true := List.all_eq_true.2 fun c hc => by simpa using rows_row hc
        have hcut : rowsOf φ.rho k (cutSE k e a b) = ((rowsOf φ.rho k e).take (b.num tb.rho).toNat).drop (a.num tb.rho).toNat := by rw [rows_cut hk, hρ]
        cases hx with
        | sli hxl =>
          have fin : ∀ (m : Option Nat) (tok' : Tok), cuts tb lo hi mx (rowsOf φ.rho k e).length = some ((a.num tb.rho).toNat, (b.num tb.rho).toNat, m) → (tok' = .unk ∨ (tok' = .full ∧ m = some (b.num tb.rho).toNat)) →
              PureOut P N φ γ H w (.sli k nl (cutSE k e a b) tok') (Instr.sliceAt T x' lo' hi' mx') := by
            intro m tok' hcuts htok
            cases hn : nl.truth φ.rho with
            | true =>
              rw [hn] at hxl
              have hrows := hxl.nil_rows.1
              have h3 : evalSlice0 tb T (.list true (rowsOf φ.rho k e) tok) lo hi mx = some (.list true [] .full) := by
                unfold evalSlice0
                simp only [hd, hsz2, hcuts, if_true]
              refine (slice0_ok hok hr hρ h3 hxl hl hh hm).conv (fun φ' y hφ' hy => .sli ?_)
              rw [hφ', hn, hcut, hrows]
              obtain ⟨_, rfl⟩ := hy.nil_rows
              simp only [List.take_nil, List.drop_nil]
              exact .lnil
            | false =>
              rw [hn] at hxl
              have h3 : evalSlice0 tb T (.list false (rowsOf φ.rho k e) tok) lo hi mx = some (.list false (((rowsOf φ.rho k e).take (b.num tb.rho).toNat).drop (a.num tb.rho).toNat) (cutTok tok (rowsOf φ.rho k e).length (a.num tb.rho).toNat (b.num tb.rho).toNat m)) := by
                unfold evalSlice0
                simp only [hd, hsz2, hcuts, hall, if_true, Bool.false_eq_true, if_false]
              refine (slice0_ok hok hr hρ h3 hxl hl hh hm).conv (fun φ' y hφ' hy => .sli ?_)
              rw [hφ', hn, hcut]
              rcases htok with rfl | ⟨rfl, rfl⟩
              · exact hy.weak
              · have : cutTok tok (rowsOf φ.rho k e).length (a.num tb.rho).toNat (b.num tb.rho).toNat (some (b.num tb.rho).toNat) = .full := by simp [cutTok]
                rw [this] at hy
                exact hy
          split at h
          · cases h
            exact fin none .unk (by unfold cuts; simp only [e1, e2]) (.inl rfl)
          · rename_i m
            split at h
            · rename_i kk mm hmm
              split at h
              · rename_i hmb
                cases h
                rw [Bool.and_eq_true] at hmb
                have hmb2 := SE.beq_eq hmb.2
                subst hmb2
                cases hi with
                | none => simp at hmb
                | some hv =>
                  have e3 : bound tb (some m) 0 (rowsOf φ.rho k e).length = some (mm.num tb.rho).toNat := boundSE_ok (d := .int .i64 0) (by unfold boundSE; simp only [hmm]) rfl (by omega) h2
                  have e4 : bound tb (some hv) 0 (mm.num tb.rho).toNat = some (mm.num tb.rho).toNat := boundSE_ok (d := .int .i64 0) (by
                    unfold boundSE at hb ⊢
                    exact hb) rfl (by omega) (by omega)
                  exact fin (some (mm.num tb.rho).toNat) .full (by unfold cuts; simp only [e3, e4, e2]) (.inr ⟨rfl, rfl⟩)
              · exact absurd h (by simp)
            · exact absurd h (by simp)
      · exact absurd h (by simp)
    · exact absurd h (by simp)
  · exact slice0_ok hok hr hρ h hx hl hh hm

end ops

/-! ### '==' of structs -/
theorem eqFieldsV_ok {P : Program} {tb : Tb} (hok : tb.Ok P) {φ : Froz} {γ : Place} {d : Nat} {w : World} {eqv : TypeId → V → V → Option Bool} {xs ys : List V} {xa ya : Array Value} (hx : CellsRel φ γ xs xa) (hy : CellsRel φ γ ys ya)
    (he : ∀ t a b r a' b', eqv t a b = some r → VRel φ γ a a' → VRel φ γ b b' → (Op.equalIn d t a' b').run P w = .ok r w) : ∀ (fs : List Field) (r : Bool), eqFieldsV tb eqv xs ys fs = some r → (Op.eqFields d xa ya fs).run P w = .ok r w
  | [], r, h => by simp only [eqFieldsV, Option.some.injEq] at h; subst h; simp [Op.eqFields]
  | f :: fs, r, h => by
    rw [eqFieldsV] at h
    split at h
    · rename_i hn
      rw [Op.eqFields, if_neg (by simpa using hn)]
      exact eqFieldsV_ok hok hx hy he fs r h
    · rename_i hn
      simp only [Option.bind_eq_some_iff, Option.map_eq_some_iff] at h
      obtain ⟨a, ha, b, hb, r1, h1, s, hs, rfl⟩ := h
      obtain ⟨a', ha1, ha2⟩ := part_ok hok ha hx w
      obtain ⟨b', hb1, hb2⟩ := part_ok hok hb hy w
      have h2 := he _ _ _ _ _ _ h1 ha2 hb2
      have h3 := eqFieldsV_ok hok hx hy he fs s hs
      rw [Op.eqFields, if_pos (by simpa using hn)]
      simp only [Sem.run_bind, ha1, hb1, h2, Result.andThen_ok]
      cases r1
      · simp
      · simpa using h3

theorem equalV_ok {P : Program} {tb : Tb} (hok : tb.Ok P) {φ : Froz} {γ : Place} {w : World} : ∀ (n d : Nat) (t : TypeId) (x y : V) (x' y' : Value) (r : Bool), n ≤ d → equalV P tb n t x y = some r → VRel φ γ x x' → VRel φ γ y y' → (Op.equalIn d t x' y').run P w = .ok r w
  | 0, _, _, _, _, _, _, _, _, h, _, _ => by simp [equalV] at h
  | n + 1, 0, _, _, _, _, _, _, hd, _, _, _ => by omega
  | n + 1, d + 1, t, x, y, x', y', r, hd, h, hx, hy => by
    unfold equalV at h
    split at h
    · rename_i hdt
      cases h
      cases hx; cases hy
      rw [Op.equalIn]; simp [run_underlying (hok.desc _ _ hdt)]
    · rename_i hdt
      split at h
      · rename_i hk
        cases h
        cases hx; cases hy
        subst hk
        rw [Op.equalIn]; simp [run_underlying (hok.desc _ _ hdt)]
      · exact absurd h (by simp)
    · rename_i hdt
      cases h
      cases hx; cases hy
      rw [Op.equalIn]; simp [run_underlying (hok.desc _ _ hdt)]
    · rename_i fs xs ys hdt
      split at h
      · exact absurd h (by simp)
      · rename_i hp
        cases hx with
        | @agg _ xa hx1 hx2 hx3 =>
          cases hy with
          | @agg _ ya hy1 hy2 hy3 =>
            have hf : P.fieldsOf t = fs := by simp [Program.fieldsOf, hok.desc _ _ hdt]
            rw [run_equalIn_struct (P := P) w d t xa ya (by rw [hf]; exact hok.desc _ _ hdt) (by simpa using hp), hf]
            exact eqFieldsV_ok hok ⟨hx1, fun j v hj => ⟨hx2 j v hj, hx3 j v hj⟩⟩ ⟨hy1, fun j v hj => ⟨hy2 j v hj, hy3 j v hj⟩⟩ (fun t a b r a' b' h ha hb => equalV_ok hok n d t a b a' b' r (by omega) h ha hb) fs.toList r h
    · exact absurd h (by simp)

theorem bin1_ok {P : Program} {tb : Tb} (hok : tb.Ok P) {φ : Froz} {γ : Place} {op : BinOp} {T : TypeId} {x y v : V} {x' y' : Value} (ox oy : Operand) (h : evalBin1 P tb op T x y = some v) (hx : VRel φ γ x x') (hy : VRel φ γ y y') (w : World) :
    ∃ cv, (do eqGuard op T ox oy x' y'; binOp op T x' y').run P w = .ok cv w ∧ VRel φ γ v cv := by
  have agg : ∀ r, equalAgg P tb T x y = some r → (op = .eql ∨ op = .neq) → (eqGuard op T ox oy x' y').run P w = .ok () w ∧ (Op.equal T x' y').run P w = .ok r w ∧ (∃ cs, x' = .agg cs) ∧ ∃ ds, y' = .agg ds := by
    intro r hr hop
    unfold equalAgg at hr
    split at hr
    · split at hr
      · exact absurd hr (by simp)
      · rename_i hg
        have he := equalV_ok hok 9 (9999 + 1) T _ _ x' y' r (by omega) hr hx hy (w := w)
        cases hx with
        | @agg _ xa hx1 hx2 hx3 =>
          cases hy with
          | @agg _ ya hy1 hy2 hy3 =>
            refine ⟨?_, he, ⟨_, rfl⟩, _, rfl⟩
            have hg' : P.eqGuardType P.depth T = false := by simpa using hg
            rcases hop with rfl | rfl <;> simp [eqGuard, hg']
    · exact absurd hr (by simp)
  unfold evalBin1 at h
  split at h
  · split at h
    · rename_i r hr
      cases h
      obtain ⟨h1, h2, ⟨cs, rfl⟩, ds, rfl⟩ := agg r hr (.inl rfl)
      exact ⟨_, by simp [h1, binOp, h2], .val rfl⟩
    · exact bin0_ok hok ox oy h hx hy w
  · split at h
    · rename_i r hr
      cases h
      obtain ⟨h1, h2, ⟨cs, rfl⟩, ds, rfl⟩ := agg r hr (.inr rfl)
      exact ⟨_, by simp [h1, binOp, h2], .val rfl⟩
    · exact bin0_ok hok ox oy h hx hy w
  · exact bin0_ok hok ox oy h hx hy w

/-! ### Unknown scalars -/
theorem toSE_ok {φ : Froz} {γ : Place} {v : V} {x : Value} {t : STy} {e : SE} (h : toSE v = some (t, e)) (hr : VRel φ γ v x) : x = e.val φ.rho t := by
  unfold toSE at h
  split at h
  all_goals (cases h)
  · cases hr with | sym h1 => exact h1
  · cases hr; rfl
  · cases hr; rfl
  · cases hr; rfl

theorem intBin_arith {op : BinOp} {k : IntKind} {a b : Int} (h : symArith op = true) : ∃ n, intBin op k a k b = some (.int k n) := by
  cases op <;> simp [symArith] at h <;> simp [intBin]
theorem intBin_cmp {op : BinOp} {k : IntKind} {a b : Int} (h : symCmp op = true) : ∃ n, intBin op k a k b = some (.bool n) := by
  cases op <;> simp [symCmp] at h <;> simp [intBin]

theorem bytes_beq (a b : ByteArray) : (a.toList == b.toList) = (a == b) := by
  obtain ⟨x⟩ := a
  obtain ⟨y⟩ := b
  have e : ((⟨x⟩ : ByteArray) == ⟨y⟩) = (x == y) := rfl
  rw [e, ByteArray.toList_eq, ByteArray.toList_eq, Bool.eq_iff_iff, beq_iff_eq, beq_iff_eq]
  exact ⟨fun h => by simpa using h, fun h => by rw [h]⟩

theorem cmp_any {op : BinOp} (h : symCmp op = true) (k k' : IntKind) (a b : Int) : intBin op k a k b = intBin op k' a k' b := by
  cases op <;> simp [symCmp] at h <;> simp [intBin]

theorem mkBin_num (ρ : Nat → Value) (op : BinOp) (k : IntKind) (a b : SE) : (mkBin op k a b).num ρ = (SE.bin op k a b).num ρ := by
  unfold mkBin
  split
  · split
    · simp [SE.num, SE.all, intBin, Int.add_comm]
    · rfl
  · split
    · simp [SE.num, SE.all, intBin, Int.mul_comm]
    · rfl
  · rfl

theorem symBin_ok {P : Program} {tb : Tb} (hok : tb.Ok P) {φ : Froz} (hρ : φ.rho = tb.rho) {γ : Place} {op : BinOp} {T : TypeId} {t t' : STy} {a b : SE} {v : V} (ox oy : Operand) (h : symBin tb op T t a t' b = some v) (w : World) :
    ∃ cv, (do eqGuard op T ox oy (a.val φ.rho t) (b.val φ.rho t'); binOp op T (a.val φ.rho t) (b.val φ.rho t')).run P w = .ok cv w ∧ VRel φ γ v cv := by
  unfold symBin at h
  split at h
  · rename_i k k'
    have ints' : ∀ {n : Int}, intBin op k (a.num φ.rho) k' (b.num φ.rho) = some (.int k n) → intBin op k (a.num φ.rho) k (b.num φ.rho) = some (.int k n) → ∀ e, v = .sym (.int k) e → e.num φ.rho = (SE.bin op k a b).num φ.rho →
        ∃ cv, (do eqGuard op T ox oy (a.val φ.rho (.int k)) (b.val φ.rho (.int k')); binOp op T (a.val φ.rho (.int k)) (b.val φ.rho (.int k'))).run P w = .ok cv w ∧ VRel φ γ v cv := by
      rintro n hr hr2 e rfl he
      have hb := intBin_ok (P := P) (T := T) hr w
      refine ⟨_, by simp only [SE.val]; simp [eqGuard_int, hb.1]; rfl, .sym ?_⟩
      simp only [SE.val]
      rw [he]
      simp only [SE.num, SE.all]
      simp only [SE.num] at hr2
      rw [hr2]
      rfl
    have ints : ∀ {n : Int}, intBin op k (a.num φ.rho) k' (b.num φ.rho) = some (.int k n) → intBin op k (a.num φ.rho) k (b.num φ.rho) = some (.int k n) → v = .sym (.int k) (.bin op k a b) →
        ∃ cv, (do eqGuard op T ox oy (a.val φ.rho (.int k)) (b.val φ.rho (.int k')); binOp op T (a.val φ.rho (.int k)) (b.val φ.rho (.int k'))).run P w = .ok cv w ∧ VRel φ γ v cv := by
      intro n hr hr2 hv
      exact ints' hr hr2 _ hv rfl
    split at h
    · rename_i hc
      simp only [Bool.and_eq_true, beq_iff_eq] at hc
      obtain ⟨hc, rfl⟩ := hc
      obtain ⟨n, hn⟩ := intBin_arith (k := k) (a := a.num φ.rho) (b := b.num φ.rho) hc
      cases h
      exact ints' hn hn _ rfl (mkBin_num _ _ _ _ _)
    · split at h
      · rename_i hc
        simp only [Bool.and_eq_true, beq_iff_eq] at hc
        obtain ⟨hc, rfl⟩ := hc
        obtain ⟨n, hn⟩ := intBin_cmp (k := k) (a := a.num φ.rho) (b := b.num φ.rho) hc
        cases h
        have hb := intBin_ok (P := P) (T := T) hn w
        refine ⟨_, by simp only [SE.val]; simp [eqGuard_int, hb.1]; rfl, .sym ?_⟩
        rw [cmp_any hc k .i64] at hn
        simp only [SE.num] at hn
        simp only [SE.val, SE.truth, SE.all]
        rw [hn]
        rfl
      · split at h
        · rename_i k2 n
          have hbn : (SE.int k2 n).num φ.rho = n := rfl
          split at h
          · rename_i hc
            simp only [Bool.and_eq_true, Bool.or_eq_true, beq_iff_eq, bne_iff_ne, ne_eq] at hc
            obtain ⟨⟨hop, rfl⟩, hn0⟩ := hc
            cases h
            rcases hop with rfl | rfl
            · have := show intBin .quo k (a.num φ.rho) k ((SE.int k2 n).num φ.rho) = some (.int k (k.wrap ((a.num φ.rho).tdiv n))) by rw [hbn]; simp [intBin, hn0]
              exact ints this this rfl
            · have := show intBin .rem k (a.num φ.rho) k ((SE.int k2 n).num φ.rho) = some (.int k ((a.num φ.rho).tmod n)) by rw [hbn]; simp [intBin, hn0]
              exact ints this this rfl
          · split at h
            · rename_i hc
              simp only [Bool.and_eq_true, Bool.or_eq_true, beq_iff_eq, decide_eq_true_eq] at hc
              obtain ⟨hop, hn0⟩ := hc
              cases h
              have hn1 : ¬ n < 0 := by omega
              rcases hop with rfl | rfl
              · exact ints (by rw [hbn]; simp only [intBin, if_neg hn1]; rfl) (by rw [hbn]; simp only [intBin, if_neg hn1]) rfl
              · exact ints (by rw [hbn]; simp only [intBin, if_neg hn1]; rfl) (by rw [hbn]; simp only [intBin, if_neg hn1]) rfl
            · exact absurd h (by simp)
        · split at h
          · rename_i hc
            simp only [Bool.and_eq_true, Bool.or_eq_true, beq_iff_eq, bne_iff_ne, ne_eq] at hc
            obtain ⟨⟨hop, rfl⟩, hn0⟩ := hc
            rw [← hρ] at hn0
            cases h
            rcases hop with rfl | rfl
            · have := show intBin .quo k (a.num φ.rho) k (b.num φ.rho) = some (.int k (k.wrap ((a.num φ.rho).tdiv (b.num φ.rho)))) by simp [intBin, hn0]
              exact ints this this rfl
            · have := show intBin .rem k (a.num φ.rho) k (b.num φ.rho) = some (.int k ((a.num φ.rho).tmod (b.num φ.rho))) by simp [intBin, hn0]
              exact ints this this rfl
          · split at h
            · rename_i hc
              simp only [Bool.and_eq_true, Bool.or_eq_true, beq_iff_eq, decide_eq_true_eq] at hc
              obtain ⟨hop, hn0⟩ := hc
              rw [← hρ] at hn0
              cases h
              have hn1 : ¬ b.num φ.rho < 0 := by omega
              rcases hop with rfl | rfl
              · exact ints (by simp only [intBin, if_neg hn1]; rfl) (by simp only [intBin, if_neg hn1]) rfl
              · exact ints (by simp only [intBin, if_neg hn1]; rfl) (by simp only [intBin, if_neg hn1]) rfl
            · exact absurd h (by simp)
  · simp only [SE.val]
    split at h
    · rename_i hop
      simp only [beq_iff_eq] at hop
      subst hop
      cases h
      refine ⟨.bool (a.text φ.rho == b.text φ.rho), ?_, .sym rfl⟩
      simp [guard_not, binOp, Op.stringOp, bytes_beq]
    · split at h
      · rename_i hop
        simp only [beq_iff_eq] at hop
        subst hop
        cases h
        refine ⟨.bool (!(a.text φ.rho == b.text φ.rho)), ?_, .sym rfl⟩
        simp [guard_not, binOp, Op.stringOp, bytes_beq]
      · split at h
        · rename_i hc
          simp only [Bool.and_eq_true, beq_iff_eq, decide_eq_true_eq] at hc
          obtain ⟨hop, hsz⟩ := hc
          subst hop
          cases h
          rw [← hρ] at hsz
          have hlt : ¬ (((a.text φ.rho).size + (b.text φ.rho).size : Nat) : Int) > IntKind.i64.max := by
            show ¬ _ > (9223372036854775807 : Int)
            omega
          refine ⟨.string (a.text φ.rho ++ b.text φ.rho), ?_, .sym rfl⟩
          have e1 : (eqGuard .add T ox oy (.string (a.text φ.rho)) (.string (b.text φ.rho))).run P w = .ok () w := by simp [eqGuard]
          have e2 : (binOp .add T (.string (a.text φ.rho)) (.string (b.text φ.rho))).run P w = .ok (.string (a.text φ.rho ++ b.text φ.rho)) w := by
            show (Op.stringOp .add (a.text φ.rho) (b.text φ.rho)).run P w = _
            simp only [Op.stringOp]
            rw [if_neg hlt]
            rfl
          simp [e1, e2]
        · exact absurd h (by simp)
  · simp only [SE.val]
    split at h
    · rename_i hd
      have hd : tb.desc T = some .bool := by unfold isBoolT at hd; split at hd <;> first | assumption | exact absurd hd (by simp)
      have he : (Op.equal T (.bool (a.truth φ.rho)) (.bool (b.truth φ.rho))).run P w = .ok (a.truth φ.rho == b.truth φ.rho) w := by rw [equal_open (hok.desc _ _ hd), Op.equalIn]; simp [run_underlying (hok.desc _ _ hd)]
      split at h
      · rename_i hop
        simp only [beq_iff_eq] at hop
        subst hop
        cases h
        exact ⟨.bool (a.truth φ.rho == b.truth φ.rho), by simp [guard_not, binOp, he], .sym rfl⟩
      · split at h
        · rename_i hop
          simp only [beq_iff_eq] at hop
          subst hop
          cases h
          exact ⟨.bool (!(a.truth φ.rho == b.truth φ.rho)), by simp [guard_not, binOp, he], .sym rfl⟩
        · exact absurd h (by simp)
    · exact absurd h (by simp)
  · exact absurd h (by simp)

theorem mkAnd_truth (ρ : Nat → Value) (a b : SE) : (SE.mkAnd a b).truth ρ = (a.truth ρ && b.truth ρ) := by
  unfold SE.mkAnd
  split
  · simp [SE.truth, SE.all]
  · simp [SE.truth, SE.all]
  · rfl

theorem eqFieldsS_ok {P : Program} {tb : Tb} (hok : tb.Ok P) {φ : Froz} {γ : Place} {d : Nat} {w : World} {eqv : TypeId → V → V → Option SE} {xs ys : List V} {xa ya : Array Value} (hx : CellsRel φ γ xs xa) (hy : CellsRel φ γ ys ya)
    (he : ∀ t a b e a' b', eqv t a b = some e → VRel φ γ a a' → VRel φ γ b b' → (Op.equalIn d t a' b').run P w = .ok (e.truth φ.rho) w) : ∀ (fs : List Field) (e : SE), eqFieldsS tb eqv xs ys fs = some e → (Op.eqFields d xa ya fs).run P w = .ok (e.truth φ.rho) w
  | [], e, h => by simp only [eqFieldsS, Option.some.injEq] at h; subst h; simp [Op.eqFields, SE.truth, SE.all]
  | f :: fs, e, h => by
    rw [eqFieldsS] at h
    split at h
    · rename_i hn
      rw [Op.eqFields, if_neg (by simpa using hn)]
      exact eqFieldsS_ok hok hx hy he fs e h
    · rename_i hn
      simp only [Option.bind_eq_some_iff, Option.map_eq_some_iff] at h
      obtain ⟨a, ha, b, hb, r1, h1, s, hs, rfl⟩ := h
      obtain ⟨a', ha1, ha2⟩ := part_ok hok ha hx w
      obtain ⟨b', hb1, hb2⟩ := part_ok hok hb hy w
      have h2 := he _ _ _ _ _ _ h1 ha2 hb2
      have h3 := eqFieldsS_ok hok hx hy he fs s hs
      rw [mkAnd_truth]
      rw [Op.eqFields, if_pos (by simpa using hn)]
      simp only [Sem.run_bind, ha1, hb1, h2, Result.andThen_ok]
      cases r1.truth φ.rho
      · simp
      · simpa using h3

theorem equalS_ok {P : Program} {tb : Tb} (hok : tb.Ok P) {φ : Froz} {γ : Place} {w : World} : ∀ (n d : Nat) (t : TypeId) (x y : V) (x' y' : Value) (e : SE), n ≤ d → equalS P tb n t x y = some e → VRel φ γ x x' → VRel φ γ y y' →
    (Op.equalIn d t x' y').run P w = .ok (e.truth φ.rho) w
  | 0, _, _, _, _, _, _, _, _, h, _, _ => by simp [equalS] at h
  | n + 1, 0, _, _, _, _, _, _, hd, _, _, _ => by omega
  | n + 1, d + 1, t, x, y, x', y', e, hd, h, hx, hy => by
    unfold equalS at h
    split at h
    · rename_i fs hdt
      split at h
      · rename_i xs ys
        split at h
        · exact absurd h (by simp)
        · rename_i hp
          cases hx with
          | @agg _ xa hx1 hx2 hx3 =>
            cases hy with
            | @agg _ ya hy1 hy2 hy3 =>
              have hf : P.fieldsOf t = fs := by simp [Program.fieldsOf, hok.desc _ _ hdt]
              rw [run_equalIn_struct (P := P) w d t xa ya (by rw [hf]; exact hok.desc _ _ hdt) (by simpa using hp), hf]
              exact eqFieldsS_ok hok ⟨hx1, fun j v hj => ⟨hx2 j v hj, hx3 j v hj⟩⟩ ⟨hy1, fun j v hj => ⟨hy2 j v hj, hy3 j v hj⟩⟩ (fun t a b r a' b' h ha hb => equalS_ok hok n d t a b a' b' r (by omega) h ha hb) fs.toList e h
      · exact absurd h (by simp)
    · rename_i hdt
      split at h
      · rename_i ha hb
        have h1 := toSE_ok ha hx
        have h2 := toSE_ok hb hy
        subst h1 h2
        cases h
        rw [Op.equalIn]; simp [SE.val, SE.truth, SE.all, run_underlying (hok.desc _ _ hdt)]
      · rename_i ha hb
        have h1 := toSE_ok ha hx
        have h2 := toSE_ok hb hy
        subst h1 h2
        cases h
        rw [Op.equalIn]; simp [SE.val, SE.truth, SE.all, run_underlying (hok.desc _ _ hdt)]
      · exact absurd h (by simp)
    · rename_i hdt
      split at h
      · rename_i ha hb
        have h1 := toSE_ok ha hx
        have h2 := toSE_ok hb hy
        subst h1 h2
        split at h
        · rename_i hk
          cases h
          subst hk
          rw [Op.equalIn]; simp [SE.val, SE.truth, SE.num, SE.all, run_underlying (hok.desc _ _ hdt)]
        · exact absurd h (by simp)
      · rename_i ha hb
        have h1 := toSE_ok ha hx
        have h2 := toSE_ok hb hy
        subst h1 h2
        split at h
        · rename_i hk
          cases h
          subst hk
          rw [Op.equalIn]; simp [SE.val, SE.truth, SE.num, SE.all, intBin, truthOf, run_underlying (hok.desc _ _ hdt)]
        · exact absurd h (by simp)
      · exact absurd h (by simp)
    · rename_i hdt
      split at h
      · rename_i ha hb
        have h1 := toSE_ok ha hx
        have h2 := toSE_ok hb hy
        subst h1 h2
        cases h
        rw [Op.equalIn]; simp [SE.val, SE.truth, SE.text, SE.all, run_underlying (hok.desc _ _ hdt)]
      · rename_i ha hb
        have h1 := toSE_ok ha hx
        have h2 := toSE_ok hb hy
        subst h1 h2
        cases h
        rw [Op.equalIn]; simp [SE.val, SE.truth, SE.text, SE.all, run_underlying (hok.desc _ _ hdt)]
      · exact absurd h (by simp)
    · exact absurd h (by simp)

theorem bin_ok {P : Program} {tb : Tb} (hok : tb.Ok P) {φ : Froz} (hρ : φ.rho = tb.rho) {γ : Place} {op : BinOp} {T : TypeId} {x y v : V} {x' y' : Value} (ox oy : Operand) (h : evalBin P tb op T x y = some v) (hx : VRel φ γ x x') (hy : VRel φ γ y y') (w : World) :
    ∃ cv, (do eqGuard op T ox oy x' y'; binOp op T x' y').run P w = .ok cv w ∧ VRel φ γ v cv := by
  unfold evalBin at h
  split at h
  · cases h
    exact bin1_ok hok ox oy ‹_› hx hy w
  · have agg : ∀ e, equalAggS P tb T x y = some e → (op = .eql ∨ op = .neq) → (eqGuard op T ox oy x' y').run P w = .ok () w ∧ (Op.equal T x' y').run P w = .ok (e.truth φ.rho) w ∧ (∃ cs, x' = .agg cs) ∧ ∃ ds, y' = .agg ds := by
      intro e hr hop
      unfold equalAggS at hr
      split at hr
      · split at hr
        · exact absurd hr (by simp)
        · rename_i hg
          have he := equalS_ok hok 9 (9999 + 1) T _ _ x' y' e (by omega) hr hx hy (w := w)
          cases hx with
          | @agg _ xa hx1 hx2 hx3 =>
            cases hy with
            | @agg _ ya hy1 hy2 hy3 =>
              refine ⟨?_, he, ⟨_, rfl⟩, _, rfl⟩
              have hg' : P.eqGuardType P.depth T = false := by simpa using hg
              rcases hop with rfl | rfl <;> simp [eqGuard, hg']
      · exact absurd hr (by simp)
    have scal : evalSymBin.evalSymScalar tb op T x y = some v → ∃ cv, (do eqGuard op T ox oy x' y'; binOp op T x' y').run P w = .ok cv w ∧ VRel φ γ v cv := by
      intro h
      unfold evalSymBin.evalSymScalar at h
      split at h
      · split at h
        · rename_i h1 h2
          rw [toSE_ok h1 hx, toSE_ok h2 hy]
          exact symBin_ok hok hρ ox oy h w
        · exact absurd h (by simp)
      · exact absurd h (by simp)
    unfold evalSymBin at h
    split at h
    · split at h
      · rename_i r hr
        cases h
        obtain ⟨h1, h2, ⟨cs, rfl⟩, ds, rfl⟩ := agg r hr (.inl rfl)
        exact ⟨.bool (r.truth φ.rho), by simp [h1, binOp, h2], boolV_rel r⟩
      · exact scal h
    · split at h
      · rename_i r hr
        cases h
        obtain ⟨h1, h2, ⟨cs, rfl⟩, ds, rfl⟩ := agg r hr (.inr rfl)
        exact ⟨.bool (!r.truth φ.rho), by simp [h1, binOp, h2], by rw [← mkNot_truth]; exact boolV_rel _⟩
      · exact scal h
    · exact scal h

end
end Go.Sx
