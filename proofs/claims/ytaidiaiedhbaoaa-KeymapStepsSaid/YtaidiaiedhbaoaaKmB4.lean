/- A step: every call is known. -/
import Derived.Test.YtaidiaiedhbaoaaKmB3
/- A step: every call is known. -/
set_option linter.unusedVariables false
set_option linter.unusedSimpArgs false
namespace Go.Proofs.Ytaidiaiedhbaoaa
open Go.Sx Go.ChangeShapes Go.WideShapes Go.ChangeAt Go.RowKit
noncomputable section
/-! ### Valid keys -/
theorem errN_ok (l : List Value) : ∀ k, errN l k = 0 → ∀ x, l.length ≤ x + k → x < l.length → refErr l x = 0
  | 0, _, x, h1, h2 => by omega
  | k + 1, h, x, h1, h2 => by
    rw [errN_succ] at h
    split at h
    · rename_i hc
      rcases Nat.lt_or_ge x (l.length - k) with hx | hx
      · have : x = l.length - (k + 1) := by omega
        rw [this]
        exact hc
      · exact errN_ok l k h x (by omega) h2
    · rename_i hc
      exact absurd h hc
structure RowOk (ls : List Value) : Prop where
  len : 0 < ls.length
  row : 0 < (symsD (ls.getD 0 .nilFunc)).length
  syms : ∀ lr, lr ∈ ls → ∀ s, s ∈ symsD lr → 1 ≤ numC s 0 ∧ numC s 0 ≤ 16777223
theorem row_ok {l : List Value} {x : Nat} (h : refErr l x = 0) : RowOk (levD (l.getD x .nilFunc)) := by
  unfold refErr at h
  split at h
  · omega
  · split at h
    · omega
    · unfold chkD at h
      split at h
      · omega
      · split at h
        · omega
        · split at h
          · omega
          · rename_i hn
            split at h
            · omega
            · rename_i hw
              refine ⟨by omega, by omega, fun lr hlr s hs => ?_⟩
              have hw : ((levD (l.getD x .nilFunc)).any wildsD) = false := by simpa using hw
              have h1 := List.any_eq_false.1 hw lr hlr
              have h2 : (symsD lr).any wildD = false := by simpa [wildsD] using h1
              have h3 := List.any_eq_false.1 h2 s hs
              simp only [wildD, Bool.or_eq_true, decide_eq_true_eq] at h3
              omega
theorem keys_ok {l : List Value} (h : errD l 0 = 0) {x : Nat} (hx : x < l.length) : RowOk (levD (l.getD x .nilFunc)) := row_ok (errN_ok l _ h x (by simp) hx)

/-! ### A step's numbers -/
structure MS where
  (a b c d : Int)
structure In where
  L : List Value
  code : Int
  m : MS
def In.ix (q : In) : Int := idxD q.code q.L
def In.key (q : In) : Value := (q.L.map cpK).getD q.ix.toNat .nilFunc
abbrev vI (i : Int) : Value := .int .i64 i
def In.e1 (q : In) : List (Nat × Value) := [(91, vI q.m.a), (92, vI q.m.b), (93, vI q.m.c), (94, vI q.m.d), (65, vI (laysD q.L)), (98, cellD q.key 1)]
def In.e2 (q : In) : List (Nat × Value) := (100, vI ((layT (nE 94) (nE 65)).at (envL q.e1) 0)) :: (101, vI (effT.at (envL q.e1) 0)) :: q.e1
def In.sym (q : In) : Int := if 0 ≤ q.ix then (symT (.dvar 98) (nE 100) (nE 101)).at (envL q.e2) 0 else 0
def In.e3 (q : In) : List (Nat × Value) := (102, vI q.sym) :: q.e2
def In.pr (q : In) (i : Nat) (o : Int) : Int := if 0 ≤ q.ix then (pressT (firstS (.dvar 98)) (nE 102) (nE 100) (nE 65)).at (envL q.e3) i else o
def In.rl (q : In) : Int := if 0 ≤ q.ix then (relT (firstS (.dvar 98))).at (envL q.e3) 0 else q.m.a
def In.e4 (q : In) : List (Nat × Value) := (103, vI (q.pr 0 q.m.a)) :: (104, vI (q.pr 1 q.m.b)) :: (105, vI (q.pr 2 q.m.c)) :: (106, vI (q.pr 3 q.m.d)) :: (107, vI q.rl) :: (95, vI q.ix) :: (96, vI (codeD q.key)) :: (97, .bool (isNilD (cellD q.key 1))) :: (113, vI (effT.at (envL q.e1) 0)) :: q.e3
def ks1 : List Nat := [91, 92, 93, 94, 65, 98]
def ks2 : List Nat := [100, 101, 91, 92, 93, 94, 65, 98]
def ks3 : List Nat := [102, 100, 101, 91, 92, 93, 94, 65, 98]
def ks4 : List Nat := [103, 104, 105, 106, 107, 95, 96, 97, 113, 102, 100, 101, 91, 92, 93, 94, 65, 98]
def inK (l : List Nat) (n : Nat) : Bool := l.any fun k => Nat.beq k n
theorem inK_mem {l : List Nat} {n : Nat} (h : inK l n = true) : n ∈ l := by
  obtain ⟨k, hk, hb⟩ := List.any_eq_true.1 h
  rw [← Nat.eq_of_beq_eq_true hb]
  exact hk
def MS.ok (m : MS) : Prop := (-9223372036854775808 ≤ m.a ∧ m.a ≤ 9223372036854775807) ∧ (-9223372036854775808 ≤ m.b ∧ m.b ≤ 9223372036854775807) ∧ (-9223372036854775808 ≤ m.c ∧ m.c ≤ 9223372036854775807) ∧ (-9223372036854775808 ≤ m.d ∧ m.d ≤ 9223372036854775807)
/-- A round's unknowns. -/
structure RdOk4 (ρ : Nat → Value) (q : In) : Prop where
  env : ∀ n, n ∈ ks4 → ρ n = envL q.e4 n
  code : codE.num ρ = q.code
  h64 : ρ 64 = listD (q.L.map cpK)
  h74 : ρ 74 = listD (q.L.map cpR)
  h110 : ρ 110 = vI 0
  h111 : ρ 111 = vI 1
  h112 : ρ 112 = vI 0
  small : smallKs q.L
  lays : laysD q.L ≤ 1000
  err : errD q.L 0 = 0
  m : q.m.ok
theorem lays_pos (l : List Value) : 1 ≤ laysD l := by
  unfold laysD
  have : ∀ (l : List Value) (a : Nat), 1 ≤ a → 1 ≤ l.foldl (fun a r => max a (levD r).length) a := by
    intro l
    induction l with
    | nil => intro a ha; exact ha
    | cons r l ih => intro a ha; rw [List.foldl_cons]; exact ih _ (by omega)
  exact this l 1 (Nat.le_refl _)
section
variable {ρ : Nat → Value} {q : In} (h : RdOk4 ρ q)
include h
theorem RdOk4.s1 : ∀ n, inK ks1 n = true → ρ n = envL q.e1 n := fun n hn => by
  have hm := inK_mem hn
  have h4 : n ∈ ks4 := (by decide : ∀ n, n ∈ ks1 → n ∈ ks4) n hm
  rw [h.env n h4]
  simp only [ks1, List.mem_cons, List.not_mem_nil, or_false] at hm
  rcases hm with rfl | rfl | rfl | rfl | rfl | rfl <;> rfl
theorem RdOk4.s2 : ∀ n, inK ks2 n = true → ρ n = envL q.e2 n := fun n hn => by
  have hm := inK_mem hn
  have h4 : n ∈ ks4 := (by decide : ∀ n, n ∈ ks2 → n ∈ ks4) n hm
  rw [h.env n h4]
  simp only [ks2, List.mem_cons, List.not_mem_nil, or_false] at hm
  rcases hm with rfl | rfl | rfl | rfl | rfl | rfl | rfl | rfl <;> rfl
theorem RdOk4.s3 : ∀ n, inK ks3 n = true → ρ n = envL q.e3 n := fun n hn => by
  have hm := inK_mem hn
  have h4 : n ∈ ks4 := (by decide : ∀ n, n ∈ ks3 → n ∈ ks4) n hm
  rw [h.env n h4]
  simp only [ks3, List.mem_cons, List.not_mem_nil, or_false] at hm
  rcases hm with rfl | rfl | rfl | rfl | rfl | rfl | rfl | rfl | rfl <;> rfl
theorem RdOk4.n65 : (nE 65).num ρ = laysD q.L := n_iv (show ρ 65 = .int .i64 ((laysD q.L : Nat) : Int) from h.env 65 (by decide)) (by have := h.lays; omega)
theorem RdOk4.p65 : 0 < (nE 65).num ρ := by
  rw [h.n65]
  have := lays_pos q.L
  omega
theorem RdOk4.pcL : Go.Proofs.Ytaidiaiedhbaoaa.pcL.holds ρ := addPC_ok (PC.holds_nil _) (by rw [t_lss, if_pos rfl, n_int]; exact h.p65)
theorem RdOk4.lay : (layT (nE 94) (nE 65)).at ρ 0 = (nE 100).num ρ := DT.at_iv h.pcL (by kernel_rfl) (by rw [DT.low_at h.s1 0 (by kernel_rfl)]; exact h.env 100 (by decide))
theorem RdOk4.eff : effT.at ρ 0 = (nE 101).num ρ := DT.at_iv h.pcL (by kernel_rfl) (by rw [DT.low_at h.s1 0 (by kernel_rfl)]; exact h.env 101 (by decide))
theorem RdOk4.effOk : EffOk ρ := ⟨h.eff, h.h110, h.h111, h.h112, by rw [← h.eff]; exact (DT.at_iv h.pcL (k := 113) (by kernel_rfl) (by rw [DT.low_at h.s1 0 (by kernel_rfl)]; exact h.env 113 (by decide))).symm⟩
theorem RdOk4.base : BaseR ρ := ⟨h.p65, h.lay, h.effOk⟩
theorem RdOk4.lay0 : 0 ≤ (nE 100).num ρ := by
  rw [← h.lay]
  exact (lay_rng h.p65 (by rw [h.n65]; have := h.lays; omega)).1
theorem RdOk4.ixK : idxD (codE.num ρ) (q.L.map cpK) = q.ix := by rw [h.code, idx_map code_cpK]; rfl
theorem RdOk4.find : FindOk ρ (q.L.map cpK) where
  len := by rw [List.length_map]; exact h.small.1
  data := by rw [h.h64, els_list]
  ix := by rw [h.ixK]; exact h.env 95 (by decide)
  code := by rw [h.ixK]; exact h.env 96 (by decide)
  isNil := by
    rw [h.ixK, h.env 97 (by decide)]
    rfl
  lev := by rw [h.ixK]; exact h.env 98 (by decide)
theorem RdOk4.ref : RefOk ρ q.L where
  small := h.small
  data := h.h74
  lays := h.env 65 (by decide)
  ix := by rw [h.code]; exact h.env 95 (by decide)
theorem RdOk4.stepN (hi : q.ix < 0) : StepN ρ where
  sym := by
    refine iv_at (x := 0) ?_ (by omega) (by omega)
    rw [h.env 102 (by decide)]
    show vI q.sym = _
    unfold In.sym
    rw [if_neg (by omega)]
  press j hj := by
    have e : ∀ i o, q.pr i o = o := fun i o => by unfold In.pr; rw [if_neg (by omega)]
    have key : ρ (91 + j) = ρ (103 + j) := by
      match j, hj with
      | 0, _ => rw [h.env 91 (by decide), h.env 103 (by decide)]; show vI q.m.a = vI (q.pr 0 q.m.a); rw [e]
      | 1, _ => rw [h.env 92 (by decide), h.env 104 (by decide)]; show vI q.m.b = vI (q.pr 1 q.m.b); rw [e]
      | 2, _ => rw [h.env 93 (by decide), h.env 105 (by decide)]; show vI q.m.c = vI (q.pr 2 q.m.c); rw [e]
      | 3, _ => rw [h.env 94 (by decide), h.env 106 (by decide)]; show vI q.m.d = vI (q.pr 3 q.m.d); rw [e]
    show (match ρ (91 + j) with | .int _ i => IntKind.wrap .i64 i | _ => 0) = (match ρ (103 + j) with | .int _ i => IntKind.wrap .i64 i | _ => 0)
    rw [key]
  rel := by
    have key : ρ 91 = ρ 107 := by
      rw [h.env 91 (by decide), h.env 107 (by decide)]
      show vI q.m.a = vI q.rl
      unfold In.rl
      rw [if_neg (by omega)]
    show (match ρ 91 with | .int _ i => IntKind.wrap .i64 i | _ => 0) = (match ρ 107 with | .int _ i => IntKind.wrap .i64 i | _ => 0)
    rw [key]
theorem RdOk4.stepK (hi : 0 ≤ q.ix) : StepK ρ where
  lay := h.lay
  eff := h.eff
  sym := DT.at_iv h.pcL (by kernel_rfl) (by
    rw [DT.low_at h.s2 0 (by kernel_rfl), h.env 102 (by decide)]
    show vI q.sym = _
    unfold In.sym
    rw [if_pos hi])
  press i k hk := by
    have e : ∀ i o, q.pr i o = (pressT (firstS (.dvar 98)) (nE 102) (nE 100) (nE 65)).at ρ i := fun i o => by
      unfold In.pr
      rw [if_pos hi, DT.low_at h.s3 i (by kernel_rfl)]
    have at5 : (pressT (firstS (.dvar 98)) (nE 102) (nE 100) (nE 65)).at ρ 4 = (nE 102).num ρ := by
      simp only [pressT, DT.at_node, prB, prL, DT.at_leaf, atL_succ, atL_zero, uI, ite_self]
    match i with
    | 0 => cases hk; exact DT.at_iv h.pcL (by kernel_rfl) (by rw [h.env 103 (by decide)]; show vI (q.pr 0 q.m.a) = _; rw [e])
    | 1 => cases hk; exact DT.at_iv h.pcL (by kernel_rfl) (by rw [h.env 104 (by decide)]; show vI (q.pr 1 q.m.b) = _; rw [e])
    | 2 => cases hk; exact DT.at_iv h.pcL (by kernel_rfl) (by rw [h.env 105 (by decide)]; show vI (q.pr 2 q.m.c) = _; rw [e])
    | 3 => cases hk; exact DT.at_iv h.pcL (by kernel_rfl) (by rw [h.env 106 (by decide)]; show vI (q.pr 3 q.m.d) = _; rw [e])
    | 4 => cases hk; exact at5
    | i + 5 => simp at hk
  rel := DT.at_iv h.pcL (by kernel_rfl) (by
    rw [h.env 107 (by decide)]
    show vI q.rl = _
    unfold In.rl
    rw [if_pos hi, DT.low_at h.s3 0 (by kernel_rfl)])
end
end
end Go.Proofs.Ytaidiaiedhbaoaa

/- A step: all its calls, known. -/
set_option linter.unusedVariables false
set_option linter.unusedSimpArgs false
namespace Go.Proofs.Ytaidiaiedhbaoaa
open Go.Sx Go.ChangeShapes Go.WideShapes Go.ChangeAt Go.RowKit
noncomputable section
theorem row_map (l : List Value) (j : Nat) : elsD (cellD ((l.map cpL).getD j .nilFunc) 0) = elsD (cellD (l.getD j .nilFunc) 0) := by
  rcases Nat.lt_or_ge j l.length with hj | hj
  · rw [getD_map hj]
    exact syms_cpL _
  · rw [List.getD_eq_getElem?_getD, List.getElem?_eq_none (by rw [List.length_map]; exact hj), List.getD_eq_getElem?_getD, List.getElem?_eq_none hj]
theorem getD_mem {l : List Value} {i : Nat} (h : i < l.length) : l.getD i .nilFunc ∈ l := by
  rw [getD_at h]
  exact List.getElem_mem _
section
variable {ρ : Nat → Value} {q : In} (h : RdOk4 ρ q) (hi : 0 ≤ q.ix)
include h hi
theorem RdOk4.lt : q.ix.toNat < q.L.length := by
  have _ := h
  have := (idxD_range q.code q.L).2
  have e : q.ix = idxD q.code q.L := rfl
  omega
theorem RdOk4.row : RowOk (levD (q.L.getD q.ix.toNat .nilFunc)) := keys_ok h.err (h.lt hi)
theorem RdOk4.lvK : elsD ((SE.dvar 98).data ρ) = (levD (q.L.getD q.ix.toNat .nilFunc)).map cpL := by
  show elsD (ρ 98) = _
  rw [h.env 98 (by decide)]
  show elsD (cellD q.key 1) = _
  unfold In.key
  rw [getD_map (h.lt hi)]
  exact lev_cpK _
theorem RdOk4.lvR : elsD (Go.Proofs.Ytaidiaiedhbaoaa.lvR.data ρ) = levD (q.L.getD q.ix.toNat .nilFunc) := by
  have e95 : (nE 95).num ρ = q.ix := by
    have := h.ref.num
    rw [h.code] at this
    exact this
  show elsD (cellD ((elsD (ρ 74)).getD ((nE 95).num ρ).toNat .nilFunc) 1) = _
  rw [e95, h.h74, els_list, getD_map (h.lt hi)]
  exact lev_cpR _
theorem RdOk4.len_eq : (elsD ((SE.dvar 98).data ρ)).length = (elsD (Go.Proofs.Ytaidiaiedhbaoaa.lvR.data ρ)).length := by rw [h.lvK hi, h.lvR hi, List.length_map]
theorem RdOk4.row_eq : ∀ j, elsD (cellD ((elsD ((SE.dvar 98).data ρ)).getD j .nilFunc) 0) = elsD (cellD ((elsD (Go.Proofs.Ytaidiaiedhbaoaa.lvR.data ρ)).getD j .nilFunc) 0) := fun j => by
  rw [h.lvK hi, h.lvR hi]
  exact row_map _ j
theorem RdOk4.row0 : 0 < (elsD ((rowS Go.Proofs.Ytaidiaiedhbaoaa.lvR (i64 0)).data ρ)).length := by
  show 0 < (elsD (cellD ((elsD (Go.Proofs.Ytaidiaiedhbaoaa.lvR.data ρ)).getD _ .nilFunc) 0)).length
  rw [h.lvR hi]
  exact (h.row hi).row
theorem RdOk4.first : 1 ≤ (firstS Go.Proofs.Ytaidiaiedhbaoaa.lvR).num ρ ∧ (firstS Go.Proofs.Ytaidiaiedhbaoaa.lvR).num ρ ≤ 16777223 := by
  have hr := h.row hi
  have e : (firstS Go.Proofs.Ytaidiaiedhbaoaa.lvR).num ρ = numC ((symsD ((levD (q.L.getD q.ix.toNat .nilFunc)).getD 0 .nilFunc)).getD 0 .nilFunc) 0 := by
    show numC ((elsD (cellD ((elsD (Go.Proofs.Ytaidiaiedhbaoaa.lvR.data ρ)).getD _ .nilFunc) 0)).getD _ .nilFunc) 0 = _
    rw [h.lvR hi]
    rfl
  rw [e]
  exact hr.syms _ (getD_mem hr.len) _ (getD_mem hr.row)
theorem RdOk4.first_eq : (firstS (.dvar 98)).num ρ = (firstS Go.Proofs.Ytaidiaiedhbaoaa.lvR).num ρ := symOf_congr (h.row_eq hi) (i64 0) 0
theorem RdOk4.keyR : KeyOk ρ Go.Proofs.Ytaidiaiedhbaoaa.lvR where
  lays := h.p65
  lay := h.lay0
  len := by
    rw [n_dlen, h.lvR hi]
    have := (h.row hi).len
    omega
  row := by
    rw [n_dlen]
    have := h.row0 hi
    omega
  first := (h.first hi).2
theorem RdOk4.keyK : KeyOk ρ (.dvar 98) where
  lays := h.p65
  lay := h.lay0
  len := by
    rw [n_dlen, h.lvK hi, List.length_map]
    have := (h.row hi).len
    omega
  row := by
    rw [rlen_congr (h.row_eq hi), n_dlen]
    have := h.row0 hi
    omega
  first := by
    rw [h.first_eq hi]
    exact (h.first hi).2
theorem RdOk4.stepR : StepR ρ where
  lay := h.lay
  eff := h.effOk
  pos := by
    rw [← (h.stepK hi).sym, sym_congr (h.len_eq hi) (h.row_eq hi)]
    refine sym_pos h.lay0 (h.row0 hi) (fun j hj k hk => ?_)
    rw [h.lvR hi] at hj hk ⊢
    exact ((h.row hi).syms _ (getD_mem hj) _ (getD_mem (l := symsD ((levD (q.L.getD q.ix.toNat .nilFunc)).getD j .nilFunc)) hk)).1
  sym := by rw [← sym_congr (h.len_eq hi) (h.row_eq hi)]; exact (h.stepK hi).sym
  press i k hk := by
    rw [← press_eq (s := nE 102) (h.first_eq hi) (by rw [h.first_eq hi]; exact (h.first hi).2) (fun h1 => by rw [← (h.stepK hi).sym]; exact sym_special h1)]
    exact (h.stepK hi).press i k hk
  rel := by
    rw [← rel_eq (h.first_eq hi) (by rw [h.first_eq hi]; exact (h.first hi).2)]
    exact (h.stepK hi).rel
end
/-- **All calls of a step.** -/
theorem step_known {ρ : Nat → Value} {q : In} (h : RdOk4 ρ q) : ∀ e, e ∈ [eSymK, eSymR, eEffK, eEffR, ePressK, ePressR, eRelK, eRelR] → EntryVOk Try.prog tb.glob ρ e := by
  have hix : idxD (codE.num ρ) (q.L.map cpK) = q.ix := h.ixK
  have hixR : idxD (codE.num ρ) q.L = q.ix := by rw [h.code]; rfl
  have hE := h.effOk
  intro e he
  simp only [List.mem_cons, List.not_mem_nil, or_false] at he
  by_cases hi : 0 ≤ q.ix
  · have h1 : 0 ≤ idxD (codE.num ρ) (q.L.map cpK) := by rw [hix]; exact hi
    have h2 : 0 ≤ idxD (codE.num ρ) q.L := by rw [hixR]; exact hi
    rcases he with rfl | rfl | rfl | rfl | rfl | rfl | rfl | rfl
    · exact symK_T h.find h.h110 h1 (h.keyK hi) (h.stepK hi)
    · exact symR_T h.ref h2 (h.keyR hi) (h.stepR hi)
    · exact effK_at h.eff
    · exact effR_at hE.eff hE.z hE.b hE.n hE.r
    · exact pressK_T h.find h.h110 h1 (h.keyK hi) (h.stepK hi)
    · exact pressR_T h.ref h2 (h.keyR hi) (h.stepR hi)
    · exact relK_T h.find h.h110 h1 (h.keyK hi) (h.stepK hi)
    · exact relR_T h.ref h2 (h.keyR hi) (h.stepR hi)
  · have h0 : q.ix < 0 := by omega
    have h1 : idxD (codE.num ρ) (q.L.map cpK) < 0 := by rw [hix]; exact h0
    have h2 : idxD (codE.num ρ) q.L < 0 := by rw [hixR]; exact h0
    have hn := h.stepN h0
    rcases he with rfl | rfl | rfl | rfl | rfl | rfl | rfl | rfl
    · exact symK_N h.find h.h110 h1 hn
    · exact symR_N h.ref h2 h.base hn.sym
    · exact effK_at h.eff
    · exact effR_at hE.eff hE.z hE.b hE.n hE.r
    · exact pressK_N h.find h.h110 h1 hn
    · exact pressR_N h.ref h2 h.base hn
    · exact relK_N h.find h.h110 h1 hn
    · exact relR_N h.ref h2 h.base hn
end
end Go.Proofs.Ytaidiaiedhbaoaa
