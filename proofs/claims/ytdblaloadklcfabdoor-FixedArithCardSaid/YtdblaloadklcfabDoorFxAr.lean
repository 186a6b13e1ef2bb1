/- FixedArith: whatever the arguments, the law returns true. No further conditions. -/
import Derived.Test.YtdblaloadklcfabDoorFxS
import Derived.Test.YtdblaloadklcfabDoorCards
import Derived.Test.YtdblaloadklcfabDoorTie
import Derived.SevenTiedAt
set_option linter.unusedVariables false
namespace Go.Proofs.YtdblaloadklcfabDoor
open Go.Sx Go.ChangeShapes Go.WideShapes Go.ChangeAt Go.RowKit

def pS (n : Nat) : V := .tuple [.sym (.int .i32) (.ivar .i32 n), .sym (.int .i64) (.ivar .i64 (n + 1))]
def xv (i : Int) : V := .val (.int .i64 i)
def eA1 : Entry := { f := 39, args := [is eSum, xv 1, kv 1], res := .tuple [.sym (.int .i32) (.ivar .i32 2), .sym (.int .i64) (.ivar .i64 3)] }
def eA2 : Entry := { f := 23, args := [jv 0, jv 1], res := .tuple [.sym (.int .i32) (.ivar .i32 2), .sym (.int .i64) (.ivar .i64 3)] }
def eM1 : Entry := { f := 39, args := [is eProd, xv 256, kv 1], res := .tuple [.sym (.int .i32) (.ivar .i32 4), .sym (.int .i64) (.ivar .i64 5)] }
def eM2 : Entry := { f := 25, args := [jv 0, jv 1], res := .tuple [.sym (.int .i32) (.ivar .i32 4), .sym (.int .i64) (.ivar .i64 5)] }
def eD1 : Entry := { f := 39, args := [is c0, is c1, kv 256], res := .tuple [.sym (.int .i32) (.ivar .i32 6), .sym (.int .i64) (.ivar .i64 7)] }
def eD2 : Entry := { f := 21, args := [is c0, is c1], res := .tuple [.sym (.int .i32) (.ivar .i32 6), .sym (.int .i64) (.ivar .i64 7)] }
noncomputable def spA : Sp := spOf [eA1, eA2, eM1, eM2]
noncomputable def spB : Sp := spOf [eA1, eA2, eM1, eM2, eD1, eD2]
theorem entry2 {ρ : Nat → Value} {f n : Nat} {args : List V} {p : Int × Int} (hk : ∃ fn, Tryd.prog.funcs[f]? = some fn ∧ (fn.name == "runtime.NumGoroutine") = false ∧ fn.body.isNone = false) (hs : args.all V.isScal = true)
    (h1 : (SE.ivar .i32 n).num ρ = p.1) (h2 : (SE.ivar .i64 (n + 1)).num ρ = p.2) {args' : Array Value} (ha : (args.map (V.at1 ρ)).toArray = args') (hf : Fnc Tryd.prog tb.glob f args' (pairV p)) :
    EntryOk Tryd.prog tb.glob ρ { f := f, args := args, res := .tuple [.sym (.int .i32) (.ivar .i32 n), .sym (.int .i64) (.ivar .i64 (n + 1))] } := by
  refine ⟨hk, hs, rfl, fun q hq => by simp at hq, ?_⟩
  show Fnc _ _ f (args.map (V.at1 ρ)).toArray (pairV ((SE.ivar .i32 n).num ρ, (SE.ivar .i64 (n + 1)).num ρ))
  rw [h1, h2, ha]
  exact hf
theorem rdQ_nonneg {x y : Int} (hx : 0 ≤ x) (hy : 0 < y) : 0 ≤ rdQ x y := by
  have := Int.ediv_nonneg (show 0 ≤ x * 256 by omega) (show 0 ≤ y by omega)
  unfold rdQ
  split <;> omega
section
variable {a b : Int} (h : In32 a b)
include h
theorem entries_A : ∀ e, e ∈ [eA1, eA2, eM1, eM2] → EntryOk Tryd.prog tb.glob (rhoS a b) e := by
  have b1 := fitQ_b (decide (a + b < 0)) (ab (a + b)) (ab_nonneg _)
  have b2 := fitQ_b (negAB a b) ((ab a * ab b + 128) / 256) (by have := h.abP; omega)
  have i1 := h.al; have i2 := h.ah; have i3 := h.bl; have i4 := h.bh
  have pr := h.prod
  have e2 : (SE.ivar .i32 2).num (rhoS a b) = (addP a b).1 := wid_i32 _ b1.1.1 b1.1.2
  have e3 : (SE.ivar .i64 3).num (rhoS a b) = (addP a b).2 := wid_i64 _ (by unfold addP; omega) (by unfold addP; omega)
  have e4 : (SE.ivar .i32 4).num (rhoS a b) = (mulP a b).1 := wid_i32 _ b2.1.1 b2.1.2
  have e5 : (SE.ivar .i64 5).num (rhoS a b) = (mulP a b).2 := wid_i64 _ (by unfold mulP; omega) (by unfold mulP; omega)
  rw [all_cons, all_cons, all_cons, all_cons]
  refine ⟨entry2 (n := 2) known39 rfl e2 e3 (args' := #[.int .i64 (a + b), .int .i64 1, .int .u64 1]) ?_ ?_, entry2 (n := 2) known23 rfl e2 e3 (args32 h) (add_fnc h),
    entry2 (n := 4) known39 rfl e4 e5 (args' := #[.int .i64 (a * b), .int .i64 256, .int .u64 1]) ?_ ?_, entry2 (n := 4) known25 rfl e4 e5 (args32 h) (mulR_fnc h), fun _ h => by simp at h⟩
  · show #[Value.int .i64 (eSum.num (rhoS a b)), Value.int .i64 1, Value.int .u64 1] = _
    rw [nSum h]
  · have := ratio_fnc (a := a + b) (b := 1) (k := 1) ⟨by omega, by omega, by omega, by omega, by omega⟩ (.inl rfl)
    rw [add_same] at this
    exact this
  · show #[Value.int .i64 (eProd.num (rhoS a b)), Value.int .i64 256, Value.int .u64 1] = _
    rw [nProd h]
  · have := ratio_fnc (a := a * b) (b := 256) (k := 1) ⟨by omega, by omega, by omega, by omega, by omega⟩ (.inl rfl)
    rw [mul_same] at this
    exact this
theorem entries_B (hb : b ≠ 0) : ∀ e, e ∈ [eA1, eA2, eM1, eM2, eD1, eD2] → EntryOk Tryd.prog tb.glob (rhoS a b) e := by
  have h0 := entries_A h
  have hi : InF a b := ⟨by have := h.al; omega, by have := h.ah; omega, by have := h.bl; omega, by have := h.bh; omega, hb⟩
  have b3 := fitQ_b (negAB a b) _ (rdQ_nonneg hi.abA.1 hi.abB.1)
  have e6 : (SE.ivar .i32 6).num (rhoS a b) = (divP a b).1 := wid_i32 _ b3.1.1 b3.1.2
  have e7 : (SE.ivar .i64 7).num (rhoS a b) = (divP a b).2 := wid_i64 _ (by unfold divP; omega) (by unfold divP; omega)
  rw [all_cons, all_cons, all_cons, all_cons] at h0 ⊢
  rw [all_cons, all_cons]
  refine ⟨h0.1, h0.2.1, h0.2.2.1, h0.2.2.2.1, entry2 (n := 6) known39 rfl e6 e7 (args' := #[.int .i64 a, .int .i64 b, .int .u64 256]) ?_ (ratio_fnc hi (.inr rfl)), entry2 (n := 6) known21 rfl e6 e7 (args' := #[.int .i64 a, .int .i64 b]) ?_ (fr_fnc hi), fun _ h => by simp at h⟩
  · show #[Value.int .i64 (c0.num (rhoS a b)), Value.int .i64 (c1.num (rhoS a b)), Value.int .u64 256] = _
    rw [nC0 h, nC1 h]
  · show #[Value.int .i64 (c0.num (rhoS a b)), Value.int .i64 (c1.num (rhoS a b))] = _
    rw [nC0 h, nC1 h]
end
theorem exampleA (ρ : Nat → Value) : isTrue (callX Tryd.prog (tb.atS ρ spA noLp) 300 14 [] H0) = true := by kernel_rfl
theorem exampleB (ρ : Nat → Value) : isTrue (callX Tryd.prog (tb.atS ρ spB noLp) 300 14 [] H0) = true := by kernel_rfl
noncomputable def pcA (t : Bool) : PC := addPC (.cmp .eql c1 (.int .i64 0)) t []
theorem runA (ρ : Nat → Value) : allTrue (callF kn Tryd.prog (tb.atS ρ spA noLp) 300 300 (pcA true) 9 [jv 0, jv 1] H0) = true := by kernel_rfl
theorem runB (ρ : Nat → Value) : allTrue (callF kn Tryd.prog (tb.atS ρ spB noLp) 300 300 (pcA false) 9 [jv 0, jv 1] H0) = true := by kernel_rfl
theorem facts_of {tb : Tb} (h : SpecOk Tryd.prog tb) : FactsOk tb := fun f args r hr q hq => (h.fns f args r hr).2.1 q hq

theorem lawful (xs : List V) (h : TyArgs tb 8 Tryd.f9.params.toList xs) : ∃ ρ sp lp ys m L, SpecOk Tryd.prog (tb.atS ρ sp lp) ∧ SymAll ρ xs ys ∧ call Tryd.prog (tb.atS ρ sp lp) m 9 ys H0 = some L ∧ ∀ r, r ∈ L → TrueV ρ r.1 := by
  obtain ⟨x, _, rfl, hx, y, _, rfl, hy, rfl⟩ := h
  obtain ⟨a, ex, h0⟩ := Ty.int (k := .i32) (by kernel_rfl) (TyV.cell (by kernel_rfl) hx)
  cases ex
  obtain ⟨b, ey, h1⟩ := Ty.int (k := .i32) (by kernel_rfl) (TyV.cell (by kernel_rfl) hy)
  cases ey
  have hsym : SymAll (rhoS a b) [.val (.int .i32 a), .val (.int .i32 b)] [jv 0, jv 1] :=
    ⟨⟨SymOf.int (wrap_id .i32 _ h0.1 h0.2), id⟩, ⟨SymOf.int (wrap_id .i32 _ h1.1 h1.2), id⟩, trivial⟩
  have hi : In32 a b := ⟨h0.1, h0.2, h1.1, h1.2⟩
  by_cases hb : b = 0
  · have hp : (pcA true).holds (rhoS a b) := addPC_ok (PC.holds_nil _) (by rw [t_eql, nC1 hi, n_int]; simpa using hb)
    have hsp : SpecOk Tryd.prog (tb.atS (rhoS a b) spA noLp) := spOf_ok (entries_A hi)
    obtain ⟨m, L, g1, g2⟩ := all_true (facts_of hsp) (kn_ok (rhoS a b) spA noLp (exampleA _)) hp (runA (rhoS a b))
    exact ⟨rhoS a b, spA, noLp, _, m, L, hsp, hsym, g1, g2⟩
  · have hp : (pcA false).holds (rhoS a b) := addPC_ok (PC.holds_nil _) (by rw [t_eql, nC1 hi, n_int]; simpa using hb)
    have hsp : SpecOk Tryd.prog (tb.atS (rhoS a b) spB noLp) := spOf_ok (entries_B hi hb)
    obtain ⟨m, L, g1, g2⟩ := all_true (facts_of hsp) (kn_ok (rhoS a b) spB noLp (exampleB _)) hp (runB (rhoS a b))
    exact ⟨rhoS a b, spB, noLp, _, m, L, hsp, hsym, g1, g2⟩

set_option maxRecDepth 100000 in
theorem lifted (os : Os) (started : os.Started) (H : Type) (enc : TypeId × Value → H) :
    ReturnsInHanded {} Tryd.checked os 9 .any (fun w args => (Rows.fixedArithSpec.pre enc Tryd.prog Tryd.f9 Rows.fixedArithRow.domain false w args ∧ laidMetH Tryd.prog laid w) ∧ sizedMet enc Tryd.prog Tryd.f9 (OpenSpec.ofChange Rows.fixedArithSpec) false w args)
      (Rows.fixedArithSpec.post enc Tryd.prog Tryd.f9 false true false false) :=
  law_lift_laid (C := Tryd.checked) (tb := tb) (n := 8) (t := 4) tb_ok tb_wf laid_plain glob_ok own started (by kernel_rfl) Tryd.func9
    (ChangeSpec.witness_shaped (enc := enc) (C := Tryd.checked) (os := os) (X := fun w _ => laidMetH Tryd.prog laid w) false (World.laidAll Tryd.prog os laid) #[.int .i32 0, .int .i32 0] 8 (World.laidAll_os _ _ _)
      (World.shaped_of_ZipB (by kernel_rfl) (by kernel_rfl)) (by kernel_rfl) (by kernel_rfl) (by kernel_rfl)
      (by rw [MakeChecks.laidMetH_plain _ _ _ laid_plain]; exact laidMet_laidAll _ (by kernel_rfl) (by kernel_rfl)))
    kids full (by rw [Tryd.params9]; decide +kernel) rfl Tryd.underlying4 rfl (fun ds hds => by
      match ds, hds with
      | [d0, d1], _ => rfl) (by kernel_rfl) lawful

theorem row_holds : Rows.FixedArithSaid :=
  OpenClaim.holds_of_wide 9 Tryd.f9 rfl rfl rfl rfl rfl rfl rfl ⟨rfl, rfl, rfl, rfl, rfl⟩ rfl rfl rfl rfl rfl (by kernel_rfl) Tryd.func9 (by kernel_rfl)
    (of_decide_eq_true (by kernel_rfl)) (by unfold Func.isWrapper; first | (rw [if_pos (by decide +kernel)]; kernel_rfl) | (rw [if_neg (by decide +kernel)]; exact ⟨rfl, rfl⟩))
    (fun os started H enc _ => lifted os started H enc)

theorem arith_holds : Rows.FixedArithCardSaid :=
  Claim7.holds_tied_plain_at .later [] [.data, .data, .data] true (true, "d9d01e5c4a8ccec2b3bceb91c29d98b74046b18b82bbb703c71f2fc6c95313d5") false
    row_holds (fun _ h => by cases h) (by kernel_rfl) (fun _ h => by cases h) fixedArith_row_tie rfl ⟨rfl, rfl⟩ (by kernel_rfl) rfl
    (fun f fn hf hfn => by
      obtain rfl : f = 9 := Option.some.inj ((show Tryd.prog.funcNamed "compositor/compositorlaw06.FixedArith" = some 9 by kernel_rfl).symm.trans hf) |>.symm
      obtain rfl : fn = Tryd.f9 := (Option.some.inj (Tryd.func9.symm.trans hfn)).symm
      refine ⟨by kernel_rfl, fun j t ht => ?_⟩
      rw [Tryd.params9] at ht
      have hm := Array.mem_of_getElem? ht
      simp at hm
      have hw : ∀ u, u = 3 ∨ u = 9 ∨ u = 21 ∨ u = 35 → Tryd.prog.wantsStandIn u = false := by
        rintro u (rfl | rfl | rfl | rfl)
        · exact (show Tryd.prog.wantsStandIn 3 = false by kernel_rfl)
        · exact (show Tryd.prog.wantsStandIn 9 = false by kernel_rfl)
        · exact (show Tryd.prog.wantsStandIn 21 = false by kernel_rfl)
        · exact (show Tryd.prog.wantsStandIn 35 = false by kernel_rfl)
      exact hw t (by first | (rcases hm with h | h | h <;> simp [h]) | (rcases hm with h | h <;> simp [h]) | simp [hm]))
    (by kernel_rfl)
#print axioms arith_holds
end Go.Proofs.YtdblaloadklcfabDoor
