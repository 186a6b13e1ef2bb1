/- FixedRatio: whatever the arguments, the law returns true. No further conditions. -/
import Derived.Test.YtdblaloadklcfabDoorFxQ
import Derived.Test.YtdblaloadklcfabDoorCards
import Derived.Test.YtdblaloadklcfabDoorTie
import Derived.SevenTiedAt
set_option linter.unusedVariables false
namespace Go.Proofs.YtdblaloadklcfabDoor
open Go.Sx Go.ChangeShapes Go.WideShapes Go.ChangeAt Go.RowKit

def pR : V := .tuple [.sym (.int .i32) (.ivar .i32 2), .sym (.int .i64) (.ivar .i64 3)]
def eRat : Entry := { f := 39, args := [iv 0, iv 1, kv 256], res := pR }
def eRef : Entry := { f := 21, args := [iv 0, iv 1], res := pR }
def rhoT (a b : Int) (n : Nat) : Value :=
  match n with
  | 0 => .int .i64 a
  | 1 => .int .i64 b
  | 2 => .int .i32 (fitQ (negAB a b) (rdQ (ab a) (ab b))).1
  | _ => .int .i64 (fitQ (negAB a b) (rdQ (ab a) (ab b))).2
theorem known39 : ∃ fn, Tryd.prog.funcs[39]? = some fn ∧ (fn.name == "runtime.NumGoroutine") = false ∧ fn.body.isNone = false := ⟨Tryd.f39, Tryd.func39, by kernel_rfl, by kernel_rfl⟩
theorem known21 : ∃ fn, Tryd.prog.funcs[21]? = some fn ∧ (fn.name == "runtime.NumGoroutine") = false ∧ fn.body.isNone = false := ⟨Tryd.f21, Tryd.func21, by kernel_rfl, by kernel_rfl⟩
theorem fitQ_fits (neg : Bool) (q : Int) (h : 0 ≤ q) : (-2147483648 ≤ (fitQ neg q).1 ∧ (fitQ neg q).1 ≤ 2147483647) ∧ 0 ≤ (fitQ neg q).2 ∧ (fitQ neg q).2 ≤ 6 := by
  unfold fitQ
  split <;> split <;> simp only <;> omega
theorem rdQ_nonneg {x y : Int} (hx : 0 ≤ x) (hy : 0 < y) : 0 ≤ rdQ x y := by
  have := Int.ediv_nonneg (show 0 ≤ x * 256 by omega) (show 0 ≤ y by omega)
  unfold rdQ
  split <;> omega
theorem entries_T {a b : Int} (h : InF a b) : ∀ e, e ∈ [eRat, eRef] → EntryOk Tryd.prog tb.glob (rhoT a b) e := by
  have hb := fitQ_fits (negAB a b) _ (rdQ_nonneg h.abA.1 h.abB.1)
  have e0 : (SE.ivar .i64 0).num (rhoT a b) = a := wid_i64 _ h.al h.ah
  have e1 : (SE.ivar .i64 1).num (rhoT a b) = b := wid_i64 _ h.bl h.bh
  have e2 : (SE.ivar .i32 2).num (rhoT a b) = (fitQ (negAB a b) (rdQ (ab a) (ab b))).1 := wid_i32 _ hb.1.1 hb.1.2
  have e3 : (SE.ivar .i64 3).num (rhoT a b) = (fitQ (negAB a b) (rdQ (ab a) (ab b))).2 := wid_i64 _ (by omega) (by omega)
  rw [all_cons, all_cons]
  refine ⟨⟨known39, rfl, rfl, fun q hq => by simp [eRat] at hq, ?_⟩, ⟨known21, rfl, rfl, fun q hq => by simp [eRef] at hq, ?_⟩, fun _ h => by simp at h⟩
  · show Fnc _ _ 39 #[Value.int .i64 ((SE.ivar .i64 0).num (rhoT a b)), Value.int .i64 ((SE.ivar .i64 1).num (rhoT a b)), Value.int .u64 256] (pairV ((SE.ivar .i32 2).num (rhoT a b), (SE.ivar .i64 3).num (rhoT a b)))
    rw [e0, e1, e2, e3]
    exact ratio_fnc h (.inr rfl)
  · show Fnc _ _ 21 #[Value.int .i64 ((SE.ivar .i64 0).num (rhoT a b)), Value.int .i64 ((SE.ivar .i64 1).num (rhoT a b))] (pairV ((SE.ivar .i32 2).num (rhoT a b), (SE.ivar .i64 3).num (rhoT a b)))
    rw [e0, e1, e2, e3]
    exact fr_fnc h
noncomputable def spT : Sp := spOf [eRat, eRef]
theorem exampleT (ρ : Nat → Value) : isTrue (callX Tryd.prog (tb.atS ρ spT noLp) 300 14 [] H0) = true := by kernel_rfl
noncomputable def pcT (t : Bool) : PC := addPC (.cmp .eql (.ivar .i64 1) (.int .i64 0)) t []
theorem runT0 (ρ : Nat → Value) : allTrue (callF kn Tryd.prog (tb.atS ρ noSp noLp) 300 300 (pcT true) 6 [iv 0, iv 1] H0) = true := by kernel_rfl
theorem runT1 (ρ : Nat → Value) : allTrue (callF kn Tryd.prog (tb.atS ρ spT noLp) 300 300 (pcT false) 6 [iv 0, iv 1] H0) = true := by kernel_rfl
theorem facts_of {tb : Tb} (h : SpecOk Tryd.prog tb) : FactsOk tb := fun f args r hr q hq => (h.fns f args r hr).2.1 q hq

theorem lawful (xs : List V) (h : TyArgs tb 8 Tryd.f6.params.toList xs) : ∃ ρ sp lp ys m L, SpecOk Tryd.prog (tb.atS ρ sp lp) ∧ SymAll ρ xs ys ∧ call Tryd.prog (tb.atS ρ sp lp) m 6 ys H0 = some L ∧ ∀ r, r ∈ L → TrueV ρ r.1 := by
  obtain ⟨x, _, rfl, hx, y, _, rfl, hy, rfl⟩ := h
  obtain ⟨a, ex, h0⟩ := Ty.int (k := .i64) (by kernel_rfl) (TyV.cell (by kernel_rfl) hx)
  cases ex
  obtain ⟨b, ey, h1⟩ := Ty.int (k := .i64) (by kernel_rfl) (TyV.cell (by kernel_rfl) hy)
  cases ey
  have hsym : SymAll (rhoT a b) [.val (.int .i64 a), .val (.int .i64 b)] [iv 0, iv 1] :=
    ⟨⟨SymOf.int (wrap_id .i64 _ h0.1 h0.2), id⟩, ⟨SymOf.int (wrap_id .i64 _ h1.1 h1.2), id⟩, trivial⟩
  have e1 : (SE.ivar .i64 1).num (rhoT a b) = b := wrap_id .i64 _ h1.1 h1.2
  by_cases hb : b = 0
  · have hp : (pcT true).holds (rhoT a b) := addPC_ok (PC.holds_nil _) (by rw [t_eql, e1, n_int]; simpa using hb)
    have hsp := base_ok (rhoT a b)
    obtain ⟨m, L, g1, g2⟩ := all_true (facts_of hsp) (kn_ok (rhoT a b) noSp noLp (example_run _)) hp (runT0 (rhoT a b))
    exact ⟨rhoT a b, noSp, noLp, _, m, L, hsp, hsym, g1, g2⟩
  · have hp : (pcT false).holds (rhoT a b) := addPC_ok (PC.holds_nil _) (by rw [t_eql, e1, n_int]; simpa using hb)
    have hsp : SpecOk Tryd.prog (tb.atS (rhoT a b) spT noLp) := spOf_ok (entries_T ⟨h0.1, h0.2, h1.1, h1.2, hb⟩)
    obtain ⟨m, L, g1, g2⟩ := all_true (facts_of hsp) (kn_ok (rhoT a b) spT noLp (exampleT _)) hp (runT1 (rhoT a b))
    exact ⟨rhoT a b, spT, noLp, _, m, L, hsp, hsym, g1, g2⟩

set_option maxRecDepth 100000 in
theorem lifted (os : Os) (started : os.Started) (H : Type) (enc : TypeId × Value → H) :
    ReturnsInHanded {} Tryd.checked os 6 .any (fun w args => (Rows.fixedRatioSpec.pre enc Tryd.prog Tryd.f6 Rows.fixedRatioRow.domain false w args ∧ laidMetH Tryd.prog laid w) ∧ sizedMet enc Tryd.prog Tryd.f6 (OpenSpec.ofChange Rows.fixedRatioSpec) false w args)
      (Rows.fixedRatioSpec.post enc Tryd.prog Tryd.f6 false true false false) :=
  law_lift_laid (C := Tryd.checked) (tb := tb) (n := 8) (t := 4) tb_ok tb_wf laid_plain glob_ok own started (by kernel_rfl) Tryd.func6
    (ChangeSpec.witness_shaped (enc := enc) (C := Tryd.checked) (os := os) (X := fun w _ => laidMetH Tryd.prog laid w) false (World.laidAll Tryd.prog os laid) #[.int .i64 0, .int .i64 0] 8 (World.laidAll_os _ _ _)
      (World.shaped_of_ZipB (by kernel_rfl) (by kernel_rfl)) (by kernel_rfl) (by kernel_rfl) (by kernel_rfl)
      (by rw [MakeChecks.laidMetH_plain _ _ _ laid_plain]; exact laidMet_laidAll _ (by kernel_rfl) (by kernel_rfl)))
    kids full (by rw [Tryd.params6]; decide +kernel) rfl Tryd.underlying4 rfl (fun ds hds => by
      match ds, hds with
      | [d0, d1], _ => rfl) (by kernel_rfl) lawful

theorem row_holds : Rows.FixedRatioSaid :=
  OpenClaim.holds_of_wide 6 Tryd.f6 rfl rfl rfl rfl rfl rfl rfl ⟨rfl, rfl, rfl, rfl, rfl⟩ rfl rfl rfl rfl rfl (by kernel_rfl) Tryd.func6 (by kernel_rfl)
    (of_decide_eq_true (by kernel_rfl)) (by unfold Func.isWrapper; first | (rw [if_pos (by decide +kernel)]; kernel_rfl) | (rw [if_neg (by decide +kernel)]; exact ⟨rfl, rfl⟩))
    (fun os started H enc _ => lifted os started H enc)

theorem ratio_holds : Rows.FixedRatioCardSaid :=
  Claim7.holds_tied_plain_at .later [] [.data, .data, .data] true (true, "d9d01e5c4a8ccec2b3bceb91c29d98b74046b18b82bbb703c71f2fc6c95313d5") false
    row_holds (fun _ h => by cases h) (by kernel_rfl) (fun _ h => by cases h) fixedRatio_row_tie rfl ⟨rfl, rfl⟩ (by kernel_rfl) rfl
    (fun f fn hf hfn => by
      obtain rfl : f = 6 := Option.some.inj ((show Tryd.prog.funcNamed "compositor/compositorlaw06.FixedRatio" = some 6 by kernel_rfl).symm.trans hf) |>.symm
      obtain rfl : fn = Tryd.f6 := (Option.some.inj (Tryd.func6.symm.trans hfn)).symm
      refine ⟨by kernel_rfl, fun j t ht => ?_⟩
      rw [Tryd.params6] at ht
      have hm := Array.mem_of_getElem? ht
      simp at hm
      have hw : ∀ u, u = 3 ∨ u = 9 ∨ u = 21 ∨ u = 35 → Tryd.prog.wantsStandIn u = false := by
        rintro u (rfl | rfl | rfl | rfl)
        · exact (show Tryd.prog.wantsStandIn 3 = false by kernel_rfl)
        · exact (show Tryd.prog.wantsStandIn 9 = false by kernel_rfl)
        · exact (show Tryd.prog.wantsStandIn 21 = false by kernel_rfl)
        · exact (show Tryd.prog.wantsStandIn 35 = false by kernel_rfl)
      exact hw t (by first | (rcases hm with h | h | h <;> simp [h]) | (rcases hm with h | h <;> simp [h]) | simp [hm]))
    (by kernel_rfl)
#print axioms ratio_holds
end Go.Proofs.YtdblaloadklcfabDoor
