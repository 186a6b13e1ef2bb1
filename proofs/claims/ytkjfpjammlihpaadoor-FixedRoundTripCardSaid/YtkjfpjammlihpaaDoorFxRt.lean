/- FixedRoundTrip: whatever the number, the law returns true. No further conditions. -/
import Derived.Test.YtkjfpjammlihpaaDoorFxY
import Derived.Test.YtkjfpjammlihpaaDoorCards
import Derived.Test.YtkjfpjammlihpaaDoorTie
import Derived.SevenTiedAt
set_option linter.unusedVariables false
namespace Go.Proofs.YtkjfpjammlihpaaDoor
open Go.Sx Go.ChangeShapes Go.WideShapes Go.ChangeAt Go.RowKit Go.Dec

/-! ### What is written is read again -/
theorem fdig_len (r : Nat) : (fdig r).length ≤ 8 := by
  have : ∀ f r, (fdigF f r).length ≤ f := by
    intro f
    induction f with
    | zero => intro r; simp [fdigF]
    | succ f ih =>
      intro r
      unfold fdigF
      split
      · simp
      · have := ih (r * 10 % 256)
        simp only [List.length_cons]
        omega
  exact this 8 r
section
variable {f : Int} (h1 : -2147483648 ≤ f) (h2 : f ≤ 2147483647)
include h1 h2
theorem textF_len : (textF f).length ≤ 1000 := by
  have h := dd_len h1 h2
  have h3 := fdig_len (ab f % 256).toNat
  unfold textF textL
  rw [List.length_append, List.length_append]
  split <;> split <;> simp only [List.length_cons, List.length_nil] <;> omega
theorem parse_text : parseL (textF f) = (f, 0) := by
  have ha := abV h1 h2
  have hz : decide (f < 0) = true → (ab f / 256).toNat ≠ 0 ∨ (ab f % 256).toNat ≠ 0 := by
    intro h
    have h := of_decide_eq_true h
    unfold ab at ha ⊢
    rw [if_pos h] at ha ⊢
    omega
  unfold parseL textF
  rw [read_text _ _ _ (by omega) hz]
  show fitN (decide (f < 0)) ((ab f / 256).toNat * 256 + (ab f % 256).toNat) = _
  have e : (ab f / 256).toNat * 256 + (ab f % 256).toNat = (ab f).toNat := by omega
  rw [e]
  unfold fitN
  by_cases h : f < 0
  · rw [decide_eq_true h, if_pos rfl]
    have : ab f = -f := by unfold ab; rw [if_pos h]
    rw [if_neg (by omega), this]
    refine Prod.ext ?_ rfl
    show -((-f).toNat : Int) = f
    omega
  · rw [decide_eq_false h, if_neg (by simp)]
    have : ab f = f := by unfold ab; rw [if_neg h]
    rw [if_neg (by omega), this]
    refine Prod.ext ?_ rfl
    show (f.toNat : Int) = f
    omega
end

/-! ### The law -/
def eFm : Entry := { f := 11, args := [jv 0], res := xv 1 }
def eRf : Entry := { f := 13, args := [jv 0], res := xv 1 }
def ePs : Entry := { f := 12, args := [xv 1], res := .tuple [jv 0, .val (.int .i64 0)] }
def rhoZ (f : Int) (n : Nat) : Value := if Nat.beq n 0 then .int .i32 f else .string (tx (textF f))
theorem entries_Z {f : Int} (h1 : -2147483648 ≤ f) (h2 : f ≤ 2147483647) : ∀ e, e ∈ [eFm, eRf, ePs] → EntryOk Tryd.prog tb.glob (rhoZ f) e := by
  have e0 : (SE.ivar .i32 0).num (rhoZ f) = f := wid_i32 _ h1 h2
  rw [all_cons, all_cons, all_cons]
  refine ⟨⟨⟨Tryd.f11, Tryd.func11, by kernel_rfl, by kernel_rfl⟩, rfl, rfl, fun q hq => by simp [eFm] at hq, ?_⟩, ⟨⟨Tryd.f13, Tryd.func13, by kernel_rfl, by kernel_rfl⟩, rfl, rfl, fun q hq => by simp [eRf] at hq, ?_⟩,
    ⟨⟨Tryd.f12, Tryd.func12, by kernel_rfl, by kernel_rfl⟩, rfl, rfl, fun q hq => by simp [ePs] at hq, ?_⟩, fun _ h => by simp at h⟩
  · show Fnc _ _ 11 #[Value.int .i32 ((SE.ivar .i32 0).num (rhoZ f))] (.string (tx (textF f)))
    rw [e0]
    exact format_fnc h1 h2
  · show Fnc _ _ 13 #[Value.int .i32 ((SE.ivar .i32 0).num (rhoZ f))] (.string (tx (textF f)))
    rw [e0]
    exact rformat_fnc h1 h2
  · show Fnc _ _ 12 #[.string (tx (textF f))] (pairV ((SE.ivar .i32 0).num (rhoZ f), 0))
    rw [e0, ← parse_text h1 h2]
    exact parse_fnc (textF_len h1 h2)
noncomputable def spZ : Sp := spOf [eFm, eRf, ePs]
theorem exampleZ (ρ : Nat → Value) : isTrue (callX Tryd.prog (tb.atS ρ spZ noLp) 300 14 [] H0) = true := by kernel_rfl
theorem run_law (ρ : Nat → Value) : allTrue (callF kn Tryd.prog (tb.atS ρ spZ noLp) 300 300 [] 3 [jv 0] H0) = true := by kernel_rfl
theorem facts_of {tb : Tb} (h : SpecOk Tryd.prog tb) : FactsOk tb := fun f args r hr q hq => (h.fns f args r hr).2.1 q hq
theorem lawful (xs : List V) (h : TyArgs tb 8 Tryd.f3.params.toList xs) : ∃ ρ sp lp ys m L, SpecOk Tryd.prog (tb.atS ρ sp lp) ∧ SymAll ρ xs ys ∧ call Tryd.prog (tb.atS ρ sp lp) m 3 ys H0 = some L ∧ ∀ r, r ∈ L → TrueV ρ r.1 := by
  obtain ⟨x, _, rfl, hx, rfl⟩ := h
  obtain ⟨a, ex, h0⟩ := Ty.int (k := .i32) (by kernel_rfl) (TyV.cell (by kernel_rfl) hx)
  cases ex
  have h1 : -2147483648 ≤ a := h0.1
  have h2 : a ≤ 2147483647 := h0.2
  have hsym : SymAll (rhoZ a) [.val (.int .i32 a)] [jv 0] := ⟨⟨SymOf.int (wrap_id .i32 _ h0.1 h0.2), id⟩, trivial⟩
  have hsp : SpecOk Tryd.prog (tb.atS (rhoZ a) spZ noLp) := spOf_ok (entries_Z h1 h2)
  obtain ⟨m, L, g1, g2⟩ := all_true (facts_of hsp) (kn_ok (rhoZ a) spZ noLp (exampleZ _)) (PC.holds_nil _) (run_law (rhoZ a))
  exact ⟨rhoZ a, spZ, noLp, _, m, L, hsp, hsym, g1, g2⟩

set_option maxRecDepth 100000 in
theorem lifted (os : Os) (started : os.Started) (H : Type) (enc : TypeId × Value → H) :
    ReturnsInHanded {} Tryd.checked os 3 .any (fun w args => (Rows.fixedRoundTripSpec.pre enc Tryd.prog Tryd.f3 Rows.fixedRoundTripRow.domain false w args ∧ laidMetH Tryd.prog laid w) ∧ sizedMet enc Tryd.prog Tryd.f3 (OpenSpec.ofChange Rows.fixedRoundTripSpec) false w args)
      (Rows.fixedRoundTripSpec.post enc Tryd.prog Tryd.f3 false true false false) :=
  law_lift_laid (C := Tryd.checked) (tb := tb) (n := 8) (t := 4) tb_ok tb_wf laid_plain glob_ok own started (by kernel_rfl) Tryd.func3
    (ChangeSpec.witness_shaped (enc := enc) (C := Tryd.checked) (os := os) (X := fun w _ => laidMetH Tryd.prog laid w) false (World.laidAll Tryd.prog os laid) #[.int .i32 0] 8 (World.laidAll_os _ _ _)
      (World.shaped_of_ZipB (by kernel_rfl) (by kernel_rfl)) (by kernel_rfl) (by kernel_rfl) (by kernel_rfl)
      (by rw [MakeChecks.laidMetH_plain _ _ _ laid_plain]; exact laidMet_laidAll _ (by kernel_rfl) (by kernel_rfl)))
    kids full (by rw [Tryd.params3]; decide +kernel) rfl Tryd.underlying4 rfl (fun ds hds => by
      match ds, hds with
      | [d0], _ => rfl) (by kernel_rfl) lawful

theorem row_holds : Rows.FixedRoundTripSaid :=
  OpenClaim.holds_of_wide 3 Tryd.f3 rfl rfl rfl rfl rfl rfl rfl ⟨rfl, rfl, rfl, rfl, rfl⟩ rfl rfl rfl rfl rfl (by kernel_rfl) Tryd.func3 (by kernel_rfl)
    (of_decide_eq_true (by kernel_rfl)) (by unfold Func.isWrapper; first | (rw [if_pos (by decide +kernel)]; kernel_rfl) | (rw [if_neg (by decide +kernel)]; exact ⟨rfl, rfl⟩))
    (fun os started H enc _ => lifted os started H enc)

theorem round_trip_holds : Rows.FixedRoundTripCardSaid :=
  Claim7.holds_tied_plain_at .later [] [.data, .data, .data] true (true, "d9d01e5c4a8ccec2b3bceb91c29d98b74046b18b82bbb703c71f2fc6c95313d5") false
    row_holds (fun _ h => by cases h) (by kernel_rfl) (fun _ h => by cases h) fixedRoundTrip_row_tie rfl ⟨rfl, rfl⟩ (by kernel_rfl) rfl
    (fun f fn hf hfn => by
      obtain rfl : f = 3 := Option.some.inj ((show Tryd.prog.funcNamed "compositor/compositorlaw06.FixedRoundTrip" = some 3 by kernel_rfl).symm.trans hf) |>.symm
      obtain rfl : fn = Tryd.f3 := (Option.some.inj (Tryd.func3.symm.trans hfn)).symm
      refine ⟨by kernel_rfl, fun j t ht => ?_⟩
      rw [Tryd.params3] at ht
      have hm := Array.mem_of_getElem? ht
      simp at hm
      have hw : ∀ u, u = 3 ∨ u = 9 ∨ u = 21 ∨ u = 35 → Tryd.prog.wantsStandIn u = false := by
        rintro u (rfl | rfl | rfl | rfl)
        · exact (show Tryd.prog.wantsStandIn 3 = false by kernel_rfl)
        · exact (show Tryd.prog.wantsStandIn 9 = false by kernel_rfl)
        · exact (show Tryd.prog.wantsStandIn 21 = false by kernel_rfl)
        · exact (show Tryd.prog.wantsStandIn 35 = false by kernel_rfl)
      exact hw t (by first | (rcases hm with h | h | h <;> simp [h]) | (rcases hm with h | h <;> simp [h]) | simp [hm]))
    (by kernel_rfl)
#print axioms round_trip_holds
end Go.Proofs.YtkjfpjammlihpaaDoor
