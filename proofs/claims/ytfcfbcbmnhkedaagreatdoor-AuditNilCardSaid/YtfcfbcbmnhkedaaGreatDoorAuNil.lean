/- AuditNil: whatever the delivery, the law returns true. No further conditions. -/
import Derived.Test.YtfcfbcbmnhkedaaGreatDoorAuR
import Derived.Test.YtfcfbcbmnhkedaaGreatDoorAuJ
import Derived.Test.YtfcfbcbmnhkedaaGreatDoorCards
import Derived.Test.YtfcfbcbmnhkedaaGreatDoorTie
import Derived.SevenTiedAt
set_option linter.unusedVariables false
namespace Go.Proofs.YtfcfbcbmnhkedaaGreatDoor
open Go.Sx Go.ChangeShapes Go.WideShapes Go.ChangeAt Go.RowKit

theorem lawful (xs : List V) (h : TyArgs tb 8 Tryz.f3.params.toList xs) : ∃ ρ sp lp ys m L, SpecOk Tryz.prog (tb.atS ρ sp lp) ∧ SymAll ρ xs ys ∧ call Tryz.prog (tb.atS ρ sp lp) m 3 ys H0 = some L ∧ ∀ r, r ∈ L → TrueV ρ r.1 := by
  obtain ⟨x, _, rfl, hx, rfl⟩ := h
  obtain ⟨cs, rfl, hc⟩ := TyV.agg (by kernel_rfl) hx
  obtain ⟨c0, _, rfl, h0, c1, _, rfl, h1, c2, _, rfl, h2, c3, _, rfl, h3, c4, _, rfl, h4, c5, _, rfl, h5, c6, _, rfl, h6, c7, _, rfl, h7, c8, _, rfl, h8, rfl⟩ := Ty.struct (ts := [3, 3, 3, 3, 3, 3, 3, 3, 22]) (by kernel_rfl) hc
  obtain ⟨k0, rfl⟩ := int_of (k := .i64) (by kernel_rfl) h0
  obtain ⟨k1, rfl⟩ := int_of (k := .i64) (by kernel_rfl) h1
  obtain ⟨k2, rfl⟩ := int_of (k := .i64) (by kernel_rfl) h2
  obtain ⟨k3, rfl⟩ := int_of (k := .i64) (by kernel_rfl) h3
  obtain ⟨k4, rfl⟩ := int_of (k := .i64) (by kernel_rfl) h4
  obtain ⟨k5, rfl⟩ := int_of (k := .i64) (by kernel_rfl) h5
  obtain ⟨k6, rfl⟩ := int_of (k := .i64) (by kernel_rfl) h6
  obtain ⟨k7, rfl⟩ := int_of (k := .i64) (by kernel_rfl) h7
  obtain ⟨k8, rfl⟩ := int_of (k := .u32) (by kernel_rfl) h8
  have hsp : SpecOk Tryz.prog (tb.atS tb.rho tb.spec tb.loopT) := SpecOk.none (fun _ _ => rfl) (fun _ _ => rfl)
  obtain ⟨m, L, g1, g2⟩ := all_true (tb := tb) (fun f args r hr q hq => (hsp.fns f args r hr).2.1 q hq) kn_ok (PC.holds_nil _) (run_law k0 k1 k2 k3 k4 k5 k6 k7 k8)
  exact ⟨tb.rho, tb.spec, tb.loopT, _, m, L, hsp, SymAll.refl _ _, g1, g2⟩

set_option maxRecDepth 100000 in
theorem lifted (os : Os) (started : os.Started) (H : Type) (enc : TypeId × Value → H) :
    ReturnsInHanded {} Tryz.checked os 3 .any (fun w args => (Rows.auditNilSpec.pre enc Tryz.prog Tryz.f3 Rows.auditNilRow.domain false w args ∧ laidMetH Tryz.prog laid w) ∧ sizedMet enc Tryz.prog Tryz.f3 (OpenSpec.ofChange Rows.auditNilSpec) false w args)
      (Rows.auditNilSpec.post enc Tryz.prog Tryz.f3 false true false false) :=
  law_lift_laid (C := Tryz.checked) (tb := tb) (n := 8) (t := 4) tb_ok tb_wf laid_plain glob_ok own started (by kernel_rfl) Tryz.func3
    (ChangeSpec.witness_shaped (enc := enc) (C := Tryz.checked) (os := os) (X := fun w _ => laidMetH Tryz.prog laid w) false (World.laidAll Tryz.prog os laid)
      #[.agg #[.int .i64 0, .int .i64 0, .int .i64 0, .int .i64 0, .int .i64 0, .int .i64 0, .int .i64 0, .int .i64 0, .int .u32 0]] 8 (World.laidAll_os _ _ _)
      (World.shaped_of_ZipB (by kernel_rfl) (by kernel_rfl)) (by kernel_rfl) (by kernel_rfl) (by kernel_rfl)
      (by rw [MakeChecks.laidMetH_plain _ _ _ laid_plain]; exact laidMet_laidAll _ (by kernel_rfl) (by kernel_rfl)))
    kids full (by rw [Tryz.params3]; decide +kernel) rfl Tryz.underlying4 rfl (fun ds hds => by
      match ds, hds with
      | [d0], _ => rfl) (by kernel_rfl) lawful

theorem row_holds : Rows.AuditNilSaid :=
  OpenClaim.holds_of_wide 3 Tryz.f3 rfl rfl rfl rfl rfl rfl rfl ⟨rfl, rfl, rfl, rfl, rfl⟩ rfl rfl rfl rfl rfl (by kernel_rfl) Tryz.func3 joined
    (of_decide_eq_true (by kernel_rfl)) (by unfold Func.isWrapper; first | (rw [if_pos (by decide +kernel)]; kernel_rfl) | (rw [if_neg (by decide +kernel)]; exact ⟨rfl, rfl⟩))
    (fun os started H enc _ => lifted os started H enc)

theorem nil_holds : Rows.AuditNilCardSaid :=
  Claim7.holds_tied_plain_at .later [] [.data, .data, .data] true (true, "76e3301ca9c2a5f25af9198a9e5a9bd1247dd607784eda45668081094e520f03") false
    row_holds (fun _ h => by cases h) (by kernel_rfl) (fun _ h => by cases h) auditNil_row_tie rfl ⟨rfl, rfl⟩ (by kernel_rfl) rfl
    (fun f fn hf hfn => by
      obtain rfl : f = 3 := Option.some.inj ((show Tryz.prog.funcNamed "compositor/compositorlaw50.AuditNil" = some 3 by kernel_rfl).symm.trans hf) |>.symm
      obtain rfl : fn = Tryz.f3 := (Option.some.inj (Tryz.func3.symm.trans hfn)).symm
      refine ⟨by kernel_rfl, fun j t ht => ?_⟩
      rw [Tryz.params3] at ht
      have hm := Array.mem_of_getElem? ht
      simp at hm
      rw [hm]
      exact (show Tryz.prog.wantsStandIn 24 = false by kernel_rfl))
    (goes_none rfl no_goes)
#print axioms nil_holds
end Go.Proofs.YtfcfbcbmnhkedaaGreatDoor
