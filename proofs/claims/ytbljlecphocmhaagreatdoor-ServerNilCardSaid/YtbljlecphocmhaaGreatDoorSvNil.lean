/- ServerNil: whatever the request, the event, the output and the number, the law returns true. No further conditions. -/
import Derived.Test.YtbljlecphocmhaaGreatDoorSvR
import Derived.Test.YtbljlecphocmhaaGreatDoorSvJ
import Derived.Test.YtbljlecphocmhaaGreatDoorCards
import Derived.Test.YtbljlecphocmhaaGreatDoorTie
import Derived.SevenTiedAt
set_option linter.unusedVariables false
namespace Go.Proofs.YtbljlecphocmhaaGreatDoor
open Go.Sx Go.ChangeShapes Go.WideShapes Go.ChangeAt Go.RowKit

theorem lawful (xs : List V) (h : TyArgs tb 8 Tryz.f3.params.toList xs) : ∃ ρ sp lp ys m L, SpecOk Tryz.prog (tb.atS ρ sp lp) ∧ SymAll ρ xs ys ∧ call Tryz.prog (tb.atS ρ sp lp) m 3 ys H0 = some L ∧ ∀ r, r ∈ L → TrueV ρ r.1 := by
  obtain ⟨x, _, rfl, hx, y, _, rfl, hy, z, _, rfl, hz, v, _, rfl, hv, rfl⟩ := h
  obtain ⟨cs, rfl, hc⟩ := TyV.agg (by kernel_rfl) hx
  obtain ⟨c0, _, rfl, h0, c1, _, rfl, h1, c2, _, rfl, h2, c3, _, rfl, h3, c4, _, rfl, h4, c5, _, rfl, h5, c6, _, rfl, h6, c7, _, rfl, h7, c8, _, rfl, h8, c9, _, rfl, h9, rfl⟩ := Ty.struct (ts := [3, 3, 3, 3, 3, 3, 22, 23, 24, 25]) (by kernel_rfl) hc
  obtain ⟨k0, rfl⟩ := int_of (k := .i64) (by kernel_rfl) h0
  obtain ⟨k1, rfl⟩ := int_of (k := .i64) (by kernel_rfl) h1
  obtain ⟨k2, rfl⟩ := int_of (k := .i64) (by kernel_rfl) h2
  obtain ⟨k3, rfl⟩ := int_of (k := .i64) (by kernel_rfl) h3
  obtain ⟨k4, rfl⟩ := int_of (k := .i64) (by kernel_rfl) h4
  obtain ⟨k5, rfl⟩ := int_of (k := .i64) (by kernel_rfl) h5
  obtain ⟨k6, rfl⟩ := int_of (k := .u32) (by kernel_rfl) h6
  obtain ⟨b7, e7, t7, rfl⟩ := slice_of (e := 119) (by kernel_rfl) h7
  obtain ⟨b8, e8, t8, rfl⟩ := slice_of (e := 58) (by kernel_rfl) h8
  obtain ⟨b9, e9, t9, rfl⟩ := slice_of (e := 9) (by kernel_rfl) h9
  obtain ⟨ds, rfl, hd⟩ := TyV.agg (by kernel_rfl) hy
  obtain ⟨d0, _, rfl, g0, d1, _, rfl, g1, d2, _, rfl, g2, d3, _, rfl, g3, d4, _, rfl, g4, d5, _, rfl, g5, rfl⟩ := Ty.struct (ts := [3, 3, 3, 3, 3, 3]) (by kernel_rfl) hd
  obtain ⟨j0, rfl⟩ := int_of (k := .i64) (by kernel_rfl) g0
  obtain ⟨j1, rfl⟩ := int_of (k := .i64) (by kernel_rfl) g1
  obtain ⟨j2, rfl⟩ := int_of (k := .i64) (by kernel_rfl) g2
  obtain ⟨j3, rfl⟩ := int_of (k := .i64) (by kernel_rfl) g3
  obtain ⟨j4, rfl⟩ := int_of (k := .i64) (by kernel_rfl) g4
  obtain ⟨j5, rfl⟩ := int_of (k := .i64) (by kernel_rfl) g5
  obtain ⟨es, rfl, he⟩ := TyV.agg (by kernel_rfl) hz
  obtain ⟨f0, _, rfl, q0, f1, _, rfl, q1, f2, _, rfl, q2, f3, _, rfl, q3, f4, _, rfl, q4, f5, _, rfl, q5, f6, _, rfl, q6, f7, _, rfl, q7, rfl⟩ := Ty.struct (ts := [9, 3, 3, 3, 3, 3, 3, 3]) (by kernel_rfl) he
  obtain ⟨s, rfl, _⟩ := Ty.string (by kernel_rfl) q0
  obtain ⟨l1, rfl⟩ := int_of (k := .i64) (by kernel_rfl) q1
  obtain ⟨l2, rfl⟩ := int_of (k := .i64) (by kernel_rfl) q2
  obtain ⟨l3, rfl⟩ := int_of (k := .i64) (by kernel_rfl) q3
  obtain ⟨l4, rfl⟩ := int_of (k := .i64) (by kernel_rfl) q4
  obtain ⟨l5, rfl⟩ := int_of (k := .i64) (by kernel_rfl) q5
  obtain ⟨l6, rfl⟩ := int_of (k := .i64) (by kernel_rfl) q6
  obtain ⟨l7, rfl⟩ := int_of (k := .i64) (by kernel_rfl) q7
  obtain ⟨i, ei, _⟩ := Ty.int (k := .i64) (by kernel_rfl) (TyV.cell (by kernel_rfl) hv)
  cases ei
  have hsp : SpecOk Tryz.prog (tb.atS tb.rho tb.spec tb.loopT) := SpecOk.none (fun _ _ => rfl) (fun _ _ => rfl)
  obtain ⟨m, L, g1, g2⟩ := all_true (tb := tb) (fun f args r hr q hq => (hsp.fns f args r hr).2.1 q hq) kn_ok (PC.holds_nil _) (run_law k0 k1 k2 k3 k4 k5 k6 b7 b8 b9 e7 e8 e9 t7 t8 t9 j0 j1 j2 j3 j4 j5 s l1 l2 l3 l4 l5 l6 l7 i)
  exact ⟨tb.rho, tb.spec, tb.loopT, _, m, L, hsp, SymAll.refl _ _, g1, g2⟩

set_option maxRecDepth 100000 in
theorem lifted (os : Os) (started : os.Started) (H : Type) (enc : TypeId × Value → H) :
    ReturnsInHanded {} Tryz.checked os 3 .any (fun w args => (Rows.serverNilSpec.pre enc Tryz.prog Tryz.f3 Rows.serverNilRow.domain false w args ∧ laidMetH Tryz.prog laid w) ∧ sizedMet enc Tryz.prog Tryz.f3 (OpenSpec.ofChange Rows.serverNilSpec) false w args)
      (Rows.serverNilSpec.post enc Tryz.prog Tryz.f3 false true false false) :=
  law_lift_laid (C := Tryz.checked) (tb := tb) (n := 8) (t := 4) tb_ok tb_wf laid_plain glob_ok own started (by kernel_rfl) Tryz.func3
    (ChangeSpec.witness_shaped (enc := enc) (C := Tryz.checked) (os := os) (X := fun w _ => laidMetH Tryz.prog laid w) false (World.laidAll Tryz.prog os laid)
      #[.agg #[.int .i64 0, .int .i64 0, .int .i64 0, .int .i64 0, .int .i64 0, .int .i64 0, .int .u32 0, .slice none 0 0, .slice none 0 0, .slice none 0 0], .agg #[.int .i64 0, .int .i64 0, .int .i64 0, .int .i64 0, .int .i64 0, .int .i64 0],
        .agg #[.string .empty, .int .i64 0, .int .i64 0, .int .i64 0, .int .i64 0, .int .i64 0, .int .i64 0, .int .i64 0], .int .i64 0] 8 (World.laidAll_os _ _ _)
      (World.shaped_of_ZipB (by kernel_rfl) (by kernel_rfl)) (by kernel_rfl) (by kernel_rfl) (by kernel_rfl)
      (by rw [MakeChecks.laidMetH_plain _ _ _ laid_plain]; exact laidMet_laidAll _ (by kernel_rfl) (by kernel_rfl)))
    kids full (by rw [Tryz.params3]; decide +kernel) rfl Tryz.underlying4 rfl (fun ds hds => by
      match ds, hds with
      | [d0, d1, d2, d3], _ => rfl) (by kernel_rfl) lawful

theorem row_holds : Rows.ServerNilSaid :=
  OpenClaim.holds_of_wide 3 Tryz.f3 rfl rfl rfl rfl rfl rfl rfl ⟨rfl, rfl, rfl, rfl, rfl⟩ rfl rfl rfl rfl rfl (by kernel_rfl) Tryz.func3 joined
    (of_decide_eq_true (by kernel_rfl)) (by unfold Func.isWrapper; first | (rw [if_pos (by decide +kernel)]; kernel_rfl) | (rw [if_neg (by decide +kernel)]; exact ⟨rfl, rfl⟩))
    (fun os started H enc _ => lifted os started H enc)

theorem nil_holds : Rows.ServerNilCardSaid :=
  Claim7.holds_tied_plain_at .later [] [.data, .data, .data] true (true, "960ff672d61c6aa85f4db4a83a0a88a1f1ed48943b4c3a5c8a68d4f35507c65c") false
    row_holds (fun _ h => by cases h) (by kernel_rfl) (fun _ h => by cases h) serverNil_row_tie rfl ⟨rfl, rfl⟩ (by kernel_rfl) rfl
    (fun f fn hf hfn => by
      obtain rfl : f = 3 := Option.some.inj ((show Tryz.prog.funcNamed "compositor/compositorlaw47.ServerNil" = some 3 by kernel_rfl).symm.trans hf) |>.symm
      obtain rfl : fn = Tryz.f3 := (Option.some.inj (Tryz.func3.symm.trans hfn)).symm
      refine ⟨by kernel_rfl, fun j t ht => ?_⟩
      rw [Tryz.params3] at ht
      have hm := Array.mem_of_getElem? ht
      simp at hm
      have hw : ∀ u, u = 27 ∨ u = 29 ∨ u = 31 ∨ u = 3 → Tryz.prog.wantsStandIn u = false := by
        rintro u (rfl | rfl | rfl | rfl)
        · exact (show Tryz.prog.wantsStandIn 27 = false by kernel_rfl)
        · exact (show Tryz.prog.wantsStandIn 29 = false by kernel_rfl)
        · exact (show Tryz.prog.wantsStandIn 31 = false by kernel_rfl)
        · exact (show Tryz.prog.wantsStandIn 3 = false by kernel_rfl)
      exact hw t hm)
    (goes_none rfl no_goes)
#print axioms nil_holds
end Go.Proofs.YtbljlecphocmhaaGreatDoor
