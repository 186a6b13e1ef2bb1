/- ClientNil: whatever the step, the law returns true. No further conditions. -/
import Derived.Test.YtehjnpokalknkaaGreatDoorClNilR
import Derived.Test.YtehjnpokalknkaaGreatDoorCards
import Derived.Test.YtehjnpokalknkaaGreatDoorTie
import Derived.SevenTiedAt
set_option linter.unusedVariables false
namespace Go.Proofs.YtehjnpokalknkaaGreatDoor
open Go.Sx Go.ChangeShapes Go.WideShapes Go.ChangeAt Go.RowKit

theorem slice_of {n : Nat} {t e : TypeId} {cs : List V} (hd : tb.desc t = some (.slice e)) (h : Ty tb (n + 1) t cs) : ∃ b es tok, cs = [.list b es tok] := by
  rcases Ty.slice hd h with rfl | ⟨es, rfl, _⟩
  · exact ⟨_, _, _, rfl⟩
  · exact ⟨_, _, _, rfl⟩

theorem lawful (xs : List V) (h : TyArgs tb 8 Tryz.f7.params.toList xs) : ∃ ρ sp ys m L, SpecOk Tryz.prog (tb.atS ρ sp) ∧ SymAll ρ xs ys ∧ call Tryz.prog (tb.atS ρ sp) m 7 ys H0 = some L ∧ ∀ r, r ∈ L → TrueV ρ r.1 := by
  obtain ⟨x, _, rfl, hx, rfl⟩ := h
  obtain ⟨cs, rfl, hc⟩ := TyV.agg (by kernel_rfl) hx
  obtain ⟨c0, _, rfl, h0, c1, _, rfl, h1, c2, _, rfl, h2, c5, _, rfl, h5, c6, _, rfl, h6, c7, _, rfl, h7, c8, _, rfl, h8, c9, _, rfl, h9, rfl⟩ := Ty.struct (ts := [3, 22, 34, 28, 9, 3, 3, 3]) (by kernel_rfl) hc
  obtain ⟨d0, _, rfl, k0, d1, _, rfl, k1, d2, _, rfl, k2, rfl⟩ := Ty.struct (ts := [28, 3, 32]) (by kernel_rfl) h2
  obtain ⟨i0, rfl, _⟩ := Ty.int (k := .i64) (by kernel_rfl) h0
  obtain ⟨b1, e1, t1, rfl⟩ := slice_of (e := 5) (by kernel_rfl) h1
  obtain ⟨i2, rfl, _⟩ := Ty.int (k := .u32) (by kernel_rfl) k0
  obtain ⟨i3, rfl, _⟩ := Ty.int (k := .i64) (by kernel_rfl) k1
  obtain ⟨b4, e4, t4, rfl⟩ := slice_of (e := 54) (by kernel_rfl) k2
  obtain ⟨i5, rfl, _⟩ := Ty.int (k := .u32) (by kernel_rfl) h5
  obtain ⟨s, rfl, _⟩ := Ty.string (by kernel_rfl) h6
  obtain ⟨i7, rfl, _⟩ := Ty.int (k := .i64) (by kernel_rfl) h7
  obtain ⟨i8, rfl, _⟩ := Ty.int (k := .i64) (by kernel_rfl) h8
  obtain ⟨i9, rfl, _⟩ := Ty.int (k := .i64) (by kernel_rfl) h9
  have hrun := run_nil i0 i2 i3 i5 i7 i8 i9 b1 b4 e1 e4 t1 t4 s
  rw [callX_eq] at hrun
  obtain ⟨H', hL⟩ := isTrue_eq hrun
  exact ⟨tb.rho, tb.spec, _, 300, _, SpecOk.none (fun _ _ => rfl), SymAll.refl _ _, hL, fun q hq => by rw [List.mem_singleton.1 hq]; exact .inl rfl⟩

set_option maxRecDepth 100000 in
theorem lifted (os : Os) (started : os.Started) (H : Type) (enc : TypeId × Value → H) :
    ReturnsInHanded {} Tryz.checked os 7 .any (fun w args => (Rows.clientNilSpec.pre enc Tryz.prog Tryz.f7 Rows.clientNilRow.domain false w args ∧ laidMetH Tryz.prog laid w) ∧ sizedMet enc Tryz.prog Tryz.f7 (OpenSpec.ofChange Rows.clientNilSpec) false w args)
      (Rows.clientNilSpec.post enc Tryz.prog Tryz.f7 false true false false) :=
  law_lift_laid (C := Tryz.checked) (tb := tb) (n := 8) (t := 4) tb_ok tb_wf laid_plain glob_ok own started (by kernel_rfl) Tryz.func7
    (ChangeSpec.witness_shaped (enc := enc) (C := Tryz.checked) (os := os) (X := fun w _ => laidMetH Tryz.prog laid w) false (World.laidAll Tryz.prog os laid)
      #[.agg #[.int .i64 0, .slice none 0 0, .int .u32 0, .int .i64 0, .slice none 0 0, .int .u32 0, .string .empty, .int .i64 0, .int .i64 0, .int .i64 0]] 8 (World.laidAll_os _ _ _)
      (World.shaped_of_ZipB (by kernel_rfl) (by kernel_rfl)) (by kernel_rfl) (by kernel_rfl) (by kernel_rfl)
      (by rw [MakeChecks.laidMetH_plain _ _ _ laid_plain]; exact laidMet_laidAll _ (by kernel_rfl) (by kernel_rfl)))
    kids full (by rw [Tryz.params7]; decide +kernel) rfl Tryz.underlying4 rfl (fun ds hds => by
      match ds, hds with
      | [d0], _ => rfl) (by kernel_rfl) lawful

theorem row_holds : Rows.ClientNilSaid :=
  OpenClaim.holds_of_wide 7 Tryz.f7 rfl rfl rfl rfl rfl rfl rfl ⟨rfl, rfl, rfl, rfl, rfl⟩ rfl rfl rfl rfl rfl (by kernel_rfl) Tryz.func7 (by kernel_rfl)
    (of_decide_eq_true (by kernel_rfl)) (by unfold Func.isWrapper; first | (rw [if_pos (by decide +kernel)]; kernel_rfl) | (rw [if_neg (by decide +kernel)]; exact ⟨rfl, rfl⟩))
    (fun os started H enc _ => lifted os started H enc)

theorem nil_holds : Rows.ClientNilCardSaid :=
  Claim7.holds_tied_plain_at .later [] [.data, .data, .pinned] true (true, "d8748249cd4d0500ba2dc8dc4eddfd69f278179928edb9653242c1ecb969d4f2") false
    row_holds (fun _ h => by cases h) (by kernel_rfl) (fun _ h => by cases h) clientNil_row_tie rfl ⟨rfl, rfl⟩ (by kernel_rfl) rfl
    (fun f fn hf hfn => by
      obtain rfl : f = 7 := Option.some.inj ((show Tryz.prog.funcNamed "compositor/compositorlaw46.ClientNil" = some 7 by kernel_rfl).symm.trans hf) |>.symm
      obtain rfl : fn = Tryz.f7 := (Option.some.inj (Tryz.func7.symm.trans hfn)).symm
      refine ⟨by kernel_rfl, fun j t ht => ?_⟩
      rw [Tryz.params7] at ht
      have hm := Array.mem_of_getElem? ht
      simp at hm
      rw [hm]
      exact (show Tryz.prog.wantsStandIn 80 = false by kernel_rfl))
    (goes_none rfl no_goes)
#print axioms nil_holds
end Go.Proofs.YtehjnpokalknkaaGreatDoor
