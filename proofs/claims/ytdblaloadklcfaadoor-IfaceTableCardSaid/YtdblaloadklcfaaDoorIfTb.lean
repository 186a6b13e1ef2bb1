/- IfaceTable: whatever the arguments, the law returns true. No further conditions. -/
import Derived.Test.YtdblaloadklcfaaDoorIfTbR1
import Derived.Test.YtdblaloadklcfaaDoorIfTbR2
import Derived.Test.YtdblaloadklcfaaDoorIfTbR3
import Derived.Test.YtdblaloadklcfaaDoorIfTbR4
import Derived.Test.YtdblaloadklcfaaDoorIfTbR5
import Derived.Test.YtdblaloadklcfaaDoorIfTbR6
import Derived.Test.YtdblaloadklcfaaDoorIfTbR7
import Derived.Test.YtdblaloadklcfaaDoorIfTbR8
import Derived.Test.YtdblaloadklcfaaDoorIfTbR9
import Derived.Test.YtdblaloadklcfaaDoorIfTbR10
import Derived.Test.YtdblaloadklcfaaDoorIfTbR11
import Derived.Test.YtdblaloadklcfaaDoorIfTbR12
import Derived.Test.YtdblaloadklcfaaDoorCards
import Derived.Test.YtdblaloadklcfaaDoorTie
import Derived.SevenTiedAt
set_option linter.unusedVariables false
namespace Go.Proofs.YtdblaloadklcfaaDoor
open Go.Sx Go.ChangeShapes Go.WideShapes Go.ChangeAt Go.RowKit

def ks : List Nat := [2, 2, 1, 2, 1, 13, 6, 3, 2, 8, 6, 4, 3, 2, 2]
theorem tbT_ok : tbT.Ok Tryd.prog := ⟨tb_ok.func, tb_ok.desc, tb_ok.info, tb_ok.mixed⟩
theorem tbT_wf : tbT.Wf := fun f fn c h1 h2 => tb_wf f fn c h1 h2
theorem baseT (ρ : Nat → Value) : SpecOk Tryd.prog (tbT.atS ρ noSp noLp) := SpecOk.none (fun _ _ => rfl) (fun _ _ => rfl)
theorem knT (ρ : Nat → Value) : KnOk kn (call Tryd.prog (tbT.atS ρ noSp noLp) 300) := by
  intro f v hv
  unfold kn at hv
  split at hv
  · rename_i hf
    cases hv
    rw [show f = 13 by simpa using hf]
    have h := exampleT ρ
    rw [callX_eq] at h
    exact ⟨rfl, isTrue_eq h⟩
  · exact absurd hv (by simp)
theorem facts_of {tb : Tb} (h : SpecOk Tryd.prog tb) : FactsOk tb := fun f args r hr q hq => (h.fns f args r hr).2.1 q hq

def rhoT (a b c : Int) (n : Nat) : Value := if Nat.beq n 1 then .int .u8 a else if Nat.beq n 2 then .int .u8 b else .int .u8 c
theorem rem_num {ρ : Nat → Value} {n : Nat} {a : Int} (h : ρ n = .int .u8 a) (h0 : 0 ≤ a) (h1 : a ≤ 255) {m : Int} (hm : 0 < m) : (SE.bin .rem .i64 (.conv .i64 (.ivar .u8 n)) (.int .i64 m)).num ρ = a % m := by
  have e1 : (SE.conv .i64 (.ivar .u8 n)).num ρ = a := by
    simp only [SE.num, SE.all, h]
    rw [wrap_id .u8 a h0 h1]
    exact wrap_id .i64 _ (by show (-9223372036854775808 : Int) ≤ _; omega) (by show _ ≤ (9223372036854775807 : Int); omega)
  have e2 : (SE.int .i64 m).num ρ = m := rfl
  rw [num_bin (n := a.tmod m) (by
    rw [e1, e2]
    have : m ≠ 0 := by omega
    simp [intBin, this])]
  exact Int.tmod_eq_emod_of_nonneg h0

theorem run_all (ρ : Nat → Value) (i x : Nat) (hi : i < 15) (h : x < ks.getD i 0) : runT ρ (pcX i x) = true := by
  match i with
  | 0 =>
    match x with
    | 0 => exact runX0_0 ρ
    | 1 => exact runX0_1 ρ
    | n + 2 => exact absurd h (by show ¬ n + 2 < 2; omega)
  | 1 =>
    match x with
    | 0 => exact runX1_0 ρ
    | 1 => exact runX1_1 ρ
    | n + 2 => exact absurd h (by show ¬ n + 2 < 2; omega)
  | 2 =>
    match x with
    | 0 => exact runX2_0 ρ
    | n + 1 => exact absurd h (by show ¬ n + 1 < 1; omega)
  | 3 =>
    match x with
    | 0 => exact runX3_0 ρ
    | 1 => exact runX3_1 ρ
    | n + 2 => exact absurd h (by show ¬ n + 2 < 2; omega)
  | 4 =>
    match x with
    | 0 => exact runX4_0 ρ
    | n + 1 => exact absurd h (by show ¬ n + 1 < 1; omega)
  | 5 =>
    match x with
    | 0 => exact runX5_0 ρ
    | 1 => exact runX5_1 ρ
    | 2 => exact runX5_2 ρ
    | 3 => exact runX5_3 ρ
    | 4 => exact runX5_4 ρ
    | 5 => exact runX5_5 ρ
    | 6 => exact runX5_6 ρ
    | 7 => exact runX5_7 ρ
    | 8 => exact runX5_8 ρ
    | 9 => exact runX5_9 ρ
    | 10 => exact runX5_10 ρ
    | 11 => exact runX5_11 ρ
    | 12 => exact runX5_12 ρ
    | n + 13 => exact absurd h (by show ¬ n + 13 < 13; omega)
  | 6 =>
    match x with
    | 0 => exact runX6_0 ρ
    | 1 => exact runX6_1 ρ
    | 2 => exact runX6_2 ρ
    | 3 => exact runX6_3 ρ
    | 4 => exact runX6_4 ρ
    | 5 => exact runX6_5 ρ
    | n + 6 => exact absurd h (by show ¬ n + 6 < 6; omega)
  | 7 =>
    match x with
    | 0 => exact runX7_0 ρ
    | 1 => exact runX7_1 ρ
    | 2 => exact runX7_2 ρ
    | n + 3 => exact absurd h (by show ¬ n + 3 < 3; omega)
  | 8 =>
    match x with
    | 0 => exact runX8_0 ρ
    | 1 => exact runX8_1 ρ
    | n + 2 => exact absurd h (by show ¬ n + 2 < 2; omega)
  | 9 =>
    match x with
    | 0 => exact runX9_0 ρ
    | 1 => exact runX9_1 ρ
    | 2 => exact runX9_2 ρ
    | 3 => exact runX9_3 ρ
    | 4 => exact runX9_4 ρ
    | 5 => exact runX9_5 ρ
    | 6 => exact runX9_6 ρ
    | 7 => exact runX9_7 ρ
    | n + 8 => exact absurd h (by show ¬ n + 8 < 8; omega)
  | 10 =>
    match x with
    | 0 => exact runX10_0 ρ
    | 1 => exact runX10_1 ρ
    | 2 => exact runX10_2 ρ
    | 3 => exact runX10_3 ρ
    | 4 => exact runX10_4 ρ
    | 5 => exact runX10_5 ρ
    | n + 6 => exact absurd h (by show ¬ n + 6 < 6; omega)
  | 11 =>
    match x with
    | 0 => exact runX11_0 ρ
    | 1 => exact runX11_1 ρ
    | 2 => exact runX11_2 ρ
    | 3 => exact runX11_3 ρ
    | n + 4 => exact absurd h (by show ¬ n + 4 < 4; omega)
  | 12 =>
    match x with
    | 0 => exact runX12_0 ρ
    | 1 => exact runX12_1 ρ
    | 2 => exact runX12_2 ρ
    | n + 3 => exact absurd h (by show ¬ n + 3 < 3; omega)
  | 13 =>
    match x with
    | 0 => exact runX13_0 ρ
    | 1 => exact runX13_1 ρ
    | n + 2 => exact absurd h (by show ¬ n + 2 < 2; omega)
  | 14 =>
    match x with
    | 0 => exact runX14_0 ρ
    | 1 => exact runX14_1 ρ
    | n + 2 => exact absurd h (by show ¬ n + 2 < 2; omega)
  | n + 15 => exact absurd hi (by omega)
theorem run_out (ρ : Nat → Value) (i : Nat) (hi : i < 15) : runT ρ (pcY i (ks.getD i 0)) = true := by
  match i with
  | 0 => exact runY0 ρ
  | 1 => exact runY1 ρ
  | 2 => exact runY2 ρ
  | 3 => exact runY3 ρ
  | 4 => exact runY4 ρ
  | 5 => exact runY5 ρ
  | 6 => exact runY6 ρ
  | 7 => exact runY7 ρ
  | 8 => exact runY8 ρ
  | 9 => exact runY9 ρ
  | 10 => exact runY10 ρ
  | 11 => exact runY11 ρ
  | 12 => exact runY12 ρ
  | 13 => exact runY13 ρ
  | 14 => exact runY14 ρ
  | n + 15 => exact absurd hi (by omega)

theorem lawful (xs : List V) (h : TyArgs tbT 8 Tryd.f10.params.toList xs) : ∃ ρ sp lp ys m L, SpecOk Tryd.prog (tbT.atS ρ sp lp) ∧ SymAll ρ xs ys ∧ call Tryd.prog (tbT.atS ρ sp lp) m 10 ys H0 = some L ∧ ∀ r, r ∈ L → TrueV ρ r.1 := by
  obtain ⟨x, _, rfl, hx, y, _, rfl, hy, z, _, rfl, hz, rfl⟩ := h
  obtain ⟨a, ea, ha⟩ := Ty.int (k := .u8) (by kernel_rfl) (TyV.cell (by kernel_rfl) hx)
  obtain ⟨b, eb, hb⟩ := Ty.int (k := .u8) (by kernel_rfl) (TyV.cell (by kernel_rfl) hy)
  obtain ⟨c, ec, hc⟩ := Ty.int (k := .u8) (by kernel_rfl) (TyV.cell (by kernel_rfl) hz)
  cases ea
  cases eb
  cases ec
  have ha0 : 0 ≤ a := ha.1
  have ha1 : a ≤ 255 := ha.2
  have hb0 : 0 ≤ b := hb.1
  have hb1 : b ≤ 255 := hb.2
  have r1 : rhoT a b c 1 = .int .u8 a := rfl
  have r2 : rhoT a b c 2 = .int .u8 b := rfl
  have r3 : rhoT a b c 3 = .int .u8 c := rfl
  have hv : ∀ {n : Nat} {i : Int}, rhoT a b c n = .int .u8 i → IntKind.u8.min ≤ i ∧ i ≤ IntKind.u8.max → (SE.ivar .u8 n).num (rhoT a b c) = i := fun {n i} hn hi => by
    simp only [SE.num, SE.all, hn]
    exact wrap_id .u8 _ hi.1 hi.2
  have hsym : SymAll (rhoT a b c) [.val (.int .u8 a), .val (.int .u8 b), .val (.int .u8 c)] args3 :=
    ⟨⟨SymOf.int (hv r1 ha), id⟩, ⟨SymOf.int (hv r2 hb), id⟩, ⟨SymOf.int (hv r3 hc), id⟩, trivial⟩
  have hw : wE.num (rhoT a b c) = a % 15 := rem_num r1 ha0 ha1 (by omega)
  have hxe : xE.num (rhoT a b c) = b % 14 := rem_num r2 hb0 hb1 (by omega)
  have hwi : (SE.cmp .eql wE (.int .i64 (.ofNat (a % 15).toNat))).truth (rhoT a b c) = true := by
    rw [(truth_cmp _ _ _).1, hw]
    show (a % 15 == ((a % 15).toNat : Int)) = true
    simp only [beq_iff_eq]
    omega
  have hbase := baseT (rhoT a b c)
  have hi : (a % 15).toNat < 15 := by omega
  by_cases hk : (b % 14).toNat < ks.getD (a % 15).toNat 0
  · have hx1 : (SE.cmp .eql xE (.int .i64 (.ofNat (b % 14).toNat))).truth (rhoT a b c) = true := by
      rw [(truth_cmp _ _ _).1, hxe]
      show (b % 14 == ((b % 14).toNat : Int)) = true
      simp only [beq_iff_eq]
      omega
    have hp : (pcX (a % 15).toNat (b % 14).toNat).holds (rhoT a b c) := addPC_ok (addPC_ok (PC.holds_nil _) hx1) hwi
    obtain ⟨m, L, e1, e2⟩ := all_true (facts_of hbase) (knT _) hp (run_all (rhoT a b c) (a % 15).toNat (b % 14).toNat hi hk)
    exact ⟨rhoT a b c, noSp, noLp, _, m, L, hbase, hsym, e1, e2⟩
  · have hx1 : (SE.cmp .lss xE (.int .i64 (.ofNat (ks.getD (a % 15).toNat 0)))).truth (rhoT a b c) = false := by
      rw [(truth_cmp _ _ _).2.2.1, hxe]
      show decide (b % 14 < ((ks.getD (a % 15).toNat 0 : Nat) : Int)) = false
      simp only [decide_eq_false_iff_not]
      omega
    have hp : (pcY (a % 15).toNat (ks.getD (a % 15).toNat 0)).holds (rhoT a b c) := addPC_ok (addPC_ok (PC.holds_nil _) hx1) hwi
    obtain ⟨m, L, e1, e2⟩ := all_true (facts_of hbase) (knT _) hp (run_out (rhoT a b c) (a % 15).toNat hi)
    exact ⟨rhoT a b c, noSp, noLp, _, m, L, hbase, hsym, e1, e2⟩

set_option maxRecDepth 100000 in
theorem lifted (os : Os) (started : os.Started) (H : Type) (enc : TypeId × Value → H) :
    ReturnsInHanded {} Tryd.checked os 10 .any (fun w args => (Rows.ifaceTableSpec.pre enc Tryd.prog Tryd.f10 Rows.ifaceTableRow.domain false w args ∧ laidMetH Tryd.prog laid w) ∧ sizedMet enc Tryd.prog Tryd.f10 (OpenSpec.ofChange Rows.ifaceTableSpec) false w args)
      (Rows.ifaceTableSpec.post enc Tryd.prog Tryd.f10 false true false false) :=
  law_lift_laid (C := Tryd.checked) (tb := tbT) (n := 8) (t := 4) tbT_ok tbT_wf laid_plain glob_ok own started (by kernel_rfl) Tryd.func10
    (ChangeSpec.witness_shaped (enc := enc) (C := Tryd.checked) (os := os) (X := fun w _ => laidMetH Tryd.prog laid w) false (World.laidAll Tryd.prog os laid) #[.int .u8 0, .int .u8 0, .int .u8 0] 8 (World.laidAll_os _ _ _)
      (World.shaped_of_ZipB (by kernel_rfl) (by kernel_rfl)) (by kernel_rfl) (by kernel_rfl) (by kernel_rfl)
      (by rw [MakeChecks.laidMetH_plain _ _ _ laid_plain]; exact laidMet_laidAll _ (by kernel_rfl) (by kernel_rfl)))
    kids full (by rw [Tryd.params10]; decide +kernel) rfl Tryd.underlying4 rfl (fun ds hds => by
      match ds, hds with
      | [d0, d1, d2], _ => rfl) (by kernel_rfl) lawful

theorem row_holds : Rows.IfaceTableSaid :=
  OpenClaim.holds_of_wide 10 Tryd.f10 rfl rfl rfl rfl rfl rfl rfl ⟨rfl, rfl, rfl, rfl, rfl⟩ rfl rfl rfl rfl rfl (by kernel_rfl) Tryd.func10 (by kernel_rfl)
    (of_decide_eq_true (by kernel_rfl)) (by unfold Func.isWrapper; first | (rw [if_pos (by decide +kernel)]; kernel_rfl) | (rw [if_neg (by decide +kernel)]; exact ⟨rfl, rfl⟩))
    (fun os started H enc _ => lifted os started H enc)

theorem table_holds : Rows.IfaceTableCardSaid :=
  Claim7.holds_tied_plain_at .later [] [.data, .data, .pinned] true (true, "dcc831f57f73089cd710b1992176d1a6b682de6f82427575c8c19fc73d6bfa77") false
    row_holds (fun _ h => by cases h) (by kernel_rfl) (fun _ h => by cases h) ifaceTable_row_tie rfl ⟨rfl, rfl⟩ (by kernel_rfl) rfl
    (fun f fn hf hfn => by
      obtain rfl : f = 10 := Option.some.inj ((show Tryd.prog.funcNamed "compositor/compositorlaw12.IfaceTable" = some 10 by kernel_rfl).symm.trans hf) |>.symm
      obtain rfl : fn = Tryd.f10 := (Option.some.inj (Tryd.func10.symm.trans hfn)).symm
      refine ⟨by kernel_rfl, fun j t ht => ?_⟩
      rw [Tryd.params10] at ht
      have hm := Array.mem_of_getElem? ht
      simp at hm
      have hw : ∀ u, u = 3 ∨ u = 5 ∨ u = 9 → Tryd.prog.wantsStandIn u = false := by
        rintro u (rfl | rfl | rfl)
        · exact (show Tryd.prog.wantsStandIn 3 = false by kernel_rfl)
        · exact (show Tryd.prog.wantsStandIn 5 = false by kernel_rfl)
        · exact (show Tryd.prog.wantsStandIn 9 = false by kernel_rfl)
      exact hw t (by first | (rcases hm with h | h | h <;> simp [h]) | (rcases hm with h | h <;> simp [h]) | simp [hm]))
    (by kernel_rfl)
#print axioms table_holds
end Go.Proofs.YtdblaloadklcfaaDoor
