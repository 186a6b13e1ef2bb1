/- KeymapLatch: whatever the list of keys, the law returns true. No further conditions. -/
import Derived.Test.YtaidiaiedhbaoaaKLatL
import Derived.Test.YtaidiaiedhbaoaaKLatB
import Derived.Test.YtaidiaiedhbaoaaKLatR1
import Derived.Test.YtaidiaiedhbaoaaKLatR2
import Derived.Test.YtaidiaiedhbaoaaKLatR3
import Derived.Test.YtaidiaiedhbaoaaKLatR4
import Derived.Test.YtaidiaiedhbaoaaKLatR5
import Derived.Test.YtaidiaiedhbaoaaKLatR6
import Derived.Test.YtaidiaiedhbaoaaKLatR7
import Derived.Test.YtaidiaiedhbaoaaKLatR8
import Derived.Test.YtaidiaiedhbaoaaKLatR9
import Derived.Test.YtaidiaiedhbaoaaKLatR10
import Derived.Test.YtaidiaiedhbaoaaKLatR11
import Derived.Test.YtaidiaiedhbaoaaKLatR12
import Derived.Test.YtaidiaiedhbaoaaRows
set_option linter.unusedVariables false
namespace Go.Proofs.Ytaidiaiedhbaoaa
open Go.Sx

theorem run_all (ρ : Nat → Value) (n : Nat) (h : n ≤ 18) : runK ρ n = true := by
  match n, h with
  | 0, _ => exact run0 ρ
  | 1, _ => exact run1 ρ
  | 2, _ => exact run2 ρ
  | 3, _ => exact run3 ρ
  | 4, _ => exact run4 ρ
  | 5, _ => exact run5 ρ
  | 6, _ => exact run6 ρ
  | 7, _ => exact run7 ρ
  | 8, _ => exact run8 ρ
  | 9, _ => exact run9 ρ
  | 10, _ => exact run10 ρ
  | 11, _ => exact run11 ρ
  | 12, _ => exact run12 ρ
  | 13, _ => exact run13 ρ
  | 14, _ => exact run14 ρ
  | 15, _ => exact run15 ρ
  | 16, _ => exact run16 ρ
  | 17, _ => exact run17 ρ
  | 18, _ => exact run18 ρ
  | n + 19, h => exact absurd h (by omega)
theorem fct_cases (ρ : Nat → Value) (j : Nat) : (fct j 0).truth ρ = true ∨ (fct j 1).truth ρ = true ∨ (fct j 2).truth ρ = true := by
  have hb := v_bounds ρ .u8 j
  have h0 : 0 ≤ (SE.ivar .u8 j).num ρ := hb.1
  unfold fct
  have e : (SE.bin .rem .u8 (.ivar .u8 j) (.int .u8 3)).num ρ = (SE.ivar .u8 j).num ρ % 3 := by
    rw [n_rem, if_neg (show ¬ ((SE.int .u8 3).num ρ = 0) by rw [n_int]; decide), n_int, Int.tmod_eq_emod_of_nonneg h0]
  rw [t_eql, t_eql, t_eql, e]
  generalize (SE.ivar .u8 j).num ρ = v at h0 ⊢
  show (if true = true then v % 3 = 0 else _) ∨ (if true = true then v % 3 = 1 else _) ∨ (if true = true then v % 3 = 2 else _)
  simp only [reduceIte]
  clear hb e
  omega
/-- Some facts hold, under which the law's run is true. -/
theorem run_some (ρ : Nat → Value) (n : Nat) (h : n ≤ 20) : ∃ pc : PC, pc.holds ρ ∧ runP ρ pc n = true := by
  by_cases h18 : n ≤ 18
  · exact ⟨[], PC.holds_nil _, run_all ρ n h18⟩
  · have hn : n = 19 ∨ n = 20 := by omega
    rcases hn with rfl | rfl
    · rcases fct_cases ρ 0 with h | h | h
      · exact ⟨pc1 0, addPC_ok (PC.holds_nil _) h, run19_0 ρ⟩
      · exact ⟨pc1 1, addPC_ok (PC.holds_nil _) h, run19_1 ρ⟩
      · exact ⟨pc1 2, addPC_ok (PC.holds_nil _) h, run19_2 ρ⟩
    · rcases fct_cases ρ 0 with h | h | h <;> rcases fct_cases ρ 1 with k | k | k
      · exact ⟨pc2 0 0, addPC_ok (addPC_ok (PC.holds_nil _) k) h, run20_00 ρ⟩
      · exact ⟨pc2 0 1, addPC_ok (addPC_ok (PC.holds_nil _) k) h, run20_01 ρ⟩
      · exact ⟨pc2 0 2, addPC_ok (addPC_ok (PC.holds_nil _) k) h, run20_02 ρ⟩
      · exact ⟨pc2 1 0, addPC_ok (addPC_ok (PC.holds_nil _) k) h, run20_10 ρ⟩
      · exact ⟨pc2 1 1, addPC_ok (addPC_ok (PC.holds_nil _) k) h, run20_11 ρ⟩
      · exact ⟨pc2 1 2, addPC_ok (addPC_ok (PC.holds_nil _) k) h, run20_12 ρ⟩
      · exact ⟨pc2 2 0, addPC_ok (addPC_ok (PC.holds_nil _) k) h, run20_20 ρ⟩
      · exact ⟨pc2 2 1, addPC_ok (addPC_ok (PC.holds_nil _) k) h, run20_21 ρ⟩
      · exact ⟨pc2 2 2, addPC_ok (addPC_ok (PC.holds_nil _) k) h, run20_22 ρ⟩
theorem base_ok (ρ : Nat → Value) : SpecOk Try.prog (tb.atS ρ noSp noLp) := SpecOk.none (fun _ _ => rfl) (fun _ _ => rfl)
theorem facts_of {tb : Tb} (h : SpecOk Try.prog tb) : FactsOk tb := fun f args r hr q hq => (h.fns f args r hr).2.1 q hq
theorem run_nil (ρ : Nat → Value) : allTrue (callG kn Try.prog (tb.atS ρ noSp noLp) 300 300 [] 7 [.list true [] .full] H0) = true := by kernel_rfl

theorem lawful (xs : List V) (h : TyArgs tb 8 Try.f7.params.toList xs) : ∃ ρ sp lp ys m L, SpecOk Try.prog (tb.atS ρ sp lp) ∧ SymAll ρ xs ys ∧ call Try.prog (tb.atS ρ sp lp) m 7 ys H0 = some L ∧ ∀ r, r ∈ L → TrueV ρ r.1 := by
  obtain ⟨x, _, rfl, hx, rfl⟩ := h
  have hl := Ty.slice (e := 5) (by kernel_rfl) (TyV.cell (by kernel_rfl) hx)
  rcases hl with hl | ⟨es, hl, _, hes⟩
  · cases hl
    have hsp := base_ok (fun _ => .bool true)
    obtain ⟨m, L, g1, g2⟩ := all_trueG (facts_of hsp) (kn_ok _) (PC.holds_nil _) (run_nil (fun _ => .bool true))
    exact ⟨_, noSp, noLp, _, m, L, hsp, SymAll.refl _ _, g1, g2⟩
  · cases hl
    by_cases hlen : es.length ≤ 20
    · obtain ⟨is, rfl, hb⟩ := bytes_of (e := 5) (by kernel_rfl) hes
      have hsp := base_ok (rhoB is)
      obtain ⟨pc, hpc, hrun⟩ := run_some (rhoB is) is.length (by simpa using hlen)
      obtain ⟨m, L, g1, g2⟩ := all_trueG (facts_of hsp) (kn_ok _) hpc hrun
      exact ⟨rhoB is, noSp, noLp, [symBytes is.length], m, L, hsp, ⟨⟨symBytes_of is hb, id⟩, trivial⟩, g1, g2⟩
    · have hsp := base_ok (fun _ => .bool true)
      obtain ⟨H', g1⟩ := long_call (fun _ => .bool true) es (by omega)
      exact ⟨_, noSp, noLp, _, 301, _, hsp, SymAll.refl _ _, g1, fun q hq => by rw [List.mem_singleton.1 hq]; exact .inl rfl⟩

theorem own : ownKnob Try.prog.godebug = none := by kernel_rfl
theorem kids : Kids Try.prog (· < Try.prog.types.size) := kids_rows (by kernel_rfl) (by kernel_rfl)
theorem full : ∀ t e, t < Try.prog.types.size → Try.prog.underlying t = some (.slice e) → 0 < Try.prog.cellsOf e := slices_full_of Try.prog (by kernel_rfl)

theorem lifted (os : Os) (started : os.Started) (H : Type) (enc : TypeId × Value → H) :
    ReturnsInHanded {} Try.checked os 7 .any (Rows.keymapLatchSpec.pre6 enc Try.prog Try.f7 Rows.keymapLatchRow.domain false) (Rows.keymapLatchSpec.post enc Try.prog Try.f7 false true false false) :=
  law_lift_sym (C := Try.checked) (tb := tb) (n := 8) (t := 4) tb_ok tb_wf (fun _ => rfl) own started (by kernel_rfl) Try.func7
    (ChangeSpec.witness6 (enc := enc) (C := Try.checked) false ⟨#[], #[.slice none 0 0], []⟩ 7 (by kernel_rfl) (by kernel_rfl) (by kernel_rfl) (by kernel_rfl))
    kids full (by rw [Try.params7]; decide +kernel) rfl Try.underlying4 rfl (fun ds hds => by
      match ds, hds with
      | [d1], _ => rfl) (by kernel_rfl) lawful

theorem latch_holds : Rows.KeymapLatchSaid :=
  OpenClaim.holds_of_wide 7 Try.f7 rfl rfl rfl rfl rfl rfl rfl ⟨rfl, rfl, rfl, rfl, rfl⟩ rfl rfl rfl rfl rfl (by kernel_rfl) Try.func7 (by kernel_rfl)
    (of_decide_eq_true (by kernel_rfl)) (by unfold Func.isWrapper; first | (rw [if_pos (by decide +kernel)]; kernel_rfl) | (rw [if_neg (by decide +kernel)]; exact ⟨rfl, rfl⟩))
    (fun os started H enc _ => lifted os started H enc)

#print axioms latch_holds
end Go.Proofs.Ytaidiaiedhbaoaa
