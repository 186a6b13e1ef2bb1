/- IfaceSignature: whatever the argument, the law returns true. No further conditions. -/
import Derived.Test.YtdblaloadklcfaaDoorIfSgL
import Derived.Test.YtdblaloadklcfaaDoorIfSgR1
import Derived.Test.YtdblaloadklcfaaDoorIfSgR2
import Derived.Test.YtdblaloadklcfaaDoorIfSgR3
import Derived.Test.YtdblaloadklcfaaDoorIfSgR4
import Derived.Test.YtdblaloadklcfaaDoorCards
import Derived.Test.YtdblaloadklcfaaDoorTie
import Derived.SevenTiedAt
set_option linter.unusedVariables false
namespace Go.Proofs.YtdblaloadklcfaaDoor
open Go.Sx Go.ChangeShapes Go.WideShapes Go.ChangeAt Go.RowKit

theorem rhoS0 (s : ByteArray) : rhoS s 0 = .string s := rfl
theorem rhoSk (s : ByteArray) (j : Nat) : rhoS s (100 + j) = .int .i64 (kindN (byteAt s (Int.ofNat j))) := by
  unfold rhoS
  rw [if_neg (by simp), show 100 + j - 100 = j by omega]
theorem specS (s : ByteArray) : SpecOk Tryd.prog (tb.atS (rhoS s) spS noLp) where
  fns f args r h := by
    have h2 : spS f args = some r := h
    unfold spS at h2
    split at h2
    · rename_i hf
      have hf : f = 35 ∨ f = 36 := by
        rw [Bool.or_eq_true] at hf
        exact hf.imp Nat.eq_of_beq_eq_true Nat.eq_of_beq_eq_true
      split at h2
      · rename_i j
        cases h2
        refine ⟨(hf.elim (fun e => by rw [e]; exact known35) (fun e => by rw [e]; exact known36)), fun q hq => by simp at hq, fun N φ γ H w args' hr hg ha => ?_⟩
        exact fns_of (sp := spS) (lp := noLp) (tb' := tb) (s := s) (ρ := rhoS s) (rhoS0 s) rfl hf (rhoSk s j) hr hg ha
      · exact absurd h2 (by simp)
    · exact absurd h2 (by simp)
  loops _ _ _ _ _ _ _ := LoopGood.none (fun _ _ => rfl)

/-! ### Longer texts -/
def rhoL (s : ByteArray) (_ : Nat) : Value := .string s
def spLg : Sp := fun f args => if Nat.beq f 18 then (match args with
  | [.sym .str (.svar 0)] => some (.val (.bool false), [])
  | _ => none) else none
theorem known18 : ∃ fn, Tryd.prog.funcs[18]? = some fn ∧ (fn.name == "runtime.NumGoroutine") = false ∧ fn.body.isNone = false := ⟨Tryd.f18, Tryd.func18, by kernel_rfl, by kernel_rfl⟩
theorem specLg {s : ByteArray} (h1 : 16 < s.size) (h2 : s.size ≤ 1000) : SpecOk Tryd.prog (tb.atS (rhoL s) spLg noLp) where
  fns f args r h := by
    have h3 : spLg f args = some r := h
    unfold spLg at h3
    split at h3
    · rename_i hf
      obtain rfl : f = 18 := Nat.eq_of_beq_eq_true hf
      split at h3
      · cases h3
        refine ⟨known18, fun q hq => by simp at hq, fun N φ γ H w args' hr hg ha => ?_⟩
        have hρ : φ.rho = rhoL s := hg.rho
        have hargs : args' = #[.string s] := by
          have h1 := ha.2 0 _ rfl
          cases h1 with
          | sym h2 =>
            have hs : args'.size = 1 := ha.1
            have : args' = #[args'.getD 0 undef] := by
              apply Array.ext
              · simpa using hs
              · intro i hi1 hi2
                obtain rfl : i = 0 := by omega
                simp [Array.getD_eq_getD_getElem?, hs]
            rw [this, h2, hρ]
            rfl
        subst hargs
        refine (long_calls h1 h2 hr (by rw [hρ]; rfl) hg.at_).mono ?_
        rintro e w' ⟨rfl, hb⟩
        exact ⟨_, rfl, hb, .val rfl⟩
      · exact absurd h3 (by simp)
    · exact absurd h3 (by simp)
  loops _ _ _ _ _ _ _ := LoopGood.none (fun _ _ => rfl)
theorem exampleL (ρ : Nat → Value) : isTrue (callX Tryd.prog (tb.atS ρ spLg noLp) 300 13 [] H0) = true := by kernel_rfl
def pcMid : PC := addPC (.cmp .gtr (.len (.svar 0)) (.int .i64 16)) true (addPC (.cmp .gtr (.len (.svar 0)) (.int .i64 1000)) false [])
def pcBig : PC := addPC (.cmp .gtr (.len (.svar 0)) (.int .i64 1000)) true []
theorem runMid (ρ : Nat → Value) : allTrue (callF kn Tryd.prog (tb.atS ρ spLg noLp) 300 300 pcMid 6 [.sym .str (.svar 0)] H0) = true := by kernel_rfl
theorem runBig (ρ : Nat → Value) : allTrue (callF kn Tryd.prog (tb.atS ρ noSp noLp) 300 300 pcBig 6 [.sym .str (.svar 0)] H0) = true := by kernel_rfl

theorem run_all (ρ : Nat → Value) (n : Nat) (h : n ≤ 16) : runS ρ n = true := by
  match n, h with
  | 0, _ => exact runS0 ρ
  | 1, _ => exact runS1 ρ
  | 2, _ => exact runS2 ρ
  | 3, _ => exact runS3 ρ
  | 4, _ => exact runS4 ρ
  | 5, _ => exact runS5 ρ
  | 6, _ => exact runS6 ρ
  | 7, _ => exact runS7 ρ
  | 8, _ => exact runS8 ρ
  | 9, _ => exact runS9 ρ
  | 10, _ => exact runS10 ρ
  | 11, _ => exact runS11 ρ
  | 12, _ => exact runS12 ρ
  | 13, _ => exact runS13 ρ
  | 14, _ => exact runS14 ρ
  | 15, _ => exact runS15 ρ
  | 16, _ => exact runS16 ρ
  | n + 17, h => exact absurd h (by omega)
theorem facts_of {tb : Tb} (h : SpecOk Tryd.prog tb) : FactsOk tb := fun f args r hr q hq => (h.fns f args r hr).2.1 q hq

theorem lawful (xs : List V) (h : TyArgs tb 8 Tryd.f6.params.toList xs) : ∃ ρ sp lp ys m L, SpecOk Tryd.prog (tb.atS ρ sp lp) ∧ SymAll ρ xs ys ∧ call Tryd.prog (tb.atS ρ sp lp) m 6 ys H0 = some L ∧ ∀ r, r ∈ L → TrueV ρ r.1 := by
  obtain ⟨x, _, rfl, hx, rfl⟩ := h
  obtain ⟨s, ex, h0⟩ := Ty.string (by kernel_rfl) (TyV.cell (by kernel_rfl) hx)
  cases ex
  have hsym : ∀ ρ : Nat → Value, ρ 0 = .string s → SymAll ρ [.val (.string s)] [.sym .str (.svar 0)] := fun ρ h => ⟨⟨SymOf.str (by show textOf (ρ 0) = s; rw [h]; rfl), id⟩, trivial⟩
  by_cases h1 : s.size ≤ 16
  · have hp : (pcN s.size).holds (rhoS s) := addPC_ok (PC.holds_nil _) (by
      rw [(truth_cmp _ _ _).1]
      show ((s.size : Int) == (s.size : Int)) = true
      simp)
    have hsp := specS s
    obtain ⟨m, L, e1, e2⟩ := all_true (facts_of hsp) (kn_ok (rhoS s) spS noLp (exampleS _)) hp (run_all (rhoS s) s.size h1)
    exact ⟨rhoS s, spS, noLp, _, m, L, hsp, hsym _ (rhoS0 s), e1, e2⟩
  · by_cases h2 : s.size ≤ 1000
    · have hsp := specLg (s := s) (by omega) h2
      have hp : pcMid.holds (rhoL s) := addPC_ok (addPC_ok (PC.holds_nil _) (by
        rw [(truth_cmp _ _ _).2.2.2.2.1]
        show decide ((s.size : Int) > 1000) = false
        simp; omega)) (by
        rw [(truth_cmp _ _ _).2.2.2.2.1]
        show decide ((s.size : Int) > 16) = true
        simp; omega)
      obtain ⟨m, L, e1, e2⟩ := all_true (facts_of hsp) (kn_ok (rhoL s) spLg noLp (exampleL _)) hp (runMid (rhoL s))
      exact ⟨rhoL s, spLg, noLp, _, m, L, hsp, hsym _ rfl, e1, e2⟩
    · have hsp := base_ok (rhoL s)
      have hp : pcBig.holds (rhoL s) := addPC_ok (PC.holds_nil _) (by
        rw [(truth_cmp _ _ _).2.2.2.2.1]
        show decide ((s.size : Int) > 1000) = true
        simp; omega)
      obtain ⟨m, L, e1, e2⟩ := all_true (facts_of hsp) (kn_ok (rhoL s) noSp noLp (example_run _)) hp (runBig (rhoL s))
      exact ⟨rhoL s, noSp, noLp, _, m, L, hsp, hsym _ rfl, e1, e2⟩

set_option maxRecDepth 100000 in
theorem lifted (os : Os) (started : os.Started) (H : Type) (enc : TypeId × Value → H) :
    ReturnsInHanded {} Tryd.checked os 6 .any (fun w args => (Rows.ifaceSignatureSpec.pre enc Tryd.prog Tryd.f6 Rows.ifaceSignatureRow.domain false w args ∧ laidMetH Tryd.prog laid w) ∧ sizedMet enc Tryd.prog Tryd.f6 (OpenSpec.ofChange Rows.ifaceSignatureSpec) false w args)
      (Rows.ifaceSignatureSpec.post enc Tryd.prog Tryd.f6 false true false false) :=
  law_lift_laid (C := Tryd.checked) (tb := tb) (n := 8) (t := 4) tb_ok tb_wf laid_plain glob_ok own started (by kernel_rfl) Tryd.func6
    (ChangeSpec.witness_shaped (enc := enc) (C := Tryd.checked) (os := os) (X := fun w _ => laidMetH Tryd.prog laid w) false (World.laidAll Tryd.prog os laid) #[.string .empty] 8 (World.laidAll_os _ _ _)
      (World.shaped_of_ZipB (by kernel_rfl) (by kernel_rfl)) (by kernel_rfl) (by kernel_rfl) (by kernel_rfl)
      (by rw [MakeChecks.laidMetH_plain _ _ _ laid_plain]; exact laidMet_laidAll _ (by kernel_rfl) (by kernel_rfl)))
    kids full (by rw [Tryd.params6]; decide +kernel) rfl Tryd.underlying4 rfl (fun ds hds => by
      match ds, hds with
      | [d0], _ => rfl) (by kernel_rfl) lawful

theorem row_holds : Rows.IfaceSignatureSaid :=
  OpenClaim.holds_of_wide 6 Tryd.f6 rfl rfl rfl rfl rfl rfl rfl ⟨rfl, rfl, rfl, rfl, rfl⟩ rfl rfl rfl rfl rfl (by kernel_rfl) Tryd.func6 (by kernel_rfl)
    (of_decide_eq_true (by kernel_rfl)) (by unfold Func.isWrapper; first | (rw [if_pos (by decide +kernel)]; kernel_rfl) | (rw [if_neg (by decide +kernel)]; exact ⟨rfl, rfl⟩))
    (fun os started H enc _ => lifted os started H enc)

theorem signature_holds : Rows.IfaceSignatureCardSaid :=
  Claim7.holds_tied_plain_at .later [] [.data, .data, .pinned] true (true, "dcc831f57f73089cd710b1992176d1a6b682de6f82427575c8c19fc73d6bfa77") false
    row_holds (fun _ h => by cases h) (by kernel_rfl) (fun _ h => by cases h) ifaceSignature_row_tie rfl ⟨rfl, rfl⟩ (by kernel_rfl) rfl
    (fun f fn hf hfn => by
      obtain rfl : f = 6 := Option.some.inj ((show Tryd.prog.funcNamed "compositor/compositorlaw12.IfaceSignature" = some 6 by kernel_rfl).symm.trans hf) |>.symm
      obtain rfl : fn = Tryd.f6 := (Option.some.inj (Tryd.func6.symm.trans hfn)).symm
      refine ⟨by kernel_rfl, fun j t ht => ?_⟩
      rw [Tryd.params6] at ht
      have hm := Array.mem_of_getElem? ht
      simp at hm
      have hw : ∀ u, u = 3 ∨ u = 5 ∨ u = 9 → Tryd.prog.wantsStandIn u = false := by
        rintro u (rfl | rfl | rfl)
        · exact (show Tryd.prog.wantsStandIn 3 = false by kernel_rfl)
        · exact (show Tryd.prog.wantsStandIn 5 = false by kernel_rfl)
        · exact (show Tryd.prog.wantsStandIn 9 = false by kernel_rfl)
      exact hw t (by first | (rcases hm with h | h | h <;> simp [h]) | (rcases hm with h | h <;> simp [h]) | simp [hm]))
    (by kernel_rfl)
#print axioms signature_holds
end Go.Proofs.YtdblaloadklcfaaDoor
