/- KeymapNew: whatever the list of keys, the law returns true. No further conditions. -/
import Derived.Test.YtaidiaiedhbaoaaKmV
import Derived.Test.YtaidiaiedhbaoaaRows
set_option linter.unusedVariables false
set_option linter.unusedSimpArgs false
namespace Go.Proofs.Ytaidiaiedhbaoaa
open Go.Sx Go.ChangeShapes Go.WideShapes Go.ChangeAt Go.RowKit
noncomputable section
def restW : List (PC × SE) := [([(.cmp .eql (.ivar .i64 65) (.ivar .i64 66), false), (.cmp .eql (.ivar .i64 62) (.int .i64 0), true)], .bool false)]
theorem run_W (r : Nat → Value) : rnW r = some restW := by kernel_rfl
theorem run_T (r : Nat → Value) : rnT r = true := by kernel_rfl
theorem ex_W (r : Nat → Value) : exW r spW lpW = true := by kernel_rfl
theorem ex_T (r : Nat → Value) : exW r spT noLp = true := by kernel_rfl
theorem kn_ok (ρ : Nat → Value) (sp : Sp) (lp : Lp) (h : exW ρ sp lp = true) : KnOk knN (call Try.prog (tbW.atS ρ sp lp) 100) := by
  intro f v hv
  unfold knN at hv
  split at hv
  · rename_i hf
    cases hv
    rw [show f = 10 from Nat.eq_of_beq_eq_true hf]
    unfold exW at h
    rw [callX_eq] at h
    exact ⟨rfl, isTrue_eq h⟩
  · exact absurd hv (by simp)
/-- What the unknowns are at a list of keys. -/
def rhoW (d : Value) (n : Nat) : Value := if msN.contains n then gN (elsD d) 0 n else envL [(2, d), (50, .int .i64 0), (54, .int .i64 0), (57, .int .i64 0), (70, .int .i64 0), (80, .int .i64 0), (58, .bool true), (71, .bool true), (59, listD []), (72, listD []),
  (62, .int .i64 (errD (elsD d) 0)), (63, .bool (decide (ixD (elsD d) 0 = 0))), (64, listD (((elsD d).take (ixD (elsD d) 0)).map cpK)), (65, .int .i64 (laysD ((elsD d).take (ixD (elsD d) 0)))), (66, .int .i64 (laysD (elsD d))),
  (73, .bool (decide ((elsD d).length = 0))), (74, listD ((elsD d).map cpR)), (81, .int .i64 (refErr (elsD d) 0))] n
theorem LoopPOk.tb1 {P : Program} {tb tb' : Tb} {l : LoopP} (hf : tb'.func l.f = tb.func l.f) (hgl : tb'.glob = tb.glob) (hrho : tb'.rho = tb.rho) (h : LoopPOk P tb l) : LoopPOk P tb' l := by
  intro fn hfn
  rw [hf] at hfn
  have h1 := h fn hfn
  unfold LoopEOk at h1 ⊢
  have e : loopAt tb' l.f l.i = loopAt tb l.f l.i := by unfold loopAt loopsAt; rw [hf]
  rw [e, hrho]
  exact SoundAt.tb hgl hrho h1
theorem large_atT {ρ : Nat → Value} (hb : Bnd (ρ 2)) (hl : largeD (elsD (ρ 2)) = true) : EntryOk Try.prog tb.glob ρ eLargeT := by
  refine ⟨⟨_, Try.func9, by kernel_rfl, by kernel_rfl⟩, by kernel_rfl, fun q hq => by simp [eLargeT, eLarge] at hq, ?_⟩
  have key := large_fnc (ρ := envL [(1, .bool (isNilD (ρ 2))), (2, ρ 2), (10, .int .i64 0), (20, .int .i64 0), (21, .bool ((levD ((elsD (ρ 2)).getD 0 .nilFunc)).any wideL)), (11, .bool ((elsD (ρ 2)).any wideK))]) rfl rfl rfl rfl hb
  have e : largeD (elsD (envL [(1, Value.bool (isNilD (ρ 2))), (2, ρ 2), (10, .int .i64 0), (20, .int .i64 0), (21, .bool ((levD ((elsD (ρ 2)).getD 0 .nilFunc)).any wideL)), (11, .bool ((elsD (ρ 2)).any wideK))] 2)) = true := hl
  rw [e] at key
  exact key.at (us := [(1, .sc .bool, .dnil (.dvar 2)), (2, .dat, .dvar 2)]) (by kernel_rfl) (UpdOk.bool rfl (UpdOk.dat rfl .nil))
theorem facts_of {tb : Tb} (h : SpecOk Try.prog tb) : FactsOk tb := fun f args r hr q hq => (h.fns f args r hr).2.1 q hq
theorem keys_W : ([LN1, LR1, LV1].all fun e => keysAt tbW e.key fsW == [(e.f, e.i)]) = true := by kernel_rfl
theorem spec_W {d : Value} (hb : Bnd d) (hl : largeD (elsD d) = false) : SpecOk Try.prog (tbW.atS (rhoW d) spW lpW) := by
  obtain ⟨hl1, hsm, hl3⟩ := large_small hl
  have hms : ∀ k, k ∈ msN → rhoW d k = gN (elsD d) 0 k := fun k hk => by
    unfold rhoW
    rw [if_pos (List.contains_iff_mem.2 hk)]
  have h1 : LoopPOk Try.prog (tbN.atS (rhoW d) spN lpN1) LN1 := LN1_ok hb hl rfl hms rfl rfl rfl rfl rfl rfl rfl rfl
  have h2 : LoopPOk Try.prog (tbN.atS (rhoW d) noSp noLp) LR1 := LR1_ok hl1 rfl rfl rfl rfl rfl
  have h3 : LoopPOk Try.prog (tbN.atS (rhoW d) spV noLp) LV1 := LV1_ok (L := elsD d) hsm rfl rfl rfl rfl
  refine specP_of (l := [LN1, LR1, LV1]) (fs := fsW) (lp0 := fun _ _ => none) (fun f fn h => (Tb.only_func h).1) (spOf_ok (tb := tbW) (l := [eLarge, eLay]) (fun e he => ?_)) keys_W (fun e he => ?_)
  · rcases List.mem_cons.1 he with rfl | he
    · exact large_at hb hl
    · rw [List.mem_singleton.1 he]
      exact lay_at (L := elsD d) hsm rfl rfl
  · rcases List.mem_cons.1 he with rfl | he
    · exact LoopPOk.tb1 (tb := tbN.atS (rhoW d) spN lpN1) (by kernel_rfl) rfl rfl h1
    · rcases List.mem_cons.1 he with rfl | he
      · exact LoopPOk.tb1 (tb := tbN.atS (rhoW d) noSp noLp) (by kernel_rfl) rfl rfl h2
      · rw [List.mem_singleton.1 he]
        exact LoopPOk.tb1 (tb := tbN.atS (rhoW d) spV noLp) (by kernel_rfl) rfl rfl h3
theorem spec_T {d : Value} (hb : Bnd d) (hl : largeD (elsD d) = true) : SpecOk Try.prog (tbW.atS (rhoW d) spT noLp) :=
  spOf_ok (tb := tbW) (l := [eLargeT]) (fun e he => by
    rw [List.mem_singleton.1 he]
    exact large_atT hb hl)
theorem rest_W {d : Value} (hl : largeD (elsD d) = false) : ∀ q, q ∈ restW → q.1.holds (rhoW d) → q.2.truth (rhoW d) = true := by
  obtain ⟨_, hsm, _⟩ := large_small hl
  intro q hq hp
  rw [List.mem_singleton.1 hq] at hp
  exfalso
  have her := errD_rng (elsD d) 0
  have e62 : (SE.ivar .i64 62).num (rhoW d) = errD (elsD d) 0 := iv_at rfl (by omega) (by omega)
  simp only [h_cons, h_nil, t_eql, n_int, e62, if_true, Bool.false_eq_true, if_false] at hp
  obtain ⟨h1, h2, _⟩ := hp
  refine h1 ?_
  have e : laysD ((elsD d).take (ixD (elsD d) 0)) = laysD (elsD d) := by
    have : ixD (elsD d) 0 = (elsD d).length := ix_of_ok _ _ h2
    rw [this, List.take_length]
  show IntKind.wrap .i64 (laysD ((elsD d).take (ixD (elsD d) 0)) : Nat) = IntKind.wrap .i64 (laysD (elsD d) : Nat)
  rw [e]
theorem lawful (xs : List V) (h : TyArgs tbW 8 Try.f3.params.toList xs) : ∃ ρ sp lp ys m L, SpecOk Try.prog (tbW.atS ρ sp lp) ∧ SymAll ρ xs ys ∧ call Try.prog (tbW.atS ρ sp lp) m 3 ys H0 = some L ∧ ∀ r, r ∈ L → TrueV ρ r.1 := by
  rw [Try.params3] at h
  obtain ⟨x, _, rfl, hx, rfl⟩ := h
  obtain ⟨l, h1, hb, hs⟩ := ty_sym (s := .cons shK .nil) (by kernel_rfl) (TyV.cell (by kernel_rfl) hx)
  obtain ⟨d, rfl⟩ : ∃ d, l = [d] := by
    match l, h1 with
    | [d], _ => exact ⟨d, rfl⟩
  have hbd := hb d List.mem_cons_self
  obtain ⟨u, hu, hsim⟩ := (hs (rhoW d) 2 (fun j hj => by
    have : j = 0 := by
      have : j < 1 := hj
      omega
    rw [this]; rfl)).2 0 _ rfl
  cases hu
  have hsy : SymAll (rhoW d) [x] argN := ⟨⟨SymOf.sim hsim, hsim.1⟩, trivial⟩
  cases hl : largeD (elsD d) with
  | true =>
    have hsp := spec_T hbd hl
    obtain ⟨m, L, g1, g2⟩ := all_true (facts_of hsp) (kn_ok _ _ _ (ex_T _)) (PC.holds_nil _) (run_T _)
    exact ⟨_, _, _, _, m, L, hsp, hsy, g1, g2⟩
  | false =>
    have hsp := spec_W hbd hl
    obtain ⟨m, L, g1, g2⟩ := all_rest (facts_of hsp) (kn_ok _ _ _ (ex_W _)) (PC.holds_nil _) (run_W _) (rest_W hl)
    exact ⟨_, _, _, _, m, L, hsp, hsy, g1, g2⟩
theorem own : ownKnob Try.prog.godebug = none := by kernel_rfl
theorem kids : Kids Try.prog (· < Try.prog.types.size) := kids_rows (by kernel_rfl) (by kernel_rfl)
theorem full : ∀ t e, t < Try.prog.types.size → Try.prog.underlying t = some (.slice e) → 0 < Try.prog.cellsOf e := slices_full_of Try.prog (by kernel_rfl)
theorem lifted (os : Os) (started : os.Started) (H : Type) (enc : TypeId × Value → H) :
    ReturnsInHanded {} Try.checked os 3 .any (Rows.keymapNewSpec.pre6 enc Try.prog Try.f3 Rows.keymapNewRow.domain false) (Rows.keymapNewSpec.post enc Try.prog Try.f3 false true false false) :=
  law_lift_sym (C := Try.checked) (tb := tbW) (n := 8) (t := 4) (Tb.only_ok tb_ok _) (Tb.only_wf tb_wf _) (fun _ => rfl) own started (by kernel_rfl) Try.func3
    (ChangeSpec.witness6 (enc := enc) (C := Try.checked) false ⟨#[], #[.slice none 0 0], []⟩ 3 (by kernel_rfl) (by kernel_rfl) (by kernel_rfl) (by kernel_rfl))
    kids full (by rw [Try.params3]; decide +kernel) rfl Try.underlying4 rfl (fun ds hds => by
      match ds, hds with
      | [d1], _ => rfl) (by kernel_rfl) lawful
/-- **KeymapNew.** -/
theorem new_holds : Rows.KeymapNewSaid :=
  OpenClaim.holds_of_wide 3 Try.f3 rfl rfl rfl rfl rfl rfl rfl ⟨rfl, rfl, rfl, rfl, rfl⟩ rfl rfl rfl rfl rfl (by kernel_rfl) Try.func3 (by kernel_rfl)
    (of_decide_eq_true (by kernel_rfl)) (by unfold Func.isWrapper; first | (rw [if_pos (by decide +kernel)]; kernel_rfl) | (rw [if_neg (by decide +kernel)]; exact ⟨rfl, rfl⟩))
    (fun os started H enc _ => lifted os started H enc)
#print axioms new_holds
end
end Go.Proofs.Ytaidiaiedhbaoaa
