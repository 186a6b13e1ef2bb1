/- A step's calls: find in the keymap's list. -/
import Derived.Test.YtaidiaiedhbaoaaKmP
import Derived.Test.YtaidiaiedhbaoaaKmN
/- A step's calls: find in the keymap's list. -/
set_option linter.unusedVariables false
set_option linter.unusedSimpArgs false
namespace Go.Proofs.Ytaidiaiedhbaoaa
open Go.Sx Go.ChangeShapes Go.WideShapes Go.ChangeAt Go.RowKit
noncomputable section
def entS1 : St := { env := ((Tr.leaf.node none (Tr.leaf.node (some (V.sli ((Sh.sc (STy.int .i64)).cons ((((Sh.sc (STy.int .i64)).cons Sh.nil).li.cons Sh.nil).li.cons Sh.nil)).li (SE.bvar 63) (SE.dvar 64) Tok.unk)) Tr.leaf)).node (some (V.sym (STy.int .i64) (SE.dleaf (STy.int .i64) ((SE.dvar 3).dcell (SE.ivar .i64 90) 0)))) ((Tr.leaf.node (some (V.ptr 1 0)) Tr.leaf).node (some (V.val (Value.bool false))) (Tr.leaf.node (some (V.val (Value.int .i64 0))) Tr.leaf))).node (some (V.ptr 1 0)) (((Tr.leaf.node (some (V.ptr 1 0)) Tr.leaf).node (some (V.ptr 2 0)) (Tr.leaf.node (some (V.sym (STy.int .i64) (SE.dvar 64).dlen)) Tr.leaf)).node none ((Tr.leaf.node (some (V.ptr 1 2)) Tr.leaf).node none Tr.leaf)), h := { tab := (Tr.leaf.node (some (Blk.cells [V.val (Value.bool true), V.sym (STy.int .i64) (SE.ivar .i64 65), V.sli ((Sh.sc (STy.int .i64)).cons ((((Sh.sc (STy.int .i64)).cons Sh.nil).li.cons Sh.nil).li.cons Sh.nil)).li (SE.bvar 63) (SE.dvar 64) Tok.unk])) Tr.leaf).node none (Tr.leaf.node (some (Blk.cells [V.val (Value.int .i64 0), V.list true [] Tok.full])) Tr.leaf), next := 3, base := 2, low := none } }
def pcS1 : PC := addPC (.cmp .leq (.int .i64 0) (.ivar .i64 110)) true []
def LS1 : LoopP where
  f := 24
  i := 0
  key := 917696
  D := mkLoop (loopAt tbS 24 0) entS1 [(13, iv 110)] [] [(.exit 0, [], []), (.ret, [(5, .val (.bool true))], [(2, .cells [iv 96, .sli shL (.bvar 97) (.dvar 98) .unk])])] 3 10 (famPat 110 []) (fun n => Nat.ble 96 n && Nat.ble n 98)
  cs := [.cmp .lss (.ivar .i64 95) (.int .i64 0)]
theorem st_S1 : startOf LS1.D = some [(110, .sc (.int .i64), .int .i64 0)] := by kernel_rfl
def rnS1 (r : Nat → Value) := sums LS1.D (execF kn0 (callF kn0 Try.prog (tbS.atS r noSp noLp) 100 100) Try.prog (tbS.atS r noSp noLp) 100 (.code (loopAt tbS 24 0)) pcS1 LS1.D.hd)
def lpS1 : Lp := lpOf [LS1.e]
def pcFN : PC := addPC (.cmp .lss (.ivar .i64 95) (.int .i64 0)) true []
def pcFT : PC := addPC (.cmp .lss (.ivar .i64 95) (.int .i64 0)) false []
def isX (n : Nat) : Bool := Nat.ble 96 n && Nat.ble n 98
def rnFT (r : Nat → Value) := outsV isX (.tuple [xA, .val (.bool true)]) (callF kn0 Try.prog (tbS.atS r noSp lpS1) 100 100 pcFT 24 [pK, cC] (hpOf hpK))
def rnFN (r : Nat → Value) := outsV isX (.tuple [.agg [.val (.int .i64 0), .list true [] .full], .val (.bool false)]) (callF kn0 Try.prog (tbS.atS r noSp lpS1) 100 100 pcFN 24 [pK, cC] (hpOf hpK))
def ksS1 := keysAt tbS LS1.key fsS
def MS1 : List (PC × Sm) := [([(SE.cmp .eql (SE.dleaf (.int .i64) ((SE.dvar 64).dcell (SE.ivar .i64 110) 0)) (SE.dleaf (.int .i64) ((SE.dvar 3).dcell (SE.ivar .i64 90) 0)), true), (SE.cmp .lss (SE.ivar .i64 110) (SE.dvar 64).dlen, true), (SE.cmp .lss (SE.ivar .i64 110) (SE.int .i64 0), false)], Sm.out 1 [(96, UTy.sc (.int .i64), SE.dleaf (.int .i64) ((SE.dvar 64).dcell (SE.ivar .i64 110) 0)), (97, UTy.sc .bool, ((SE.dvar 64).dcell (SE.ivar .i64 110) 1).dnil), (98, UTy.dat, (SE.dvar 64).dcell (SE.ivar .i64 110) 1)]), ([(SE.cmp .eql (SE.dleaf (.int .i64) ((SE.dvar 64).dcell (SE.ivar .i64 110) 0)) (SE.dleaf (.int .i64) ((SE.dvar 3).dcell (SE.ivar .i64 90) 0)), false), (SE.cmp .lss (SE.ivar .i64 110) (SE.dvar 64).dlen, true), (SE.cmp .lss (SE.ivar .i64 110) (SE.int .i64 0), false)], Sm.next [(110, UTy.sc (.int .i64), SE.bin .add .i64 (SE.ivar .i64 110) (SE.int .i64 1))]), ([(SE.cmp .lss (SE.ivar .i64 110) (SE.dvar 64).dlen, false), (SE.cmp .lss (SE.ivar .i64 110) (SE.int .i64 0), false)], Sm.out 0 [])]
theorem run_S1 (r : Nat → Value) : rnS1 r = some MS1 := by kernel_rfl
theorem noneS_ok (ρ : Nat → Value) : SpecOk Try.prog (tbS.atS ρ noSp noLp) := SpecOk.none (fun _ _ _ => rfl) (fun _ _ => rfl)
/-- The code of the call. -/
abbrev codE : SE := .dleaf (.int .i64) (.dcell (.dvar 3) (.ivar .i64 90) 0)
/-- What find says. -/
structure FindOk (ρ : Nat → Value) (l : List Value) : Prop where
  len : l.length ≤ 1000
  data : elsD (ρ 64) = l
  ix : ρ 95 = .int .i64 (idxD (codE.num ρ) l)
  code : ρ 96 = .int .i64 (codeD (l.getD (idxD (codE.num ρ) l).toNat .nilFunc))
  isNil : truthOf (ρ 97) = isNilD (cellD (l.getD (idxD (codE.num ρ) l).toNat .nilFunc) 1)
  lev : ρ 98 = cellD (l.getD (idxD (codE.num ρ) l).toNat .nilFunc) 1
theorem FindOk.num {ρ : Nat → Value} {l : List Value} (h : FindOk ρ l) : (SE.ivar .i64 95).num ρ = idxD (codE.num ρ) l := by
  have hr := idxD_range (codE.num ρ) l
  have := h.len
  exact iv_at h.ix (by omega) (by omega)
theorem LS1_ok {ρ : Nat → Value} {l : List Value} (h : FindOk ρ l) (h110 : ρ 110 = .int .i64 0) : LoopPOk Try.prog (tbS.atS ρ noSp noLp) LS1 := by
  generalize hc : codE.num ρ = c
  have hr := idxD_range c l
  have hlen := h.len
  have e95 : (SE.ivar .i64 95).num ρ = idxD c l := by rw [h.num, hc]
  have h96 := h.code
  have h97 := h.isNil
  have h98 := h.lev
  rw [hc] at h96 h97 h98
  refine fam_loop (Tb.only_ok tb_ok _) (Tb.only_wf tb_wf _) (m := 110) (ms := []) (g := fun _ => ρ) (n := l.length) (Q := fun x => idxFrom c l x = idxD c l) h110 (fun k hk => by simp at hk)
    (fun x _ _ => noneS_ok _) (by kernel_rfl) rfl rfl (idxFrom_zero _ _) st_S1 (UpdOk.int (ivar_zero h110) .nil) (fun _ => rfl) (kn := kn0) (n0 := 100) (n1 := 100) (n2 := 100) (fun x => kn0_ok) (pc := pcS1) (fun x hx _ => pc_fam (by omega) (PC.holds_nil _)) run_S1 ?_
  intro x hx1 hx2
  rw [show wayOf ρ LS1.cs = if (SE.ivar .i64 95).num ρ < 0 then 0 else 1 from way_neg, e95]
  have h2 : elsD ((SE.dvar 64).data (fam ρ 110 [] (fun _ => ρ) x)) = l := h.data
  have h0 : codE.num (fam ρ 110 [] (fun _ => ρ) x) = c := hc
  have hN := n_fam (ρ := ρ) (m := 110) (ms := []) (g := fun _ => ρ) (show x ≤ 9223372036854775807 by omega)
  have hrow : ∀ j, (SE.dcell (.dvar 64) (.ivar .i64 110) j).data (fam ρ 110 [] (fun _ => ρ) x) = cellD (l.getD x .nilFunc) j := fun j => by rw [d_cell, h2, hN, Int.toNat_natCast]
  have hcd : (SE.dleaf (.int .i64) (.dcell (.dvar 64) (.ivar .i64 110) 0)).num (fam ρ 110 [] (fun _ => ρ) x) = codeD (l.getD x .nilFunc) := by rw [n_leaf, hrow]; rfl
  unfold MS1
  rw [all_cons, all_cons, all_cons]
  refine ⟨fun hp => ?_, fun hp => ?_, fun hp => ?_, fun _ h => by simp at h⟩
  all_goals simp only [h_cons, h_nil, t_lss, t_eql, n_int, n_dlen, h0, h2, hN, hcd, if_true, Bool.false_eq_true, if_false] at hp
  · obtain ⟨h1, h3, _⟩ := hp
    rw [idxFrom_hit (by omega) h1] at hx2
    have hix : (idxD c l).toNat = x := by rw [← hx2]; simp
    rw [hix] at h96 h97 h98
    refine ⟨by rw [← hx2, if_neg (by omega)], UpdOk.int ?_ (UpdOk.bool ?_ (UpdOk.dat ?_ .nil))⟩
    · rw [hcd]
      exact (iv_at (show fam ρ 110 [] (fun _ => ρ) x 96 = _ from h96) (codeD_rng _).1 (codeD_rng _).2).symm
    · show isNilD ((SE.dcell (.dvar 64) (.ivar .i64 110) 1).data _) = truthOf (ρ 97)
      rw [hrow, h97]
    · rw [hrow]
      exact h98.symm
  · obtain ⟨h1, h3, _⟩ := hp
    rw [idxFrom_miss (by omega) h1] at hx2
    exact ⟨by omega, hx2, UpdOk.int (next_fam (by omega)) .nil⟩
  · rw [idxFrom_end (by omega)] at hx2
    rw [← hx2]
    exact ⟨rfl, .nil⟩
theorem ks_S1 : ([LS1].all fun e => keysAt tbS e.key fsS == [(e.f, e.i)]) = true := by kernel_rfl
theorem specS1_ok {ρ : Nat → Value} {l : List Value} (h : FindOk ρ l) (h110 : ρ 110 = .int .i64 0) : SpecOk Try.prog (tbS.atS ρ noSp lpS1) :=
  specP_of (l := [LS1]) (fs := fsS) (fun f fn h => (Tb.only_func h).1) (noneS_ok ρ) ks_S1 (fun e he => by
    rw [List.mem_singleton.1 he]
    exact LS1_ok h h110)
def okFT (r : Nat → Value) := rnFT r
theorem run_FT (r : Nat → Value) : rnFT r = some [(pcFT, [(96, .sc (.int .i64), .ivar .i64 96), (97, .sc .bool, .bvar 97), (98, .dat, .dvar 98)])] := by kernel_rfl
theorem run_FN (r : Nat → Value) : rnFN r = some [(pcFN, [])] := by kernel_rfl
theorem findT_at {ρ : Nat → Value} {l : List Value} (h : FindOk ρ l) (h110 : ρ 110 = .int .i64 0) (hi : 0 ≤ idxD (codE.num ρ) l) : EntryVOk Try.prog tb.glob ρ eFindT := by
  refine ⟨⟨_, Try.func24, by kernel_rfl, by kernel_rfl⟩, fun q hq => by simp [eFindT] at hq, ?_⟩
  refine fncV_run (tb := tbS) (Tb.only_ok tb_ok _) (Tb.only_wf tb_wf _) (specS1_ok h h110) (kn := kn0) (n0 := 100) (n1 := 100) kn0_ok (pc := pcFT) (addPC_ok (PC.holds_nil _) (by rw [t_lss, if_neg (by simp), n_int, h.num]; omega)) (by kernel_rfl) (run_FT ρ) (fun q hq _ => ?_)
  rw [List.mem_singleton.1 hq]
  exact UpdOk.int rfl (UpdOk.bool rfl (UpdOk.dat rfl .nil))
theorem findN_at {ρ : Nat → Value} {l : List Value} (h : FindOk ρ l) (h110 : ρ 110 = .int .i64 0) (hi : idxD (codE.num ρ) l < 0) : EntryVOk Try.prog tb.glob ρ eFindN := by
  refine ⟨⟨_, Try.func24, by kernel_rfl, by kernel_rfl⟩, fun q hq => by simp [eFindN] at hq, ?_⟩
  refine fncV_run (tb := tbS) (Tb.only_ok tb_ok _) (Tb.only_wf tb_wf _) (specS1_ok h h110) (kn := kn0) (n0 := 100) (n1 := 100) kn0_ok (pc := pcFN) (addPC_ok (PC.holds_nil _) (by rw [t_lss, if_pos rfl, n_int, h.num]; omega)) (by kernel_rfl) (run_FN ρ) (fun q hq _ => ?_)
  rw [List.mem_singleton.1 hq]
  exact .nil
end
end Go.Proofs.Ytaidiaiedhbaoaa

/- A step's calls on the keymap: contracts as trees of decisions. -/
set_option linter.unusedVariables false
set_option linter.unusedSimpArgs false
namespace Go.Proofs.Ytaidiaiedhbaoaa
open Go.Sx Go.ChangeShapes Go.WideShapes Go.ChangeAt Go.RowKit
noncomputable section
abbrev nE (n : Nat) : SE := .ivar .i64 n
def uI (n : Nat) (e : SE) : Upd := (n, .sc (.int .i64), e)
def prL (a b c d : SE) : DT := .leaf [uI 103 a, uI 104 b, uI 105 c, uI 106 d, uI 102 (nE 102)]
def orE (a : SE) (i : Int) : SE := .bin .or .i64 a (i64 i)
def prB (i : Int) : DT := prL (orE (nE 91) i) (nE 92) (nE 93) (nE 94)
def isE (s : SE) (i : Int) : SE := .cmp .eql s (i64 i)
def subE (s : SE) : SE := .bin .sub .i64 s (i64 16777216)
def pressT (F s lay n : SE) : DT :=
  .node (.cmp .lss F (i64 16777217)) (prL (nE 91) (i64 0) (nE 93) (nE 94)) (.node (isE s 16777218) (prL (nE 91) (nE 92) (.bin .xor .i64 (nE 93) (i64 2)) (nE 94))
    (.node (isE s 16777222) (prL (nE 91) (orE (nE 92) 1) (nE 93) (nE 94)) (.node (isE s 16777223) (prL (nE 91) (nE 92) (nE 93) (.bin .rem .i64 (.bin .add .i64 lay (i64 1)) n))
      (.node (.cmp .lss s (i64 16777217)) (prB 0) (.node (.cmp .lss (i64 16777223) s) (prB 0) (.node (isE (subE s) 1) (prB 1) (.node (isE (subE s) 3) (prB 16) (.node (isE (subE s) 4) (prB 4) (.node (isE (subE s) 5) (prB 8) (prB 0))))))))))
def reL (e : SE) : DT := .leaf [uI 107 e]
def reB (i : Int) : DT := reL (.bin .andNot .i64 (nE 91) (i64 i))
def relT (F : SE) : DT :=
  .node (.cmp .lss F (i64 16777217)) (reL (nE 91)) (.node (.cmp .lss (i64 16777223) F) (reL (nE 91)) (.node (isE (subE F) 1) (reB 1) (.node (isE (subE F) 3) (reB 16) (.node (isE (subE F) 4) (reB 4) (.node (isE (subE F) 5) (reB 8) (reB 0))))))
def okSymT (r : Nat → Value) := agreeL (.leaf [uI 102 (nE 102)]) (rnSymT r)
def okSymN (r : Nat → Value) := agreeL (.leaf [uI 102 (i64 0)]) (rnSymN r)
def okPrT (r : Nat → Value) := agreeL (pressT (firstS (.dvar 98)) (nE 102) (nE 100) (nE 65)) (rnPrT r)
def okPrN (r : Nat → Value) := agreeL (.leaf [uI 103 (nE 91), uI 104 (nE 92), uI 105 (nE 93), uI 106 (nE 94), uI 102 (i64 0)]) (rnPrN r)
def okReT (r : Nat → Value) := agreeL (relT (firstS (.dvar 98))) (rnReT r)
def okReN (r : Nat → Value) := agreeL (reL (nE 91)) (rnReN r)
theorem ok_Lay (r : Nat → Value) : okLay r = true := by kernel_rfl
theorem ok_Eff (r : Nat → Value) : okEff r = true := by kernel_rfl
theorem ok_Symk (r : Nat → Value) : okSymk r = true := by kernel_rfl
theorem ok_SymT (r : Nat → Value) : okSymT r = true := by kernel_rfl
theorem ok_SymN (r : Nat → Value) : okSymN r = true := by kernel_rfl
theorem ok_PrT (r : Nat → Value) : okPrT r = true := by kernel_rfl
theorem ok_PrN (r : Nat → Value) : okPrN r = true := by kernel_rfl
theorem ok_ReT (r : Nat → Value) : okReT r = true := by kernel_rfl
theorem ok_ReN (r : Nat → Value) : okReN r = true := by kernel_rfl
theorem layK_at {ρ : Nat → Value} (h65 : 0 < (nE 65).num ρ) (h100 : (layT (nE 94) (nE 65)).at ρ 0 = (nE 100).num ρ) : EntryVOk Try.prog tb.glob ρ eLayK := by
  refine ⟨⟨_, Try.func38, by kernel_rfl, by kernel_rfl⟩, fun q hq => by simp [eLayK] at hq, ?_⟩
  exact fncV_tree (tb := tbS) (Tb.only_ok tb_ok _) (Tb.only_wf tb_wf _) (noneS_ok ρ) (kn := kn0) (n0 := 100) (n1 := 100) kn0_ok (pc := pcL) (addPC_ok (PC.holds_nil _) (by rw [t_lss, if_pos rfl, n_int]; exact h65)) (by kernel_rfl) (ok_Lay ρ) (DT.upd1 (by kernel_rfl) h100)
theorem effK_at {ρ : Nat → Value} (h101 : effT.at ρ 0 = (nE 101).num ρ) : EntryVOk Try.prog tb.glob ρ eEffK := by
  refine ⟨⟨_, Try.func17, by kernel_rfl, by kernel_rfl⟩, fun q hq => by simp [eEffK] at hq, ?_⟩
  exact fncV_tree (tb := tbS) (Tb.only_ok tb_ok _) (Tb.only_wf tb_wf _) (noneS_ok ρ) (kn := kn0) (n0 := 100) (n1 := 100) kn0_ok (pc := []) (PC.holds_nil _) (by kernel_rfl) (ok_Eff ρ) (DT.upd1 (by kernel_rfl) h101)
/-- A key is found. -/
structure KeyOk (ρ : Nat → Value) (lv : SE) : Prop where
  lays : 0 < (nE 65).num ρ
  lay : 0 ≤ (nE 100).num ρ
  len : 0 < (SE.dlen lv).num ρ
  row : 0 < (SE.dlen (rowS lv (i64 0))).num ρ
  first : (firstS lv).num ρ ≤ 16777223
theorem KeyOk.pc {ρ : Nat → Value} (h : KeyOk ρ (.dvar 98)) : pcX.holds ρ := by
  refine addPC_ok (addPC_ok (addPC_ok (addPC_ok (addPC_ok (PC.holds_nil _) ?_) ?_) ?_) ?_) ?_
  · rw [t_lss, if_pos rfl, n_int]; exact h.lays
  · rw [t_lss, if_pos rfl, n_int]; exact h.len
  · rw [t_lss, if_pos rfl, n_int]; exact h.row
  · rw [t_leq, if_pos rfl, n_int]; exact h.lay
  · rw [t_leq, if_pos rfl, n_int]; exact h.first
/-- What a step gives. -/
structure StepK (ρ : Nat → Value) : Prop where
  lay : (layT (nE 94) (nE 65)).at ρ 0 = (nE 100).num ρ
  eff : effT.at ρ 0 = (nE 101).num ρ
  sym : (symT (.dvar 98) (nE 100) (nE 101)).at ρ 0 = (nE 102).num ρ
  press : ∀ i k, [103, 104, 105, 106, 102][i]? = some k → (pressT (firstS (.dvar 98)) (nE 102) (nE 100) (nE 65)).at ρ i = (nE k).num ρ
  rel : (relT (firstS (.dvar 98))).at ρ 0 = (nE 107).num ρ
theorem symk_at {ρ : Nat → Value} (h : KeyOk ρ (.dvar 98)) (s : StepK ρ) : EntryVOk Try.prog tb.glob ρ eSymk := by
  refine ⟨⟨_, Try.func28, by kernel_rfl, by kernel_rfl⟩, fun q hq => by simp [eSymk] at hq, ?_⟩
  exact fncV_tree (tb := tbS) (Tb.only_ok tb_ok _) (Tb.only_wf tb_wf _) (spV_ok (tb := tbS) (l := [eLayK, eEffK]) (fun e he => by
    rcases List.mem_cons.1 he with rfl | he
    · exact layK_at h.lays s.lay
    · rw [List.mem_singleton.1 he]
      exact effK_at s.eff)) (kn := kn0) (n0 := 100) (n1 := 100) kn0_ok (pc := pcX) h.pc (by kernel_rfl) (ok_Symk ρ) (DT.upd1 (by kernel_rfl) s.sym)
theorem spS2_ok {ρ : Nat → Value} {l : List Value} (hf : FindOk ρ l) (h110 : ρ 110 = .int .i64 0) (hi : 0 ≤ idxD (codE.num ρ) l) (h : KeyOk ρ (.dvar 98)) (s : StepK ρ) : SpecOk Try.prog (tbS.atS ρ spS2 noLp) :=
  spV_ok (tb := tbS) (l := [eFindT, eLayK, eEffK, eSymk]) (fun e he => by
    rcases List.mem_cons.1 he with rfl | he
    · exact findT_at hf h110 hi
    · rcases List.mem_cons.1 he with rfl | he
      · exact layK_at h.lays s.lay
      · rcases List.mem_cons.1 he with rfl | he
        · exact effK_at s.eff
        · rw [List.mem_singleton.1 he]
          exact symk_at h s)
theorem spS3_ok {ρ : Nat → Value} {l : List Value} (hf : FindOk ρ l) (h110 : ρ 110 = .int .i64 0) (hi : idxD (codE.num ρ) l < 0) : SpecOk Try.prog (tbS.atS ρ spS3 noLp) :=
  spV_ok (tb := tbS) (l := [eFindN]) (fun e he => by
    rw [List.mem_singleton.1 he]
    exact findN_at hf h110 hi)
/-- What a step gives where no key is found. -/
structure StepN (ρ : Nat → Value) : Prop where
  sym : (nE 102).num ρ = 0
  press : ∀ j, j < 4 → (nE (91 + j)).num ρ = (nE (103 + j)).num ρ
  rel : (nE 91).num ρ = (nE 107).num ρ
section
variable {ρ : Nat → Value} {l : List Value} (hf : FindOk ρ l) (h110 : ρ 110 = .int .i64 0)
include hf h110
theorem symK_T (hi : 0 ≤ idxD (codE.num ρ) l) (h : KeyOk ρ (.dvar 98)) (s : StepK ρ) : EntryVOk Try.prog tb.glob ρ eSymK := by
  refine ⟨⟨_, Try.func15, by kernel_rfl, by kernel_rfl⟩, fun q hq => by simp [eSymK] at hq, ?_⟩
  exact fncV_tree (tb := tbS) (Tb.only_ok tb_ok _) (Tb.only_wf tb_wf _) (spS2_ok hf h110 hi h s) (kn := kn0) (n0 := 100) (n1 := 100) kn0_ok (pc := []) (PC.holds_nil _) (by kernel_rfl) (ok_SymT ρ) (DT.upd1 (by kernel_rfl) rfl)
theorem symK_N (hi : idxD (codE.num ρ) l < 0) (s : StepN ρ) : EntryVOk Try.prog tb.glob ρ eSymK := by
  refine ⟨⟨_, Try.func15, by kernel_rfl, by kernel_rfl⟩, fun q hq => by simp [eSymK] at hq, ?_⟩
  exact fncV_tree (tb := tbS) (Tb.only_ok tb_ok _) (Tb.only_wf tb_wf _) (spS3_ok hf h110 hi) (kn := kn0) (n0 := 100) (n1 := 100) kn0_ok (pc := []) (PC.holds_nil _) (by kernel_rfl) (ok_SymN ρ) (DT.upd1 (by kernel_rfl) s.sym.symm)
theorem pressK_T (hi : 0 ≤ idxD (codE.num ρ) l) (h : KeyOk ρ (.dvar 98)) (s : StepK ρ) : EntryVOk Try.prog tb.glob ρ ePressK := by
  refine ⟨⟨_, Try.func21, by kernel_rfl, by kernel_rfl⟩, fun q hq => by simp [ePressK] at hq, ?_⟩
  exact fncV_tree (tb := tbS) (Tb.only_ok tb_ok _) (Tb.only_wf tb_wf _) (spS2_ok hf h110 hi h s) (kn := kn0) (n0 := 100) (n1 := 100) kn0_ok (pc := pcX) h.pc (by kernel_rfl) (ok_PrT ρ) (DT.upd (ks := [103, 104, 105, 106, 102]) (by kernel_rfl) s.press)
theorem pressK_N (hi : idxD (codE.num ρ) l < 0) (s : StepN ρ) : EntryVOk Try.prog tb.glob ρ ePressK := by
  refine ⟨⟨_, Try.func21, by kernel_rfl, by kernel_rfl⟩, fun q hq => by simp [ePressK] at hq, ?_⟩
  exact fncV_tree (tb := tbS) (Tb.only_ok tb_ok _) (Tb.only_wf tb_wf _) (spS3_ok hf h110 hi) (kn := kn0) (n0 := 100) (n1 := 100) kn0_ok (pc := []) (PC.holds_nil _) (by kernel_rfl) (ok_PrN ρ)
    (UpdOk.int (s.press 0 (by omega)) (UpdOk.int (s.press 1 (by omega)) (UpdOk.int (s.press 2 (by omega)) (UpdOk.int (s.press 3 (by omega)) (UpdOk.int s.sym.symm .nil)))))
theorem relK_T (hi : 0 ≤ idxD (codE.num ρ) l) (h : KeyOk ρ (.dvar 98)) (s : StepK ρ) : EntryVOk Try.prog tb.glob ρ eRelK := by
  refine ⟨⟨_, Try.func19, by kernel_rfl, by kernel_rfl⟩, fun q hq => by simp [eRelK] at hq, ?_⟩
  exact fncV_tree (tb := tbS) (Tb.only_ok tb_ok _) (Tb.only_wf tb_wf _) (spS2_ok hf h110 hi h s) (kn := kn0) (n0 := 100) (n1 := 100) kn0_ok (pc := pcX) h.pc (by kernel_rfl) (ok_ReT ρ) (DT.upd1 (by kernel_rfl) s.rel)
theorem relK_N (hi : idxD (codE.num ρ) l < 0) (s : StepN ρ) : EntryVOk Try.prog tb.glob ρ eRelK := by
  refine ⟨⟨_, Try.func19, by kernel_rfl, by kernel_rfl⟩, fun q hq => by simp [eRelK] at hq, ?_⟩
  exact fncV_tree (tb := tbS) (Tb.only_ok tb_ok _) (Tb.only_wf tb_wf _) (spS3_ok hf h110 hi) (kn := kn0) (n0 := 100) (n1 := 100) kn0_ok (pc := []) (PC.holds_nil _) (by kernel_rfl) (ok_ReN ρ) (UpdOk.int s.rel .nil)
end
end
end Go.Proofs.Ytaidiaiedhbaoaa
