/- keymap.New behind the law's modifiers: as KmN, one block further. -/
import Derived.Test.YtaidiaiedhbaoaaKmB2
/- keymap.New behind the law's modifiers: as KmN, one block further. -/
set_option linter.unusedVariables false
set_option linter.unusedSimpArgs false
namespace Go.Proofs.Ytaidiaiedhbaoaa
open Go.Sx Go.ChangeShapes Go.WideShapes Go.ChangeAt Go.RowKit
noncomputable section
def entM1 : St := { env := ((((Tr.leaf.node (some (V.sli ((Sh.sc (STy.int .i64)).cons ((((Sh.sc (STy.int .i64)).cons Sh.nil).li.cons Sh.nil).li.cons Sh.nil)).li (SE.dvar 2).dnil (SE.dvar 2) Tok.unk)) Tr.leaf).node none Tr.leaf).node (some (V.val (Value.int .i64 0))) Tr.leaf).node none (((Tr.leaf.node (some (V.val (Value.int .i64 0))) Tr.leaf).node none Tr.leaf).node none (Tr.leaf.node (some (V.agg [V.val (Value.bool true), V.val (Value.int .i64 1), V.list true [] Tok.full])) Tr.leaf))).node (some (V.sli ((Sh.sc (STy.int .i64)).cons ((((Sh.sc (STy.int .i64)).cons Sh.nil).li.cons Sh.nil).li.cons Sh.nil)).li (SE.dvar 2).dnil (SE.dvar 2) Tok.unk)) ((((Tr.leaf.node (some (V.sym (STy.int .i64) (SE.dvar 2).dlen)) Tr.leaf).node none Tr.leaf).node (some (V.ptr 1 0)) Tr.leaf).node (some (V.val (Value.pointer none))) (Tr.leaf.node none (Tr.leaf.node (some (V.ptr 1 0)) Tr.leaf))), h := { tab := (Tr.leaf.node (some (Blk.cells [V.val (Value.bool true), V.val (Value.int .i64 1), V.list true [] Tok.full])) Tr.leaf).node (some (Blk.cells [V.sym (STy.int .i64) (SE.dleaf (STy.int .i64) (SE.dvar 4)), V.sym (STy.int .i64) (SE.dleaf (STy.int .i64) (SE.dvar 5)), V.sym (STy.int .i64) (SE.dleaf (STy.int .i64) (SE.dvar 6)), V.sym (STy.int .i64) (SE.dleaf (STy.int .i64) (SE.dvar 7))])) Tr.leaf, next := 2, base := 1, low := none } }
def LM1 : LoopP where
  f := 11
  i := 0
  key := 1179904
  D := mkLoop (loopAt tbN 11 0) entM1 [(17, iv 50)] [(1, .cells [.val (.bool true), iv 53, .sli shK (.bvar 51) (.dvar 52) (.own 2 2)]), (2, .tail true)]
    [(.exit 0, [], [(1, .cells [.val (.bool true), iv 65, .sli shK (.bvar 63) (.dvar 64) .unk])]), (.ret, [(2, .val (.pointer none)), (3, iv 62)], [(1, .cells [.val (.bool true), iv 65, .sli shK (.bvar 63) (.dvar 64) .unk])])] 3 100 (famPat 50 [51, 52, 53, 55, 56, 60, 61, 67, 68, 69]) resN
  cs := [.cmp .eql (.ivar .i64 62) (.int .i64 0)]
def entM2 : St := { env := ((Tr.leaf.node none (Tr.leaf.node (some (V.sli ((Sh.sc (STy.int .i64)).cons ((((Sh.sc (STy.int .i64)).cons Sh.nil).li.cons Sh.nil).li.cons Sh.nil)).li (SE.bvar 51) (SE.dvar 52) (Tok.own 2 2))) Tr.leaf)).node (some (V.sym (STy.int .i64) (SE.dleaf (STy.int .i64) ((SE.dvar 2).dcell (SE.ivar .i64 50) 0)))) ((Tr.leaf.node (some (V.ptr 1 0)) Tr.leaf).node (some (V.val (Value.bool false))) (Tr.leaf.node (some (V.val (Value.int .i64 0))) Tr.leaf))).node (some (V.ptr 1 0)) (((Tr.leaf.node (some (V.ptr 1 0)) Tr.leaf).node (some (V.ptr 4 0)) (Tr.leaf.node (some (V.sym (STy.int .i64) (SE.dvar 52).dlen)) Tr.leaf)).node none ((Tr.leaf.node (some (V.ptr 1 2)) Tr.leaf).node none Tr.leaf)), h := { tab := ((Tr.leaf.node (some (Blk.cells [V.sym (STy.int .i64) (SE.dleaf (STy.int .i64) ((SE.dvar 2).dcell (SE.ivar .i64 50) 0)), V.sli (((Sh.sc (STy.int .i64)).cons Sh.nil).li.cons Sh.nil).li ((SE.dvar 2).dcell (SE.ivar .i64 50) 1).dnil ((SE.dvar 2).dcell (SE.ivar .i64 50) 1) Tok.unk])) Tr.leaf).node (some (Blk.cells [V.val (Value.bool true), V.sym (STy.int .i64) (SE.ivar .i64 53), V.sli ((Sh.sc (STy.int .i64)).cons ((((Sh.sc (STy.int .i64)).cons Sh.nil).li.cons Sh.nil).li.cons Sh.nil)).li (SE.bvar 51) (SE.dvar 52) (Tok.own 2 2)])) Tr.leaf).node (some (Blk.cells [V.sym (STy.int .i64) (SE.dleaf (STy.int .i64) (SE.dvar 4)), V.sym (STy.int .i64) (SE.dleaf (STy.int .i64) (SE.dvar 5)), V.sym (STy.int .i64) (SE.dleaf (STy.int .i64) (SE.dvar 6)), V.sym (STy.int .i64) (SE.dleaf (STy.int .i64) (SE.dvar 7))])) ((Tr.leaf.node (some (Blk.cells [V.val (Value.int .i64 0), V.list true [] Tok.full])) Tr.leaf).node (some (Blk.tail true)) Tr.leaf), next := 5, base := 4, low := none } }
def LM2 : LoopP where
  f := 24
  i := 0
  key := 917696
  D := mkLoop (loopAt tbN 24 0) entM2 [(13, iv 54)] [] [(.exit 0, [], []), (.ret, [(5, .val (.bool true))], [(4, .cells [iv 67, .sli shL (.bvar 68) (.dvar 69) .unk])])] 5 7 (famPat 54 []) (fun n => Nat.ble 67 n && Nat.ble n 69)
  cs := [.cmp .lss (.ivar .i64 55) (.int .i64 0)]
theorem st_M2 : startOf LM2.D = some [(54, .sc (.int .i64), .int .i64 0)] := by kernel_rfl
def rnM2 (r : Nat → Value) := sums LM2.D (execF kn0 (callF kn0 Try.prog (tbN.atS r noSp noLp) 100 100) Try.prog (tbN.atS r noSp noLp) 100 (.code (loopAt tbN 24 0)) pcN2 LM2.D.hd)
def lpM2 : Lp := lpOf [LM2.e]
def entM3 : St := { env := ((((((Tr.leaf.node (some V.top) Tr.leaf).node (some (V.ptr 3 0)) Tr.leaf).node (some (V.sli ((Sh.sc (STy.int .i64)).cons ((((Sh.sc (STy.int .i64)).cons Sh.nil).li.cons Sh.nil).li.cons Sh.nil)).li (SE.dvar 2).dnil (SE.dvar 2) Tok.unk)) ((Tr.leaf.node (some V.top) Tr.leaf).node (some (V.sym (STy.int .i64) ((SE.dvar 2).dcell (SE.ivar .i64 50) 1).dlen)) Tr.leaf)).node (some (V.ptr 7 0)) (((Tr.leaf.node (some V.top) Tr.leaf).node (some (V.sym (STy.int .i64) (SE.ivar .i64 56))) Tr.leaf).node (some (V.sym STy.bool (SE.cmp .lss (SE.dleaf (STy.int .i64) ((SE.dvar 2).dcell (SE.ivar .i64 50) 0)) (SE.int .i64 0)))) (Tr.leaf.node (some V.top) Tr.leaf))).node (some V.top) ((((Tr.leaf.node (some V.top) Tr.leaf).node (some (V.val (Value.bool false))) Tr.leaf).node (some (V.cptr [V.sym (STy.int .i64) (SE.dleaf (STy.int .i64) ((SE.dvar 2).dcell (SE.ivar .i64 50) 0)), V.sli (((Sh.sc (STy.int .i64)).cons Sh.nil).li.cons Sh.nil).li ((SE.dvar 2).dcell (SE.ivar .i64 50) 1).dnil ((SE.dvar 2).dcell (SE.ivar .i64 50) 1) Tok.unk])) (Tr.leaf.node (some V.top) Tr.leaf)).node none (((Tr.leaf.node (some V.top) Tr.leaf).node (some (V.sym (STy.int .i64) (SE.dleaf (STy.int .i64) ((SE.dvar 2).dcell (SE.ivar .i64 50) 0)))) Tr.leaf).node (some (V.sym STy.bool (SE.cmp .geq (SE.dleaf (STy.int .i64) ((SE.dvar 2).dcell (SE.ivar .i64 50) 0)) (SE.int .i64 256)))) (Tr.leaf.node (some V.top) Tr.leaf)))).node none (((((Tr.leaf.node (some V.top) Tr.leaf).node (some (V.tuple [V.agg [V.val (Value.int .i64 0), V.list true [] Tok.full], V.val (Value.bool false)])) Tr.leaf).node (some (V.sym (STy.int .i64) (SE.ivar .i64 50))) ((Tr.leaf.node (some V.top) Tr.leaf).node (some V.top) Tr.leaf)).node (some (V.sym (STy.int .i64) (SE.ivar .i64 56))) (((Tr.leaf.node (some V.top) Tr.leaf).node (some V.top) Tr.leaf).node (some (V.ptr 3 0)) (Tr.leaf.node (some V.top) Tr.leaf))).node none ((((Tr.leaf.node (some V.top) Tr.leaf).node (some (V.agg [V.sym (STy.int .i64) (SE.dleaf (STy.int .i64) ((SE.dvar 2).dcell (SE.ivar .i64 50) 0)), V.sli (((Sh.sc (STy.int .i64)).cons Sh.nil).li.cons Sh.nil).li ((SE.dvar 2).dcell (SE.ivar .i64 50) 1).dnil ((SE.dvar 2).dcell (SE.ivar .i64 50) 1) Tok.unk])) Tr.leaf).node (some (V.ptr 3 0)) (Tr.leaf.node (some V.top) Tr.leaf)).node (some (V.agg [V.val (Value.bool true), V.val (Value.int .i64 1), V.list true [] Tok.full])) (((Tr.leaf.node (some V.top) Tr.leaf).node (some (V.ptr 3 1)) Tr.leaf).node (some (V.tuple [V.agg [V.val (Value.int .i64 0), V.list true [] Tok.full], V.val (Value.bool false)])) (Tr.leaf.node (some V.top) Tr.leaf))))).node (some (V.sli ((Sh.sc (STy.int .i64)).cons ((((Sh.sc (STy.int .i64)).cons Sh.nil).li.cons Sh.nil).li.cons Sh.nil)).li (SE.dvar 2).dnil (SE.dvar 2) Tok.unk)) ((((((Tr.leaf.node (some V.top) Tr.leaf).node (some (V.sym (STy.int .i64) (SE.dleaf (STy.int .i64) ((SE.dvar 2).dcell (SE.ivar .i64 50) 0)))) Tr.leaf).node (some (V.sym (STy.int .i64) (SE.dvar 2).dlen)) ((Tr.leaf.node (some V.top) Tr.leaf).node (some (V.val (Value.int .i64 0))) Tr.leaf)).node (some (V.val (Value.bool false))) (((Tr.leaf.node (some V.top) Tr.leaf).node (some (V.sym STy.bool (SE.cmp .neq (SE.ivar .i64 56) (SE.int .i64 0)))) Tr.leaf).node (some (V.sym STy.bool (SE.cmp .lss (SE.dleaf (STy.int .i64) ((SE.dvar 2).dcell (SE.ivar .i64 50) 0)) (SE.int .i64 0)))) (Tr.leaf.node (some V.top) Tr.leaf))).node (some (V.ptr 1 0)) ((((Tr.leaf.node (some V.top) Tr.leaf).node (some (V.val (Value.bool false))) Tr.leaf).node (some (V.agg [V.sym (STy.int .i64) (SE.dleaf (STy.int .i64) ((SE.dvar 2).dcell (SE.ivar .i64 50) 0)), V.sli (((Sh.sc (STy.int .i64)).cons Sh.nil).li.cons Sh.nil).li ((SE.dvar 2).dcell (SE.ivar .i64 50) 1).dnil ((SE.dvar 2).dcell (SE.ivar .i64 50) 1) Tok.unk])) (Tr.leaf.node (some V.top) Tr.leaf)).node (some V.top) (((Tr.leaf.node (some V.top) Tr.leaf).node (some (V.agg [V.sym (STy.int .i64) (SE.dleaf (STy.int .i64) ((SE.dvar 2).dcell (SE.ivar .i64 50) 0)), V.list true [] Tok.full])) Tr.leaf).node (some (V.sym STy.bool (SE.cmp .geq (SE.dleaf (STy.int .i64) ((SE.dvar 2).dcell (SE.ivar .i64 50) 0)) (SE.int .i64 256)))) (Tr.leaf.node (some V.top) Tr.leaf)))).node (some V.top) (((((Tr.leaf.node (some V.top) Tr.leaf).node (some (V.agg [V.val (Value.int .i64 0), V.list true [] Tok.full])) Tr.leaf).node (some (V.sym STy.bool (SE.cmp .lss (SE.ivar .i64 50) (SE.dvar 2).dlen))) ((Tr.leaf.node (some V.top) Tr.leaf).node (some V.top) Tr.leaf)).node (some (V.ptr 8 0)) (((Tr.leaf.node (some V.top) Tr.leaf).node (some (V.ptr 3 0)) Tr.leaf).node (some (V.sym (STy.int .i64) (SE.dleaf (STy.int .i64) ((SE.dvar 2).dcell (SE.ivar .i64 50) 0)))) (Tr.leaf.node (some V.top) Tr.leaf))).node (some (V.ptr 3 0)) ((((Tr.leaf.node (some V.top) Tr.leaf).node (some (V.sym (STy.int .i64) (SE.ivar .i64 56))) Tr.leaf).node (some (V.sym (STy.int .i64) (SE.dleaf (STy.int .i64) ((SE.dvar 2).dcell (SE.ivar .i64 50) 0)))) (Tr.leaf.node (some V.top) Tr.leaf)).node (some (V.ptr 1 0)) (((Tr.leaf.node (some V.top) Tr.leaf).node (some (V.sli (((Sh.sc (STy.int .i64)).cons Sh.nil).li.cons Sh.nil).li ((SE.dvar 2).dcell (SE.ivar .i64 50) 1).dnil ((SE.dvar 2).dcell (SE.ivar .i64 50) 1) Tok.unk)) Tr.leaf).node (some (V.ptr 1 0)) (Tr.leaf.node (some V.top) Tr.leaf))))), h := { tab := (((Tr.leaf.node (some (Blk.cells [V.val (Value.int .i64 0), V.list true [] Tok.full])) Tr.leaf).node (some (Blk.cells [V.sym (STy.int .i64) (SE.dleaf (STy.int .i64) ((SE.dvar 2).dcell (SE.ivar .i64 50) 0)), V.sli (((Sh.sc (STy.int .i64)).cons Sh.nil).li.cons Sh.nil).li ((SE.dvar 2).dcell (SE.ivar .i64 50) 1).dnil ((SE.dvar 2).dcell (SE.ivar .i64 50) 1) Tok.unk])) Tr.leaf).node (some (Blk.cells [V.val (Value.bool true), V.sym (STy.int .i64) (SE.ivar .i64 53), V.sli ((Sh.sc (STy.int .i64)).cons ((((Sh.sc (STy.int .i64)).cons Sh.nil).li.cons Sh.nil).li.cons Sh.nil)).li (SE.bvar 51) (SE.dvar 52) (Tok.own 2 2)])) Tr.leaf).node (some (Blk.cells [V.sym (STy.int .i64) (SE.dleaf (STy.int .i64) (SE.dvar 4)), V.sym (STy.int .i64) (SE.dleaf (STy.int .i64) (SE.dvar 5)), V.sym (STy.int .i64) (SE.dleaf (STy.int .i64) (SE.dvar 6)), V.sym (STy.int .i64) (SE.dleaf (STy.int .i64) (SE.dvar 7))])) (((Tr.leaf.node (some (Blk.cells [V.sym (STy.int .i64) (SE.dleaf (STy.int .i64) ((SE.dvar 2).dcell (SE.ivar .i64 50) 0)), V.list true [] Tok.full])) Tr.leaf).node (some (Blk.cells [V.val (Value.int .i64 0), V.list true [] Tok.full])) Tr.leaf).node (some (Blk.tail true)) Tr.leaf), next := 9, base := 1, low := none } }
def LM3 : LoopP where
  f := 11
  i := 1
  key := 3212288
  D := mkLoop (loopAt tbN 11 1) entM3 [(48, iv 57)] [(8, .cells [cdN, .sli shL (.bvar 58) (.dvar 59) (.own 9 1)]), (9, .tail true)] [(.exit 2, [], [(8, .cells [cdN, .sli shL (.bvar 60) (.dvar 61) .unk])])] 10 21 (famPat 57 [58, 59]) (fun n => Nat.ble 60 n && Nat.ble n 61)
  cs := []
def rnM3 (r : Nat → Value) := sums LM3.D (execF kn0 (callF kn0 Try.prog (tbN.atS r noSp noLp) 100 100) Try.prog (tbN.atS r noSp noLp) 100 (.code (loopAt tbN 11 1)) pcN3 LM3.D.hd)
def lpM1 : Lp := lpOf [LM2.e, LM3.e]
def rnM1 (r : Nat → Value) := sums LM1.D (execF kn0 (callF kn0 Try.prog (tbN.atS r spN lpM1) 100 100) Try.prog (tbN.atS r spN lpM1) 100 (.code (loopAt tbN 11 0)) pcN1 LM1.D.hd)
def rnM1e (r : Nat → Value) := sums LM1.D (execF kn0 (callF kn0 Try.prog (tbN.atS r noSp noLp) 100 100) Try.prog (tbN.atS r noSp noLp) 100 (.code (loopAt tbN 11 0)) pcN1e LM1.D.hd)
theorem run_M1 (r : Nat → Value) : rnM1 r = some MN1 := by kernel_rfl
theorem run_M1e (r : Nat → Value) : rnM1e r = some MN1e := by kernel_rfl
theorem run_M2 (r : Nat → Value) : rnM2 r = some MN2 := by kernel_rfl
theorem run_M3 (r : Nat → Value) : rnM3 r = some MN3 := by kernel_rfl
theorem st_M1 : startOf LM1.D = some [(50, .sc (.int .i64), .int .i64 0), (53, .sc (.int .i64), .int .i64 1), (51, .sc .bool, .bool true), (52, .dat, .dlst)] := by kernel_rfl
theorem st_M3 : startOf LM3.D = some [(57, .sc (.int .i64), .int .i64 0), (58, .sc .bool, .bool true), (59, .dat, .dlst)] := by kernel_rfl
theorem LM2_ok {ρ : Nat → Value} {c : Int} (hc : (SE.dleaf (.int .i64) (.dcell (.dvar 2) (.ivar .i64 50) 0)).num ρ = c) (h54 : ρ 54 = .int .i64 0) (h55 : ρ 55 = .int .i64 (idxD c (elsD (ρ 52))))
    (h67 : ρ 67 = .int .i64 (codeD ((elsD (ρ 52)).getD (idxD c (elsD (ρ 52))).toNat .nilFunc))) (h68 : truthOf (ρ 68) = isNilD (cellD ((elsD (ρ 52)).getD (idxD c (elsD (ρ 52))).toNat .nilFunc) 1)) (h69 : ρ 69 = cellD ((elsD (ρ 52)).getD (idxD c (elsD (ρ 52))).toNat .nilFunc) 1)
    (hn : (elsD (ρ 52)).length ≤ 1000) : LoopPOk Try.prog (tbN.atS ρ noSp noLp) LM2 := by
  have hr := idxD_range c (elsD (ρ 52))
  have e55 : (SE.ivar .i64 55).num ρ = idxD c (elsD (ρ 52)) := iv_at h55 (by omega) (by omega)
  refine fam_loop (Tb.only_ok tb_ok _) (Tb.only_wf tb_wf _) (m := 54) (ms := []) (g := fun _ => ρ) (n := (elsD (ρ 52)).length) (Q := fun x => idxFrom c (elsD (ρ 52)) x = idxD c (elsD (ρ 52))) h54 (fun k hk => by simp at hk)
    (fun x _ _ => noneN_ok _) (by kernel_rfl) rfl rfl (idxFrom_zero _ _) st_M2 (UpdOk.int (ivar_zero h54) .nil) (fun _ => rfl) (kn := kn0) (n0 := 100) (n1 := 100) (n2 := 100) (fun x => kn0_ok) (pc := pcN2) (fun x hx _ => pc_fam (by omega) (PC.holds_nil _)) run_M2 ?_
  intro x hx1 hx2
  rw [show wayOf ρ LM2.cs = if (SE.ivar .i64 55).num ρ < 0 then 0 else 1 from way_neg, e55]
  have h2 : (SE.dvar 52).data (fam ρ 54 [] (fun _ => ρ) x) = ρ 52 := rfl
  have h0 : (SE.dleaf (.int .i64) (.dcell (.dvar 2) (.ivar .i64 50) 0)).num (fam ρ 54 [] (fun _ => ρ) x) = c := hc
  have hN := n_fam (ρ := ρ) (m := 54) (ms := []) (g := fun _ => ρ) (show x ≤ 9223372036854775807 by omega)
  have hrow : ∀ j, (SE.dcell (.dvar 52) (.ivar .i64 54) j).data (fam ρ 54 [] (fun _ => ρ) x) = cellD ((elsD (ρ 52)).getD x .nilFunc) j := fun j => by rw [d_cell, h2, hN, Int.toNat_natCast]
  have hcd : (SE.dleaf (.int .i64) (.dcell (.dvar 52) (.ivar .i64 54) 0)).num (fam ρ 54 [] (fun _ => ρ) x) = codeD ((elsD (ρ 52)).getD x .nilFunc) := by rw [n_leaf, hrow]; rfl
  unfold MN2
  rw [all_cons, all_cons, all_cons]
  refine ⟨fun hp => ?_, fun hp => ?_, fun hp => ?_, fun _ h => by simp at h⟩
  all_goals simp only [h_cons, h_nil, t_lss, t_eql, n_int, n_dlen, h0, h2, hN, hcd, if_true, Bool.false_eq_true, if_false] at hp
  · obtain ⟨h1, h3, _⟩ := hp
    rw [idxFrom_hit (by omega) h1] at hx2
    have hix : (idxD c (elsD (ρ 52))).toNat = x := by rw [← hx2]; simp
    rw [hix] at h67 h68 h69
    refine ⟨by rw [← hx2, if_neg (by omega)], UpdOk.int ?_ (UpdOk.bool ?_ (UpdOk.dat ?_ .nil))⟩
    · rw [hcd]
      exact (iv_at (show fam ρ 54 [] (fun _ => ρ) x 67 = _ from h67) (codeD_rng _).1 (codeD_rng _).2).symm
    · show isNilD ((SE.dcell (.dvar 52) (.ivar .i64 54) 1).data _) = truthOf (ρ 68)
      rw [hrow, h68]
    · rw [hrow]
      exact h69.symm
  · obtain ⟨h1, h3, _⟩ := hp
    rw [idxFrom_miss (by omega) h1] at hx2
    exact ⟨by omega, hx2, UpdOk.int (next_fam (by omega)) .nil⟩
  · rw [idxFrom_end (by omega)] at hx2
    rw [← hx2]
    exact ⟨rfl, .nil⟩
theorem LM3_ok {ρ : Nat → Value} {z : Nat} (h50 : (SE.ivar .i64 50).num ρ = z) (h57 : ρ 57 = .int .i64 0) (h58 : ρ 58 = .bool true) (h59 : ρ 59 = listD []) (h60 : ρ 60 = .bool (decide ((levD ((elsD (ρ 2)).getD z .nilFunc)).length = 0))) (h61 : ρ 61 = listD ((levD ((elsD (ρ 2)).getD z .nilFunc)).map cpL))
    (hn : smallLv (levD ((elsD (ρ 2)).getD z .nilFunc))) : LoopPOk Try.prog (tbN.atS ρ noSp noLp) LM3 := by
  generalize hL : levD ((elsD (ρ 2)).getD z .nilFunc) = L at *
  generalize hg : (fun (x n : Nat) => if Nat.beq n 58 then Value.bool (decide (x = 0)) else listD ((L.take x).map cpL)) = g
  have hn1 := hn.1
  have h2 : ∀ x, (SE.dvar 2).data (fam ρ 57 [58, 59] g x) = ρ 2 := fun x => rfl
  have h50x : ∀ x, (SE.ivar .i64 50).num (fam ρ 57 [58, 59] g x) = z := fun x => h50
  have hN : ∀ x, x ≤ L.length → (SE.ivar .i64 57).num (fam ρ 57 [58, 59] g x) = x := fun x hx => n_fam (by omega)
  have h58x : ∀ x, fam ρ 57 [58, 59] g x 58 = .bool (decide (x = 0)) := fun x => by rw [← hg]; rfl
  have h59x : ∀ x, fam ρ 57 [58, 59] g x 59 = listD ((L.take x).map cpL) := fun x => by rw [← hg]; rfl
  have hd59 : ∀ x, (SE.dvar 59).data (fam ρ 57 [58, 59] g x) = listD ((L.take x).map cpL) := h59x
  have hlv : ∀ x, elsD ((SE.dcell (.dvar 2) (.ivar .i64 50) 1).data (fam ρ 57 [58, 59] g x)) = L := fun x => by rw [d_cell, h2, h50x, Int.toNat_natCast]; exact hL
  have hrow : ∀ x, x ≤ L.length → elsD ((SE.dcell (.dcell (.dvar 2) (.ivar .i64 50) 1) (.ivar .i64 57) 0).data (fam ρ 57 [58, 59] g x)) = symsD (L.getD x .nilFunc) := fun x hx => by rw [d_cell, hlv, hN x hx, Int.toNat_natCast]; rfl
  refine fam_loop (Tb.only_ok tb_ok _) (Tb.only_wf tb_wf _) (m := 57) (ms := [58, 59]) (g := g) (n := L.length) (Q := fun x => True) h57 (fun k hk => by
      rcases List.mem_cons.1 hk with rfl | hk
      · rw [h58, ← hg]; rfl
      · rw [List.mem_singleton.1 hk, h59, ← hg]; rfl)
    (fun x _ _ => noneN_ok _) (by kernel_rfl) rfl rfl trivial st_M3 (UpdOk.int (ivar_zero h57) (UpdOk.bool (by rw [h58]; rfl) (UpdOk.dat (by rw [h59]; rfl) .nil))) (fun _ => rfl) (kn := kn0) (n0 := 100) (n1 := 100) (n2 := 100) (fun x => kn0_ok) (pc := pcN3)
    (fun x hx _ => pc_fam (by omega) (addPC_ok (addPC_ok (PC.holds_nil _) (by rw [t_lss, if_pos rfl, n_dlen, n_int, hd59, els_list, List.length_map, List.length_take]; omega)) (by rw [t_lss, if_pos rfl, n_dlen, n_int, hrow x hx]; have := small_row hn x; omega))) run_M3 ?_
  intro x hx1 _
  have nxt : ∀ (h : x < L.length) (e : SE), e.data (fam ρ 57 [58, 59] g x) = cpL (L.getD x .nilFunc) → (SE.dsnoc (.dvar 59) e).data (fam ρ 57 [58, 59] g x) = fam ρ 57 [58, 59] g (x + 1) 59 := by
    intro h e he
    show listD (elsD ((SE.dvar 59).data _) ++ [e.data _]) = _
    rw [hd59, els_list, he, h59x, List.take_add_one, List.getElem?_eq_getElem h, List.map_append, getD_at h]
    rfl
  unfold MN3
  rw [all_cons, all_cons, all_cons]
  refine ⟨fun hp => ?_, fun hp => ?_, fun hp => ?_, fun _ h => by simp at h⟩
  all_goals simp only [h_cons, h_nil, t_lss, t_eql, n_int, n_dlen, hlv, hrow x hx1, hN x hx1, if_true, Bool.false_eq_true, if_false] at hp
  · obtain ⟨h1, h3, _⟩ := hp
    refine ⟨by omega, trivial, UpdOk.int (next_fam (by omega)) (UpdOk.bool (by rw [h58x]; rfl) (UpdOk.dat (nxt (by omega) _ ?_) .nil))⟩
    show listD ([] ++ [listD []]) = listD [listD (symsD (L.getD x .nilFunc))]
    rw [List.length_eq_zero_iff.1 (show (symsD (L.getD x .nilFunc)).length = 0 by omega)]
    rfl
  · obtain ⟨h1, h3, _⟩ := hp
    refine ⟨by omega, trivial, UpdOk.int (next_fam (by omega)) (UpdOk.bool (by rw [h58x]; rfl) (UpdOk.dat (nxt (by omega) _ ?_) .nil))⟩
    show listD ([] ++ [listD (elsD (listD ([] ++ elsD ((SE.dcell (.dcell (.dvar 2) (.ivar .i64 50) 1) (.ivar .i64 57) 0).data _))))]) = listD [listD (symsD (L.getD x .nilFunc))]
    rw [hrow x hx1, els_list]
    rfl
  · obtain ⟨h1, _⟩ := hp
    have hxe : x = L.length := by omega
    refine ⟨rfl, UpdOk.bool ?_ (UpdOk.dat ?_ .nil)⟩
    · show truthOf (fam ρ 57 [58, 59] g x 58) = truthOf (ρ 60)
      rw [h58x, h60, hxe]
    · rw [hd59, hxe, List.take_length]
      exact h61.symm
theorem LM1_ok {ρ : Nat → Value} (hb : Bnd (ρ 2)) (hl : largeD (elsD (ρ 2)) = false) (h50 : ρ 50 = .int .i64 0) (hms : ∀ k, k ∈ msN → ρ k = gN (elsD (ρ 2)) 0 k) (h54 : ρ 54 = .int .i64 0) (h57 : ρ 57 = .int .i64 0) (h58 : ρ 58 = .bool true) (h59 : ρ 59 = listD [])
    (h62 : ρ 62 = .int .i64 (errD (elsD (ρ 2)) 0)) (h63 : ρ 63 = .bool (decide (ixD (elsD (ρ 2)) 0 = 0))) (h64 : ρ 64 = listD (((elsD (ρ 2)).take (ixD (elsD (ρ 2)) 0)).map cpK)) (h65 : ρ 65 = .int .i64 (laysD ((elsD (ρ 2)).take (ixD (elsD (ρ 2)) 0)))) : LoopPOk Try.prog (tbN.atS ρ spN lpM1) LM1 := by
  obtain ⟨hl1, hsm, hl3⟩ := large_small hl
  generalize hL : elsD (ρ 2) = L at *
  have hF : ∀ x, fam ρ 50 msN (gN L) x = fam ρ 50 msN (gN L) x := fun _ => rfl
  have h2 : ∀ x, (SE.dvar 2).data (fam ρ 50 msN (gN L) x) = ρ 2 := fun x => rfl
  have h2e : ∀ x, elsD (fam ρ 50 msN (gN L) x 2) = L := fun x => hL
  have hN : ∀ x, x ≤ L.length → (SE.ivar .i64 50).num (fam ρ 50 msN (gN L) x) = x := fun x hx => n_fam (by omega)
  have v52 : ∀ x, (SE.dvar 52).data (fam ρ 50 msN (gN L) x) = listD ((L.take x).map cpK) := fun x => rfl
  have e52 : ∀ x, elsD (fam ρ 50 msN (gN L) x 52) = (L.take x).map cpK := fun x => els_list _
  have hcode : ∀ x, x ≤ L.length → (SE.dleaf (.int .i64) (.dcell (.dvar 2) (.ivar .i64 50) 0)).num (fam ρ 50 msN (gN L) x) = codeD (L.getD x .nilFunc) := fun x hx => by rw [code_num (hN x hx), h2e]
  have hidx := fun x => idxD_range (codeD (L.getD x .nilFunc)) ((L.take x).map cpK)
  have hlen : ∀ x, ((L.take x).map cpK).length ≤ 300 := fun x => by rw [List.length_map, List.length_take]; omega
  have e55 : ∀ x, (SE.ivar .i64 55).num (fam ρ 50 msN (gN L) x) = idxD (codeD (L.getD x .nilFunc)) (L.take x) := fun x => by
    rw [iv_at (show fam ρ 50 msN (gN L) x 55 = .int .i64 (idxD (codeD (L.getD x .nilFunc)) ((L.take x).map cpK)) from rfl) (by have := hidx x; omega) (by have := hidx x; have := hlen x; omega), idx_map code_cpK]
  have hchk := fun x => chkD_rng (levD (L.getD x .nilFunc))
  have e56 : ∀ x, (SE.ivar .i64 56).num (fam ρ 50 msN (gN L) x) = chkD (levD (L.getD x .nilFunc)) 5 2 6 := fun x => iv_at (show fam ρ 50 msN (gN L) x 56 = _ from rfl) (by have := hchk x; omega) (by have := hchk x; omega)
  have e53 : ∀ x, (SE.ivar .i64 53).num (fam ρ 50 msN (gN L) x) = laysD (L.take x) := fun x => n_iv (show fam ρ 50 msN (gN L) x 53 = _ from rfl) (by have := hsm.lays x; omega)
  have her := errD_rng L 0
  have e62 : ∀ x, (SE.ivar .i64 62).num (fam ρ 50 msN (gN L) x) = errD L 0 := fun x => iv_at (show fam ρ 50 msN (gN L) x 62 = _ from h62) (by omega) (by omega)
  have hcs : ∀ x, wayOf (fam ρ 50 msN (gN L) x) LM1.cs = if errD L 0 = 0 then 0 else 1 := fun x => by
    show wayOf _ [.cmp .eql (.ivar .i64 62) (.int .i64 0)] = _
    rw [way_eq0, e62]
  have hw : wayOf ρ LM1.cs = if errD L 0 = 0 then 0 else 1 := by
    show wayOf _ [.cmp .eql (.ivar .i64 62) (.int .i64 0)] = _
    rw [way_eq0, iv_at h62 (by omega) (by omega)]
  have hpc0 : ∀ x, x ≤ L.length → pcN0.holds (fam ρ 50 msN (gN L) x) := fun x hx => pc_fam (by omega) (addPC_ok (addPC_ok (PC.holds_nil _) (by rw [t_lss, if_pos rfl, n_dlen, n_int, h2, hL]; omega)) (by rw [t_lss, if_pos rfl, n_dlen, n_int, v52, els_list]; have := hlen x; omega))
  have outs : ∀ x, x = ixD L 0 → UpdOk (fam ρ 50 msN (gN L) x) (fam ρ 50 msN (gN L) x) [(65, .sc (.int .i64), .ivar .i64 53), (63, .sc .bool, .bvar 51), (64, .dat, .dvar 52)] := by
    intro x hx
    refine UpdOk.int ?_ (UpdOk.bool ?_ (UpdOk.dat ?_ .nil))
    · rw [e53, hx]
      exact (n_iv (show fam ρ 50 msN (gN L) (ixD L 0) 65 = _ from h65) (by have := hsm.lays (ixD L 0); omega)).symm
    · show decide (x = 0) = truthOf (ρ 63)
      rw [h63, hx]
      rfl
    · rw [v52, hx]
      exact h64.symm
  refine fam_loopE (Tb.only_ok tb_ok _) (Tb.only_wf tb_wf _) (m := 50) (ms := msN) (g := gN L) (n := L.length) (Q := fun x => errD L x = errD L 0 ∧ ixD L x = ixD L 0) h50 hms
    (fun x hx _ => specP_of (l := [LM2, LM3]) (fs := fsN) (fun f fn hf => (Tb.only_func hf).1) (spOf_ok (tb := tbN) (l := [eLarge, eCheck]) (fun e he => by
        rcases List.mem_cons.1 he with rfl | he
        · exact large_at hb (by rw [h2e]; exact hl)
        · rw [List.mem_singleton.1 he]
          exact check_at (z := x) (hN x (by omega)) (by rw [h2e]; rfl) (by rw [h2e]; exact hsm.row x))) (by kernel_rfl) (fun e he => by
      rcases List.mem_cons.1 he with rfl | he
      · refine LoopPOk.tb (tb := tbN.atS (fam ρ 50 msN (gN L) x) noSp noLp) (tb' := tbN.atS (fam ρ 50 msN (gN L) x) spN noLp) rfl rfl rfl (LM2_ok (c := codeD (L.getD x .nilFunc)) (hcode x (by omega)) h54 ?_ ?_ ?_ ?_ ?_)
        · rw [e52]; rfl
        · rw [e52]; rfl
        · rw [e52]; rfl
        · rw [e52]; rfl
        · rw [e52]; have := hlen x; omega
      · rw [List.mem_singleton.1 he]
        exact LoopPOk.tb (tb := tbN.atS (fam ρ 50 msN (gN L) x) noSp noLp) (tb' := tbN.atS (fam ρ 50 msN (gN L) x) spN noLp) rfl rfl rfl (LM3_ok (z := x) (hN x (by omega)) h57 h58 h59 (by rw [h2e]; rfl) (by rw [h2e]; rfl) (by rw [h2e]; exact hsm.row x))))
    (by kernel_rfl) rfl rfl ⟨rfl, rfl⟩ st_M1 (UpdOk.int (ivar_zero h50) (UpdOk.int (by rw [n_int]; exact (n_iv (x := 1) (hms 53 (by decide)) (by omega)).symm) (UpdOk.bool (by rw [hms 51 (by decide)]; rfl) (UpdOk.dat (by rw [hms 52 (by decide)]; rfl) .nil)))) (fun x => (hcs x).trans hw.symm)
    (kn := kn0) (n0 := 100) (n1 := 100) (n2 := 100) (fun x => kn0_ok) (fun x => kn0_ok) (pc := pcN1) (pcE := pcN1e)
    (fun x hx _ => addPC_ok (hpc0 x (by omega)) (by rw [t_lss, if_pos rfl, hN x (by omega), n_dlen, h2, hL]; omega))
    (fun _ => addPC_ok (hpc0 _ (Nat.le_refl _)) (by rw [t_lss, if_neg (by simp), hN _ (Nat.le_refl _), n_dlen, h2, hL]; omega)) run_M1 run_M1e ?_ ?_
  · intro x hx1 hx2
    have hx1' : x ≤ L.length := Nat.le_of_lt hx1
    obtain ⟨hx2, hx3⟩ := hx2
    rw [errD_lt hx1] at hx2
    rw [ixD_lt hx1] at hx3
    have hre := refErr_rng L x
    rw [hw]
    have bad : ∀ e : SE, e.num (fam ρ 50 msN (gN L) x) = refErr L x → refErr L x ≠ 0 → RdOk (fam ρ 50 msN (gN L)) L.length (fun x => errD L x = errD L 0 ∧ ixD L x = ixD L 0) (if errD L 0 = 0 then 0 else 1) x (.out 1 [(62, .sc (.int .i64), e), (65, .sc (.int .i64), .ivar .i64 53), (63, .sc .bool, .bvar 51), (64, .dat, .dvar 52)]) := by
      intro e he h0
      rw [if_neg h0] at hx2 hx3
      refine ⟨by rw [← hx2, if_neg h0], UpdOk.int ?_ (outs x hx3)⟩
      rw [he, e62, hx2]
    unfold MN1
    rw [all_cons, all_cons, all_cons, all_cons, all_cons]
    refine ⟨fun hp => ?_, fun hp => ?_, fun hp => ?_, fun hp => ?_, fun hp => ?_, fun _ h => by simp at h⟩
    all_goals simp only [h_cons, h_nil, t_lss, t_eql, n_int, hcode x hx1', e55, e56, if_true, Bool.false_eq_true, if_false] at hp
    · have hv : refErr L x = 6 := by unfold refErr; rw [if_pos (.inl hp.1)]
      exact bad (.int .i64 6) (by rw [hv]; rfl) (by omega)
    · have hv : refErr L x = 6 := by unfold refErr; rw [if_pos (.inr (by omega))]
      exact bad (.int .i64 6) (by rw [hv]; rfl) (by omega)
    · have hv : refErr L x = chkD (levD (L.getD x .nilFunc)) 5 2 6 := by unfold refErr; rw [if_neg (by omega), if_neg (by omega)]
      exact bad (.ivar .i64 56) (by rw [hv, e56]) (by rw [hv]; exact hp.1)
    · have hv : refErr L x = 0 := by unfold refErr; rw [if_neg (by omega), if_neg (by omega)]; exact hp.1
      rw [if_pos hv] at hx2 hx3
      refine ⟨hx1, ⟨hx2, hx3⟩, UpdOk.int (next_fam (by omega)) (UpdOk.int ?_ (UpdOk.bool rfl (UpdOk.dat ?_ .nil)))⟩
      · rw [n_max, e53, e53, n_dlen, lays_take hx1]
        have h61 : elsD ((SE.dvar 61).data (fam ρ 50 msN (gN L) x)) = (levD (L.getD x .nilFunc)).map cpL := els_list _
        rw [h61, List.length_map]
        split <;> omega
      · show listD (elsD ((SE.dvar 52).data _) ++ [listD (elsD (listD (elsD (listD []) ++ [.int .i64 ((SE.dleaf (.int .i64) (.dcell (.dvar 2) (.ivar .i64 50) 0)).num _)])) ++ [if (decide ((levD (L.getD x .nilFunc)).length = 0)) = true then .nilFunc else listD (elsD (listD ((levD (L.getD x .nilFunc)).map cpL)))])]) = listD ((L.take (x + 1)).map cpK)
        rw [v52, els_list, els_list, els_list, els_list, hcode x hx1', List.take_add_one, List.getElem?_eq_getElem hx1, List.map_append, getD_at hx1]
        show listD (_ ++ [listD [.int .i64 (codeD L[x]), if decide ((levD L[x]).length = 0) = true then .nilFunc else listD ((levD L[x]).map cpL)]]) = listD (_ ++ [cpK L[x]])
        unfold cpK
        by_cases hz : (levD L[x]).length = 0 <;> simp [hz]
    · have hv : refErr L x = 7 := by unfold refErr; rw [if_neg (by omega), if_pos (by omega)]
      exact bad (.int .i64 7) (by rw [hv]; rfl) (by omega)
  · intro hx2
    obtain ⟨hx2, hx3⟩ := hx2
    rw [errD_end (Nat.le_refl _)] at hx2
    rw [ixD_end (Nat.le_refl _)] at hx3
    rw [hw]
    unfold MN1e
    rw [all_cons]
    refine ⟨fun hp => ?_, fun _ h => by simp at h⟩
    exact ⟨by rw [← hx2]; rfl, outs _ hx3⟩
end
end Go.Proofs.Ytaidiaiedhbaoaa

/- The reference's New behind the law's modifiers: as KmV, one block further. -/
set_option linter.unusedVariables false
set_option linter.unusedSimpArgs false
namespace Go.Proofs.Ytaidiaiedhbaoaa
open Go.Sx Go.ChangeShapes Go.WideShapes Go.ChangeAt Go.RowKit
noncomputable section
def entQ1 : St := { env := (((Tr.leaf.node (some (V.sym (STy.int .i64) (SE.dvar 2).dlen)) Tr.leaf).node (some (V.val (Value.int .i64 0))) Tr.leaf).node none Tr.leaf).node (some (V.sli ((Sh.sc (STy.int .i64)).cons ((((Sh.sc (STy.int .i64)).cons Sh.nil).li.cons Sh.nil).li.cons Sh.nil)).li (SE.dvar 2).dnil (SE.dvar 2) Tok.unk)) (((Tr.leaf.node (some (V.val (Value.int .i64 0))) Tr.leaf).node (some (V.list true [] Tok.full)) Tr.leaf).node (some (V.ptr 100 0)) (Tr.leaf.node (some (V.sli ((Sh.sc (STy.int .i64)).cons ((((Sh.sc (STy.int .i64)).cons Sh.nil).li.cons Sh.nil).li.cons Sh.nil)).li (SE.dvar 2).dnil (SE.dvar 2) Tok.unk)) Tr.leaf)), h := { tab := (Tr.leaf.node (some (Blk.cells [V.val (Value.bool true), V.sym (STy.int .i64) (SE.ivar .i64 65), V.sli ((Sh.sc (STy.int .i64)).cons ((((Sh.sc (STy.int .i64)).cons Sh.nil).li.cons Sh.nil).li.cons Sh.nil)).li (SE.bvar 63) (SE.dvar 64) Tok.unk])) Tr.leaf).node (some (Blk.cells [V.sym (STy.int .i64) (SE.dleaf (STy.int .i64) (SE.dvar 4)), V.sym (STy.int .i64) (SE.dleaf (STy.int .i64) (SE.dvar 5)), V.sym (STy.int .i64) (SE.dleaf (STy.int .i64) (SE.dvar 6)), V.sym (STy.int .i64) (SE.dleaf (STy.int .i64) (SE.dvar 7))])) ((Tr.leaf.node none (((Tr.leaf.node none (Tr.leaf.node (some (Blk.cells [V.list true [] Tok.full])) Tr.leaf)).node none Tr.leaf).node none Tr.leaf)).node none Tr.leaf), next := 101, base := 100, low := none } }
def LQ1 : LoopP where
  f := 12
  i := 0
  key := 590080
  D := mkLoop (loopAt tbN 12 0) entQ1 [(8, iv 70), (4, .sli shK (.bvar 71) (.dvar 72) (.own 101 2))] [(101, .tail true)] [(.exit 0, [(4, .sli shK (.bvar 73) (.dvar 74) .unk)], [])] 102 120 (famPat 70 [71, 72]) (fun n => Nat.ble 73 n && Nat.ble n 74)
  cs := []
def rnQ1 (r : Nat → Value) := sums LQ1.D (execF kn0 (callF kn0 Try.prog (tbN.atS r noSp noLp) 100 100) Try.prog (tbN.atS r noSp noLp) 100 (.code (loopAt tbN 12 0)) pcR1 LQ1.D.hd)
theorem run_Q1 (r : Nat → Value) : rnQ1 r = some MR1 := by kernel_rfl
theorem st_Q1 : startOf LQ1.D = some [(70, .sc (.int .i64), .int .i64 0), (71, .sc .bool, .bool true), (72, .dat, .dlst)] := by kernel_rfl
def entQ2 : St := { env := ((Tr.leaf.node (some (V.val (Value.int .i64 0))) Tr.leaf).node none Tr.leaf).node (some (V.sli ((Sh.sc (STy.int .i64)).cons ((((Sh.sc (STy.int .i64)).cons Sh.nil).li.cons Sh.nil).li.cons Sh.nil)).li (SE.bvar 73) (SE.dvar 74) Tok.unk)) ((Tr.leaf.node (some (V.val (Value.int .i64 0))) Tr.leaf).node (some (V.ptr 120 0)) Tr.leaf), h := { tab := (Tr.leaf.node (some (Blk.cells [V.val (Value.bool true), V.sym (STy.int .i64) (SE.ivar .i64 65), V.sli ((Sh.sc (STy.int .i64)).cons ((((Sh.sc (STy.int .i64)).cons Sh.nil).li.cons Sh.nil).li.cons Sh.nil)).li (SE.bvar 63) (SE.dvar 64) Tok.unk])) Tr.leaf).node (some (Blk.cells [V.sym (STy.int .i64) (SE.dleaf (STy.int .i64) (SE.dvar 4)), V.sym (STy.int .i64) (SE.dleaf (STy.int .i64) (SE.dvar 5)), V.sym (STy.int .i64) (SE.dleaf (STy.int .i64) (SE.dvar 6)), V.sym (STy.int .i64) (SE.dleaf (STy.int .i64) (SE.dvar 7))])) (((Tr.leaf.node none (Tr.leaf.node none (Tr.leaf.node none (Tr.leaf.node (some (Blk.cells [V.list true [] Tok.full])) Tr.leaf)))).node none (((Tr.leaf.node none (Tr.leaf.node (some (Blk.cells [V.list true [] Tok.full])) Tr.leaf)).node none Tr.leaf).node none Tr.leaf)).node none Tr.leaf), next := 121, base := 120, low := none } }
def LQ2 : LoopP where
  f := 26
  i := 0
  key := 1966272
  D := mkLoop (loopAt tbN 26 0) entQ2 [(4, iv 80)] [] [(.exit 0, [], []), (.ret, [(3, iv 62)], [])] 0 140 (famPat 80 [81]) (fun n => Nat.beq n 62)
  cs := [.cmp .eql (.ivar .i64 62) (.int .i64 0)]
def rnQ2 (r : Nat → Value) := sums LQ2.D (execF kn0 (callF kn0 Try.prog (tbN.atS r spV noLp) 100 100) Try.prog (tbN.atS r spV noLp) 100 (.code (loopAt tbN 26 0)) pcV1 LQ2.D.hd)
def rnQ2e (r : Nat → Value) := sums LQ2.D (execF kn0 (callF kn0 Try.prog (tbN.atS r noSp noLp) 100 100) Try.prog (tbN.atS r noSp noLp) 100 (.code (loopAt tbN 26 0)) pcV1e LQ2.D.hd)
theorem run_Q2 (r : Nat → Value) : rnQ2 r = some MV1 := by kernel_rfl
theorem run_Q2e (r : Nat → Value) : rnQ2e r = some MV1e := by kernel_rfl
theorem st_Q2 : startOf LQ2.D = some [(80, .sc (.int .i64), .int .i64 0)] := by kernel_rfl
theorem LQ1_ok {ρ : Nat → Value} (hn : (elsD (ρ 2)).length ≤ 300) (h70 : ρ 70 = .int .i64 0) (h71 : ρ 71 = .bool true) (h72 : ρ 72 = listD []) (h73 : ρ 73 = .bool (decide ((elsD (ρ 2)).length = 0))) (h74 : ρ 74 = listD ((elsD (ρ 2)).map cpR)) : LoopPOk Try.prog (tbN.atS ρ noSp noLp) LQ1 := by
  generalize hL : elsD (ρ 2) = L at *
  generalize hg : (fun (x n : Nat) => if Nat.beq n 71 then Value.bool (decide (x = 0)) else listD ((L.take x).map cpR)) = g
  have h2 : ∀ x, (SE.dvar 2).data (fam ρ 70 [71, 72] g x) = ρ 2 := fun x => rfl
  have hN : ∀ x, x ≤ L.length → (SE.ivar .i64 70).num (fam ρ 70 [71, 72] g x) = x := fun x hx => n_fam (by omega)
  have h71x : ∀ x, fam ρ 70 [71, 72] g x 71 = .bool (decide (x = 0)) := fun x => by rw [← hg]; rfl
  have h72x : ∀ x, fam ρ 70 [71, 72] g x 72 = listD ((L.take x).map cpR) := fun x => by rw [← hg]; rfl
  have hd72 : ∀ x, (SE.dvar 72).data (fam ρ 70 [71, 72] g x) = listD ((L.take x).map cpR) := h72x
  have hcell : ∀ x j, x ≤ L.length → (SE.dcell (.dvar 2) (.ivar .i64 70) j).data (fam ρ 70 [71, 72] g x) = cellD (L.getD x .nilFunc) j := fun x j hx => by rw [d_cell, h2, hN x hx, Int.toNat_natCast, hL]
  refine fam_loop (Tb.only_ok tb_ok _) (Tb.only_wf tb_wf _) (m := 70) (ms := [71, 72]) (g := g) (n := L.length) (Q := fun x => True) h70 (fun k hk => by
      rcases List.mem_cons.1 hk with rfl | hk
      · rw [h71, ← hg]; rfl
      · rw [List.mem_singleton.1 hk, h72, ← hg]; rfl)
    (fun x _ _ => noneN_ok _) (by kernel_rfl) rfl rfl trivial st_Q1 (UpdOk.int (ivar_zero h70) (UpdOk.bool (by rw [h71]; rfl) (UpdOk.dat (by rw [h72]; rfl) .nil))) (fun _ => rfl) (kn := kn0) (n0 := 100) (n1 := 100) (n2 := 100) (fun x => kn0_ok) (pc := pcR1)
    (fun x hx _ => pc_fam (by omega) (addPC_ok (PC.holds_nil _) (by rw [t_lss, if_pos rfl, n_dlen, n_int, hd72, els_list, List.length_map, List.length_take]; omega))) run_Q1 ?_
  intro x hx1 _
  unfold MR1
  rw [all_cons, all_cons]
  refine ⟨fun hp => ?_, fun hp => ?_, fun _ h => by simp at h⟩
  all_goals simp only [h_cons, h_nil, t_lss, n_int, n_dlen, h2, hL, hN x hx1, if_true, Bool.false_eq_true, if_false] at hp
  · obtain ⟨h1, _⟩ := hp
    refine ⟨by omega, trivial, UpdOk.int (next_fam (by omega)) (UpdOk.bool (by rw [h71x]; rfl) (UpdOk.dat ?_ .nil))⟩
    have hc : (SE.dleaf (.int .i64) (.dcell (.dvar 2) (.ivar .i64 70) 0)).num (fam ρ 70 [71, 72] g x) = codeD (L.getD x .nilFunc) := by rw [n_leaf, hcell x 0 hx1]; rfl
    show listD (elsD ((SE.dvar 72).data _) ++ [listD (elsD (listD (elsD (listD []) ++ [.int .i64 ((SE.dleaf (.int .i64) (.dcell (.dvar 2) (.ivar .i64 70) 0)).num _)])) ++ [if isNilD ((SE.dcell (.dvar 2) (.ivar .i64 70) 1).data _) = true then .nilFunc else listD (elsD ((SE.dcell (.dvar 2) (.ivar .i64 70) 1).data _))])]) = fam ρ 70 [71, 72] g (x + 1) 72
    rw [hd72, els_list, els_list, els_list, hc, hcell x 1 hx1, h72x, List.take_add_one, List.getElem?_eq_getElem (show x < L.length by omega), List.map_append, getD_at (show x < L.length by omega)]
    rfl
  · obtain ⟨h1, _⟩ := hp
    have hxe : x = L.length := by omega
    refine ⟨rfl, UpdOk.bool ?_ (UpdOk.dat ?_ .nil)⟩
    · show truthOf (fam ρ 70 [71, 72] g x 71) = truthOf (ρ 73)
      rw [h71x, h73, hxe]
    · rw [hd72, hxe, List.take_length]
      exact h74.symm
theorem LQ2_ok {ρ : Nat → Value} {L : List Value} (hn : smallKs L) (h74 : ρ 74 = listD (L.map cpR)) (h80 : ρ 80 = .int .i64 0) (h81 : ρ 81 = .int .i64 (refErr L 0)) (h62 : ρ 62 = .int .i64 (errD L 0)) : LoopPOk Try.prog (tbN.atS ρ spV noLp) LQ2 := by
  generalize hg : (fun (x n : Nat) => Value.int .i64 (refErr L x)) = g
  have hn1 := hn.1
  have h74x : ∀ x, elsD ((SE.dvar 74).data (fam ρ 80 [81] g x)) = L.map cpR := fun x => by
    show elsD (ρ 74) = _
    rw [h74, els_list]
  have hN : ∀ x, x ≤ L.length → (SE.ivar .i64 80).num (fam ρ 80 [81] g x) = x := fun x hx => n_fam (by omega)
  have h81x : ∀ x, fam ρ 80 [81] g x 81 = .int .i64 (refErr L x) := fun x => by rw [← hg]; rfl
  have hre := refErr_rng L
  have e81 : ∀ x, (SE.ivar .i64 81).num (fam ρ 80 [81] g x) = refErr L x := fun x => iv_at (h81x x) (by have := hre x; omega) (by have := hre x; omega)
  have her := errD_rng L 0
  have e62 : ∀ x, (SE.ivar .i64 62).num (fam ρ 80 [81] g x) = errD L 0 := fun x => iv_at (show fam ρ 80 [81] g x 62 = _ from h62) (by omega) (by omega)
  have hcs : ∀ x, wayOf (fam ρ 80 [81] g x) LQ2.cs = if errD L 0 = 0 then 0 else 1 := fun x => by
    show wayOf _ [.cmp .eql (.ivar .i64 62) (.int .i64 0)] = _
    rw [way_eq0, e62]
  have hw : wayOf ρ LQ2.cs = if errD L 0 = 0 then 0 else 1 := by
    show wayOf _ [.cmp .eql (.ivar .i64 62) (.int .i64 0)] = _
    rw [way_eq0, iv_at h62 (by omega) (by omega)]
  refine fam_loopE (Tb.only_ok tb_ok _) (Tb.only_wf tb_wf _) (m := 80) (ms := [81]) (g := g) (n := L.length) (Q := fun x => errD L x = errD L 0) h80 (fun k hk => by rw [List.mem_singleton.1 hk, ← hg]; exact h81)
    (fun x hx _ => spOf_ok (tb := tbN) (l := [eRC]) (fun e he => by
      rw [List.mem_singleton.1 he]
      exact rc_at hx hn h74 (hN x (by omega)) (h81x x))) (by kernel_rfl) rfl rfl rfl st_Q2 (UpdOk.int (ivar_zero h80) .nil) (fun x => (hcs x).trans hw.symm) (kn := kn0) (n0 := 100) (n1 := 100) (n2 := 100) (fun x => kn0_ok) (fun x => kn0_ok) (pc := pcV1) (pcE := pcV1e)
    (fun x hx _ => addPC_ok (pc_fam (by omega) (PC.holds_nil _)) (by rw [t_lss, if_pos rfl, hN x (by omega), n_dlen, h74x, List.length_map]; omega))
    (fun _ => addPC_ok (pc_fam (by omega) (PC.holds_nil _)) (by rw [t_lss, if_neg (by simp), hN _ (Nat.le_refl _), n_dlen, h74x, List.length_map]; omega)) run_Q2 run_Q2e ?_ ?_
  · intro x hx1 hx2
    rw [errD_lt hx1] at hx2
    rw [hw]
    unfold MV1
    rw [all_cons, all_cons]
    refine ⟨fun hp => ?_, fun hp => ?_, fun _ h => by simp at h⟩
    all_goals simp only [h_cons, h_nil, t_lss, t_eql, n_int, e81, if_true, Bool.false_eq_true, if_false] at hp
    · rw [if_neg hp.1] at hx2
      refine ⟨by rw [← hx2, if_neg hp.1], UpdOk.int ?_ .nil⟩
      rw [e81, e62, hx2]
    · rw [if_pos hp.1] at hx2
      exact ⟨hx1, hx2, UpdOk.int (next_fam (by omega)) .nil⟩
  · intro hx2
    rw [errD_end (Nat.le_refl _)] at hx2
    rw [hw]
    unfold MV1e
    rw [all_cons]
    exact ⟨fun _ => ⟨by rw [← hx2]; rfl, .nil⟩, fun _ h => by simp at h⟩
end
end Go.Proofs.Ytaidiaiedhbaoaa

/- The numbers of a step. -/
set_option linter.unusedVariables false
set_option linter.unusedSimpArgs false
namespace Go.Sx
noncomputable section
def DT.low (S : Nat → Bool) : DT → Bool
  | .leaf us => us.all fun u => u.2.2.low S
  | .node c a b => c.low S && (a.low S && b.low S)
theorem low_num {S : Nat → Bool} {ρ ρ' : Nat → Value} (h : ∀ n, S n = true → ρ n = ρ' n) {e : SE} (hl : e.low S = true) : e.num ρ = e.num ρ' := by
  unfold SE.num
  rw [SE.low_eq S h hl]
theorem low_truth {S : Nat → Bool} {ρ ρ' : Nat → Value} (h : ∀ n, S n = true → ρ n = ρ' n) {e : SE} (hl : e.low S = true) : e.truth ρ = e.truth ρ' := by
  unfold SE.truth
  rw [SE.low_eq S h hl]
theorem atL_low {S : Nat → Bool} {ρ ρ' : Nat → Value} (h : ∀ n, S n = true → ρ n = ρ' n) : ∀ {us : List Upd}, (us.all fun u => u.2.2.low S) = true → ∀ i, atL ρ us i = atL ρ' us i
  | [], _, _ => rfl
  | u :: us, hl, 0 => by
    rw [List.all_cons, Bool.and_eq_true] at hl
    exact low_num h hl.1
  | u :: us, hl, i + 1 => by
    rw [List.all_cons, Bool.and_eq_true] at hl
    exact atL_low h hl.2 i
theorem DT.low_at {S : Nat → Bool} {ρ ρ' : Nat → Value} (h : ∀ n, S n = true → ρ n = ρ' n) (i : Nat) : ∀ {T : DT}, T.low S = true → T.at ρ i = T.at ρ' i
  | .leaf us, hl => atL_low h hl i
  | .node c a b, hl => by
    simp only [DT.low, Bool.and_eq_true] at hl
    rw [DT.at_node, DT.at_node, low_truth h hl.1, low_at h i hl.2.1, low_at h i hl.2.2]
def inI (pc : PC) (e : SE) : Bool :=
  match (range pc e).lo, (range pc e).hi with
  | some l, some h => decide (-9223372036854775808 ≤ l) && decide (h ≤ 9223372036854775807)
  | _, _ => false
def DT.inI (pc : PC) : DT → Bool
  | .leaf us => us.all fun u => Go.Sx.inI pc u.2.2
  | .node _ a b => a.inI pc && b.inI pc
theorem inI_ok {ρ : Nat → Value} {pc : PC} (hp : pc.holds ρ) {e : SE} (h : inI pc e = true) : -9223372036854775808 ≤ e.num ρ ∧ e.num ρ ≤ 9223372036854775807 := by
  unfold inI at h
  split at h
  · rename_i l u hl hu
    rw [Bool.and_eq_true] at h
    have h1 := of_decide_eq_true h.1
    have h2 := of_decide_eq_true h.2
    have hr := rng_ok hp e
    have h3 := hr.1 _ hl
    have h4 := hr.2 _ hu
    omega
  · exact absurd h (by simp)
theorem atL_rng {ρ : Nat → Value} {pc : PC} (hp : pc.holds ρ) : ∀ {us : List Upd}, (us.all fun u => inI pc u.2.2) = true → ∀ i, -9223372036854775808 ≤ atL ρ us i ∧ atL ρ us i ≤ 9223372036854775807
  | [], _, _ => by simp [atL]
  | u :: us, hl, 0 => by
    rw [List.all_cons, Bool.and_eq_true] at hl
    exact inI_ok hp hl.1
  | u :: us, hl, i + 1 => by
    rw [List.all_cons, Bool.and_eq_true] at hl
    exact atL_rng hp hl.2 i
theorem DT.at_rng {ρ : Nat → Value} {pc : PC} (hp : pc.holds ρ) (i : Nat) : ∀ {T : DT}, T.inI pc = true → -9223372036854775808 ≤ T.at ρ i ∧ T.at ρ i ≤ 9223372036854775807
  | .leaf us, hl => atL_rng hp hl i
  | .node c a b, hl => by
    simp only [DT.inI, Bool.and_eq_true] at hl
    rw [DT.at_node]
    split
    · exact at_rng hp i hl.1
    · exact at_rng hp i hl.2
/-- An unknown that is what a tree says. -/
theorem DT.at_iv {ρ : Nat → Value} {pc : PC} (hp : pc.holds ρ) {T : DT} (hT : T.inI pc = true) {i k : Nat} (h : ρ k = .int .i64 (T.at ρ i)) : T.at ρ i = (SE.ivar .i64 k).num ρ := by
  have hr := DT.at_rng hp i hT
  show _ = (match ρ k with | .int _ i => IntKind.wrap .i64 i | _ => 0)
  rw [h]
  exact (wrap_id .i64 _ hr.1 hr.2).symm
end
end Go.Sx
namespace Go.Proofs.Ytaidiaiedhbaoaa
open Go.Sx Go.ChangeShapes Go.WideShapes Go.ChangeAt Go.RowKit
noncomputable section
/-! ### The two sides' trees -/
section
variable {ρ : Nat → Value} {lv lv' : SE} (hlen : (elsD (lv.data ρ)).length = (elsD (lv'.data ρ)).length) (hrow : ∀ j, elsD (cellD ((elsD (lv.data ρ)).getD j .nilFunc) 0) = elsD (cellD ((elsD (lv'.data ρ)).getD j .nilFunc) 0))
include hrow
theorem row_congr (j : SE) : elsD ((rowS lv j).data ρ) = elsD ((rowS lv' j).data ρ) := hrow _
theorem symOf_congr (j : SE) (k : Int) : (symOf (rowS lv j) k).num ρ = (symOf (rowS lv' j) k).num ρ := by
  show IntKind.wrap .i64 (numOf (cellD ((elsD ((rowS lv j).data ρ)).getD _ .nilFunc) 0)) = IntKind.wrap .i64 (numOf (cellD ((elsD ((rowS lv' j).data ρ)).getD _ .nilFunc) 0))
  rw [row_congr hrow j]
theorem rlen_congr (j : SE) : (SE.dlen (rowS lv j)).num ρ = (SE.dlen (rowS lv' j)).num ρ := by
  rw [n_dlen, n_dlen, row_congr hrow j]
theorem tail_congr (j ef : SE) : (tailT (rowS lv j) ef).at ρ 0 = (tailT (rowS lv' j) ef).at ρ 0 := by
  have h1 := symOf_congr hrow j
  have h2 := rlen_congr hrow j
  have hl : ∀ e, (l102 e).at ρ 0 = e.num ρ := fun e => rfl
  simp only [tailT, flipT, lev0T, lev1T, getT, DT.at_node, hl, t_lss, h1, h2, Bool.false_eq_true, if_false, if_true]
include hlen
theorem sym_congr (lay ef : SE) : (symT lv lay ef).at ρ 0 = (symT lv' lay ef).at ρ 0 := by
  have hl : ∀ e, (l102 e).at ρ 0 = e.num ρ := fun e => rfl
  have h1 := symOf_congr hrow (i64 0) 0
  have h2 := rlen_congr hrow lay
  have h3 : (SE.dlen lv).num ρ = (SE.dlen lv').num ρ := by rw [n_dlen, n_dlen, hlen]
  simp only [symT, firstS, DT.at_node, hl, t_lss, h1, h2, h3, tail_congr hrow]
end
theorem sub_num {ρ : Nat → Value} {s : SE} (h : 16777217 ≤ s.num ρ) (h' : s.num ρ ≤ 16777223) : (subE s).num ρ = s.num ρ - 16777216 := by
  unfold subE
  rw [n_sub, n_int]
  exact i64_id (by omega) (by omega)
theorem press_eq {ρ : Nat → Value} {F F' s lay n : SE} (hF : F.num ρ = F'.num ρ) (hle : F.num ρ ≤ 16777223) (hs : 16777217 ≤ F.num ρ → s.num ρ = F.num ρ) (i : Nat) : (pressT F s lay n).at ρ i = (pressRT F' lay n).at ρ i := by
  simp only [pressT, pressRT, isE, DT.at_node, t_lss, t_eql, n_int, if_true, ← hF]
  by_cases h : F.num ρ < 16777217
  · rw [if_pos h, if_pos h]
  · have hs := hs (by omega)
    have h1 := sub_num (s := s) (ρ := ρ) (by omega) (by omega)
    rw [if_neg h, if_neg h, h1, hs]
    have hv : F.num ρ = 16777217 ∨ F.num ρ = 16777218 ∨ F.num ρ = 16777219 ∨ F.num ρ = 16777220 ∨ F.num ρ = 16777221 ∨ F.num ρ = 16777222 ∨ F.num ρ = 16777223 := by omega
    rcases hv with h | h | h | h | h | h | h <;> rw [h] <;> simp
theorem rel_eq {ρ : Nat → Value} {F F' : SE} (hF : F.num ρ = F'.num ρ) (hle : F.num ρ ≤ 16777223) : (relT F).at ρ 0 = (relRT F').at ρ 0 := by
  have hr : -9223372036854775808 ≤ (nE 91).num ρ ∧ (nE 91).num ρ ≤ 9223372036854775807 := v_bounds ρ .i64 91
  have h0 : (reL (nE 91)).at ρ 0 = (reB 0).at ρ 0 := by
    show (nE 91).num ρ = (SE.bin .andNot .i64 (nE 91) (i64 0)).num ρ
    rw [n_andNot2, n_int, andNot_zero _ hr.1 hr.2]
  simp only [relT, relRT, isE, DT.at_node, t_lss, t_eql, n_int, if_true, ← hF, h0]
  by_cases h : F.num ρ < 16777217
  · rw [if_pos h, if_pos h]
  · have h1 := sub_num (s := F) (ρ := ρ) (by omega) (by omega)
    rw [if_neg h, if_neg h, h1]
    have hv : F.num ρ = 16777217 ∨ F.num ρ = 16777218 ∨ F.num ρ = 16777219 ∨ F.num ρ = 16777220 ∨ F.num ρ = 16777221 ∨ F.num ρ = 16777222 ∨ F.num ρ = 16777223 := by omega
    rcases hv with h | h | h | h | h | h | h <;> rw [h] <;> simp
/-- A special key's symbol is the key's first. -/
theorem sym_special {ρ : Nat → Value} {lv lay ef : SE} (h : 16777217 ≤ (firstS lv).num ρ) : (symT lv lay ef).at ρ 0 = (firstS lv).num ρ := by
  unfold symT
  rw [DT.at_node, if_neg (by rw [t_lss, if_pos rfl, n_int]; omega)]
  rfl
/-- Symbols of a key are no less than 1. -/
theorem sym_pos {ρ : Nat → Value} {lv lay ef : SE} (hlay : 0 ≤ lay.num ρ) (hrow : 0 < (elsD ((rowS lv (i64 0)).data ρ)).length) (hs : ∀ j, j < (elsD (lv.data ρ)).length → ∀ k, k < (elsD (cellD ((elsD (lv.data ρ)).getD j .nilFunc) 0)).length → 1 ≤ numC ((elsD (cellD ((elsD (lv.data ρ)).getD j .nilFunc) 0)).getD k .nilFunc) 0) : 0 < (symT lv lay ef).at ρ 0 := by
  have hlen0 : 0 < (elsD (lv.data ρ)).length := by
    rcases Nat.eq_zero_or_pos (elsD (lv.data ρ)).length with h | h
    · exfalso
      have e : (elsD ((rowS lv (i64 0)).data ρ)).length = 0 := by
        show (elsD (cellD ((elsD (lv.data ρ)).getD _ .nilFunc) 0)).length = 0
        rw [List.length_eq_zero_iff.1 h]
        rfl
      omega
    · exact h
  have hl : ∀ e, (l102 e).at ρ 0 = e.num ρ := fun e => rfl
  have key : ∀ (j : SE) (z : Nat), j.num ρ = z → z < (elsD (lv.data ρ)).length → 0 < (elsD ((rowS lv j).data ρ)).length → ∀ k : Nat, k < (elsD ((rowS lv j).data ρ)).length → 0 < (symOf (rowS lv j) k).num ρ := fun j z hz hzl h0 k hk => by
    have e : elsD ((rowS lv j).data ρ) = elsD (cellD ((elsD (lv.data ρ)).getD z .nilFunc) 0) := by
      show elsD (cellD ((elsD (lv.data ρ)).getD (j.num ρ).toNat .nilFunc) 0) = _
      rw [hz, Int.toNat_natCast]
    have h1 := hs z hzl k (by rw [← e]; exact hk)
    rw [← e] at h1
    show (0 : Int) < numC ((elsD ((rowS lv j).data ρ)).getD (Int.toNat (k : Int)) .nilFunc) 0
    rw [Int.toNat_natCast]
    omega
  have tail : ∀ (j : SE) (z : Nat), j.num ρ = z → z < (elsD (lv.data ρ)).length → 0 < (elsD ((rowS lv j).data ρ)).length → 0 < (tailT (rowS lv j) ef).at ρ 0 := fun j z hz hzl h0 => by
    have k0 : 0 < (symOf (rowS lv j) 0).num ρ := key j z hz hzl h0 0 h0
    have get : ∀ k : Nat, 0 < (getT (rowS lv j) k).at ρ 0 := fun k => by
      unfold getT
      rw [DT.at_node, hl, hl]
      split
      · rename_i hc
        rw [t_lss, if_pos rfl, n_int, n_dlen] at hc
        exact key j z hz hzl h0 k (by omega)
      · exact k0
    have g1 : 0 < (getT (rowS lv j) 1).at ρ 0 := get 1
    have g2 : 0 < (getT (rowS lv j) 2).at ρ 0 := get 2
    have g3 : 0 < (getT (rowS lv j) 3).at ρ 0 := get 3
    have l0 : 0 < (lev0T (rowS lv j) ef).at ρ 0 := by
      unfold lev0T
      rw [DT.at_node, hl]
      split
      · exact k0
      · exact g2
    have l1 : 0 < (lev1T (rowS lv j) ef).at ρ 0 := by
      unfold lev1T
      rw [DT.at_node]
      split
      · exact g1
      · exact g3
    have fl : ∀ b, 0 < (flipT (rowS lv j) ef b).at ρ 0 := fun b => by
      unfold flipT
      rw [DT.at_node]
      cases b <;> (split <;> first | exact l0 | exact l1)
    unfold tailT
    rw [DT.at_node, DT.at_node, DT.at_node]
    split
    · exact fl false
    · split
      · exact fl false
      · split
        · exact fl false
        · exact fl true
  unfold symT
  rw [DT.at_node, DT.at_node, DT.at_node, hl]
  split
  · split
    · rename_i hc
      rw [t_lss, if_pos rfl, n_dlen] at hc
      split
      · rename_i hc2
        rw [t_lss, if_pos rfl, n_int, n_dlen] at hc2
        exact tail lay (lay.num ρ).toNat (by omega) (by omega) (by omega)
      · exact tail (i64 0) 0 rfl hlen0 hrow
    · exact tail (i64 0) 0 rfl hlen0 hrow
  · exact key (i64 0) 0 rfl hlen0 hrow 0 hrow
/-- The layout in effect is one. -/
theorem lay_rng {ρ : Nat → Value} {x n : SE} (h : 0 < n.num ρ) (hn : n.num ρ ≤ 1000) : 0 ≤ (layT x n).at ρ 0 ∧ (layT x n).at ρ 0 < n.num ρ := by
  have e : (SE.bin .rem .i64 x n).num ρ = (x.num ρ).tmod (n.num ρ) := by rw [n_rem, if_neg (by omega)]
  have h1 := Int.tmod_lt_of_pos (x.num ρ) h
  have h2 : -(n.num ρ) < (x.num ρ).tmod (n.num ρ) := by
    rcases Int.le_total 0 (x.num ρ) with hx | hx
    · have := Int.tmod_nonneg (n.num ρ) hx
      omega
    · have h3 : 0 ≤ (-(x.num ρ)).tmod (n.num ρ) := Int.tmod_nonneg _ (by omega)
      have h4 := Int.tmod_lt_of_pos (-(x.num ρ)) h
      rw [Int.neg_tmod] at h3 h4
      omega
  unfold layT
  rw [DT.at_node, DT.at_leaf, DT.at_leaf, atL_zero, atL_zero]
  split
  · rename_i hc
    rw [t_lss, if_pos rfl, n_int, e] at hc
    show 0 ≤ (SE.bin .add .i64 n (.bin .rem .i64 x n)).num ρ ∧ (SE.bin .add .i64 n (.bin .rem .i64 x n)).num ρ < _
    rw [n_add, e, i64_id (by omega) (by omega)]
    omega
  · rename_i hc
    rw [t_lss, if_pos rfl, n_int, e] at hc
    show 0 ≤ (SE.bin .rem .i64 x n).num ρ ∧ (SE.bin .rem .i64 x n).num ρ < _
    rw [e]
    omega
end
end Go.Proofs.Ytaidiaiedhbaoaa
