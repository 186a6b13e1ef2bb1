/- The reference's find and check, as contracts. -/
import Derived.Test.YtaidiaiedhbaoaaKmKa
set_option linter.unusedVariables false
set_option linter.unusedSimpArgs false
namespace Go.Proofs.Ytaidiaiedhbaoaa
open Go.Sx Go.ChangeShapes Go.WideShapes Go.ChangeAt Go.RowKit
noncomputable section
def tbF : Tb := tb.only [29]
def argF : List V := [.sli shK (.bvar 1) (.dvar 2) .unk, iv 0]
def entF1 : St := { env := (Tr.leaf.node (some (V.sym (STy.int .i64) (SE.ivar .i64 0))) (Tr.leaf.node (some (V.val (Value.int .i64 0))) Tr.leaf)).node (some (V.sli ((Sh.sc (STy.int .i64)).cons ((((Sh.sc (STy.int .i64)).cons Sh.nil).li.cons Sh.nil).li.cons Sh.nil)).li (SE.bvar 1) (SE.dvar 2) Tok.unk)) ((Tr.leaf.node (some (V.val (Value.int .i64 0))) Tr.leaf).node none Tr.leaf), h := { tab := Tr.leaf, next := 0, base := 0, low := none } }
def pcF1 : PC := addPC (.cmp .leq (.int .i64 0) (.ivar .i64 40)) true []
def LF1 : LoopP where
  f := 29
  i := 0
  key := 1966272
  D := mkLoop (loopAt tbF 29 0) entF1 [(5, iv 40)] [] [(.exit 0, [], []), (.ret, [(4, iv 41)], [])] 0 300 (famPat 40 []) (fun n => Nat.beq n 41)
  cs := [.cmp .lss (.ivar .i64 41) (.int .i64 0)]
theorem st_F1 : startOf LF1.D = some [(40, .sc (.int .i64), .int .i64 0)] := by kernel_rfl
def rnF1 (r : Nat → Value) := sums LF1.D (execF kn0 (callF kn0 Try.prog (tbF.atS r noSp noLp) 100 100) Try.prog (tbF.atS r noSp noLp) 100 (.code (loopAt tbF 29 0)) pcF1 LF1.D.hd)
def lpF : Lp := lpOf [LF1.e]
def rnfF (r : Nat → Value) := outsF (callF kn0 Try.prog (tbF.atS r noSp lpF) 100 100 [] 29 argF H0)
def MF1 : List (PC × Sm) := [([(SE.cmp .eql (SE.dleaf (.int .i64) ((SE.dvar 2).dcell (SE.ivar .i64 40) 0)) (SE.ivar .i64 0), true), (SE.cmp .lss (SE.ivar .i64 40) (SE.dvar 2).dlen, true), (SE.cmp .lss (SE.ivar .i64 40) (SE.int .i64 0), false)], Sm.out 1 [(41, UTy.sc (.int .i64), SE.ivar .i64 40)]), ([(SE.cmp .eql (SE.dleaf (.int .i64) ((SE.dvar 2).dcell (SE.ivar .i64 40) 0)) (SE.ivar .i64 0), false), (SE.cmp .lss (SE.ivar .i64 40) (SE.dvar 2).dlen, true), (SE.cmp .lss (SE.ivar .i64 40) (SE.int .i64 0), false)], Sm.next [(40, UTy.sc (.int .i64), SE.bin .add .i64 (SE.ivar .i64 40) (SE.int .i64 1))]), ([(SE.cmp .lss (SE.ivar .i64 40) (SE.dvar 2).dlen, false), (SE.cmp .lss (SE.ivar .i64 40) (SE.int .i64 0), false)], Sm.out 0 [])]
def MfF : List (PC × Bool × List (STy × SE)) := [([(SE.cmp .lss (SE.ivar .i64 41) (SE.int .i64 0), true)], false, [(.int .i64, SE.int .i64 (Int.negSucc 0))]), ([(SE.cmp .lss (SE.ivar .i64 41) (SE.int .i64 0), false)], false, [(.int .i64, SE.ivar .i64 41)])]
theorem run_F1 (r : Nat → Value) : rnF1 r = some MF1 := by kernel_rfl
theorem run_fF (r : Nat → Value) : rnfF r = some MfF := by kernel_rfl
theorem iv_at {ρ : Nat → Value} {m : Nat} {x : Int} (h : ρ m = .int .i64 x) (h1 : -9223372036854775808 ≤ x) (h2 : x ≤ 9223372036854775807) : (SE.ivar .i64 m).num ρ = x := by
  show (match ρ m with | .int _ i => IntKind.wrap .i64 i | _ => 0) = _
  rw [h]
  exact i64_id h1 h2
theorem way_neg {ρ : Nat → Value} {e : SE} : wayOf ρ [.cmp .lss e (.int .i64 0)] = if e.num ρ < 0 then 0 else 1 := by
  show (if (SE.cmp .lss e (.int .i64 0)).truth ρ = true then 0 else 0 + 1) = _
  rw [(truth_cmp _ _ _).2.2.1]
  have : (SE.int .i64 0).num ρ = 0 := rfl
  rw [this]
  by_cases h : e.num ρ < 0 <;> simp [h]
def idxFrom (c : Int) (l : List Value) (x : Nat) : Int := if idxD c (l.drop x) < 0 then -1 else idxD c (l.drop x) + x
theorem idxFrom_zero (c : Int) (l : List Value) : idxFrom c l 0 = idxD c l := by
  unfold idxFrom
  have := (idxD_range c l).1
  rw [List.drop_zero]
  split <;> omega
theorem idxFrom_hit {c : Int} {l : List Value} {x : Nat} (h : x < l.length) (hc : codeD (l.getD x .nilFunc) = c) : idxFrom c l x = x := by
  unfold idxFrom
  rw [getD_drop h]
  simp only [idxD, hc, if_true]
  simp
theorem idxFrom_miss {c : Int} {l : List Value} {x : Nat} (h : x < l.length) (hc : codeD (l.getD x .nilFunc) ≠ c) : idxFrom c l x = idxFrom c l (x + 1) := by
  unfold idxFrom
  rw [getD_drop h]
  simp only [idxD, hc, if_false]
  have := (idxD_range c (l.drop (x + 1))).1
  by_cases hh : idxD c (l.drop (x + 1)) < 0
  · simp [hh]
  · rw [if_neg hh, if_neg hh, if_neg (by omega)]
    push_cast
    omega
theorem idxFrom_end {c : Int} {l : List Value} {x : Nat} (h : l.length ≤ x) : idxFrom c l x = -1 := by
  unfold idxFrom
  rw [drop_end h]
  rfl
theorem LF1_ok {ρ : Nat → Value} {c : Int} (hc : (SE.ivar .i64 0).num ρ = c) (h40 : ρ 40 = .int .i64 0) (h41 : ρ 41 = .int .i64 (idxD c (elsD (ρ 2)))) (hn : (elsD (ρ 2)).length ≤ 1000) : LoopPOk Try.prog (tbF.atS ρ noSp noLp) LF1 := by
  have hr := idxD_range c (elsD (ρ 2))
  have e41 : (SE.ivar .i64 41).num ρ = idxD c (elsD (ρ 2)) := iv_at h41 (by omega) (by omega)
  refine fam_loop (Tb.only_ok tb_ok _) (Tb.only_wf tb_wf _) (m := 40) (ms := []) (g := fun _ => ρ) (n := (elsD (ρ 2)).length) (Q := fun x => idxFrom c (elsD (ρ 2)) x = idxD c (elsD (ρ 2))) h40 (fun k hk => by simp at hk)
    (fun x _ _ => none_ok _ _) (by kernel_rfl) rfl rfl (idxFrom_zero _ _) st_F1 (UpdOk.int (ivar_zero h40) .nil) (fun _ => rfl) (kn := kn0) (n0 := 100) (n1 := 100) (n2 := 100) (fun x => kn0_ok) (pc := pcF1) (fun x hx _ => pc_fam (by omega) (PC.holds_nil _)) run_F1 ?_
  intro x hx1 hx2
  rw [show wayOf ρ LF1.cs = if (SE.ivar .i64 41).num ρ < 0 then 0 else 1 from way_neg, e41]
  have h2 : (SE.dvar 2).data (fam ρ 40 [] (fun _ => ρ) x) = ρ 2 := rfl
  have h0 : (SE.ivar .i64 0).num (fam ρ 40 [] (fun _ => ρ) x) = c := hc
  have hR : (SE.ivar .i64 41).num (fam ρ 40 [] (fun _ => ρ) x) = idxD c (elsD (ρ 2)) := e41
  have hN := n_fam (ρ := ρ) (m := 40) (ms := []) (g := fun _ => ρ) (show x ≤ 9223372036854775807 by omega)
  unfold MF1
  rw [all_cons, all_cons, all_cons]
  refine ⟨fun hp => ?_, fun hp => ?_, fun hp => ?_, fun _ h => by simp at h⟩
  all_goals simp only [h_cons, h_nil, t_lss, t_eql, n_int, n_dlen, n_leaf, d_cell, h0, h2, hN, if_true, Bool.false_eq_true, if_false, Int.toNat_natCast] at hp
  · obtain ⟨h1, h3, _⟩ := hp
    rw [idxFrom_hit (by omega) h1] at hx2
    rw [← hx2]
    refine ⟨by rw [if_neg (by omega)], UpdOk.int ?_ .nil⟩
    rw [hN, hR, ← hx2]
  · obtain ⟨h1, h3, _⟩ := hp
    rw [idxFrom_miss (by omega) h1] at hx2
    exact ⟨by omega, hx2, UpdOk.int (next_fam (by omega)) .nil⟩
  · rw [idxFrom_end (by omega)] at hx2
    rw [← hx2]
    exact ⟨rfl, .nil⟩
/-- **The reference's find.** -/
theorem find_fnc {ρ : Nat → Value} {c : Int} (hc : (SE.ivar .i64 0).num ρ = c) (h40 : ρ 40 = .int .i64 0) (h41 : ρ 41 = .int .i64 (idxD c (elsD (ρ 2)))) (hn : (elsD (ρ 2)).length ≤ 1000) : FncR Try.prog tb.glob ρ 29 argF (.int .i64 (idxD c (elsD (ρ 2)))) := by
  have hr := idxD_range c (elsD (ρ 2))
  have e41 : (SE.ivar .i64 41).num ρ = idxD c (elsD (ρ 2)) := iv_at h41 (by omega) (by omega)
  have hsp : SpecOk Try.prog (tbF.atS ρ noSp lpF) := specP_of (l := [LF1]) (fs := [29]) (fun f fn hf => (Tb.only_func hf).1) (none_ok _ _) (by kernel_rfl) (fun e he => by
    rw [List.mem_singleton.1 he]
    exact LF1_ok hc h40 h41 hn)
  refine fnc_run (Tb.only_ok tb_ok _) (Tb.only_wf tb_wf _) hsp (kn := kn0) (n0 := 100) (n1 := 100) kn0_ok (pc := []) (PC.holds_nil _) (by kernel_rfl) (run_fF ρ) ?_
  unfold MfF
  rw [all_cons, all_cons]
  refine ⟨fun hp => ?_, fun hp => ?_, fun _ h => by simp at h⟩
  all_goals
    simp only [h_cons, h_nil, t_lss, n_int, e41, if_true, Bool.false_eq_true, if_false] at hp
    show Value.int .i64 _ = Value.int .i64 _
    congr 1
  · show Int.negSucc 0 = _
    omega
end
end Go.Proofs.Ytaidiaiedhbaoaa
