/- keymap.check, as a contract. -/
import Derived.Test.YtaidiaiedhbaoaaKmA1
/- keymap.check, as a contract. -/
set_option linter.unusedVariables false
set_option linter.unusedSimpArgs false
namespace Go.Proofs.Ytaidiaiedhbaoaa
open Go.Sx Go.ChangeShapes Go.WideShapes Go.ChangeAt Go.RowKit
noncomputable section
def tbK : Tb := tb.only [25]
def argK : List V := [.agg [iv 0, .sli shL (.bvar 1) (.dvar 2) .unk]]
def entK1 : St := { env := ((((Tr.leaf.node (some (V.sym (STy.int .i64) (SE.dvar 2).dlen)) Tr.leaf).node none Tr.leaf).node none (Tr.leaf.node (some (V.sym (STy.int .i64) (SE.dvar 2).dlen)) Tr.leaf)).node (some (V.ptr 0 0)) ((Tr.leaf.node (some (V.ptr 0 1)) Tr.leaf).node none (Tr.leaf.node (some (V.ptr 0 1)) Tr.leaf))).node (some (V.agg [V.sym (STy.int .i64) (SE.ivar .i64 0), V.sli (((Sh.sc (STy.int .i64)).cons Sh.nil).li.cons Sh.nil).li (SE.bvar 1) (SE.dvar 2) Tok.unk])) ((((Tr.leaf.node (some (V.val (Value.int .i64 0))) Tr.leaf).node none Tr.leaf).node none (Tr.leaf.node (some (V.sym STy.bool (SE.cmp .gtr (SE.dvar 2).dlen (SE.int .i64 4)))) Tr.leaf)).node (some (V.val (Value.int .i64 0))) ((Tr.leaf.node (some (V.sli (((Sh.sc (STy.int .i64)).cons Sh.nil).li.cons Sh.nil).li (SE.bvar 1) (SE.dvar 2) Tok.unk)) Tr.leaf).node none (Tr.leaf.node (some (V.sli (((Sh.sc (STy.int .i64)).cons Sh.nil).li.cons Sh.nil).li (SE.bvar 1) (SE.dvar 2) Tok.unk)) Tr.leaf))), h := { tab := Tr.leaf.node (some (Blk.cells [V.sym (STy.int .i64) (SE.ivar .i64 0), V.sli (((Sh.sc (STy.int .i64)).cons Sh.nil).li.cons Sh.nil).li (SE.bvar 1) (SE.dvar 2) Tok.unk])) Tr.leaf, next := 1, base := 0, low := none } }
def pcK1 : PC := addPC (.cmp .leq (.int .i64 0) (.ivar .i64 10)) true []
def LK1 : LoopP where
  f := 25
  i := 0
  key := 1114432
  D := mkLoop (loopAt tbK 25 0) entK1 [(16, iv 10)] [] [(.exit 0, [], []), (.ret, [(2, .val (.int .i64 5))], [])] 0 300 (famPat 10 []) (fun _ => false)
  cs := [.not (.bvar 11)]
def rnK1 (r : Nat → Value) := sums LK1.D (execF kn0 (callF kn0 Try.prog (tbK.atS r noSp noLp) 100 100) Try.prog (tbK.atS r noSp noLp) 100 (.code (loopAt tbK 25 0)) pcK1 LK1.D.hd)
def stK1 := startOf LK1.D
theorem st_K1 : startOf LK1.D = some [(10, .sc (.int .i64), .int .i64 0)] := by kernel_rfl
def MK1 : List (PC × Sm) :=
  [([(.cmp .lss (.int .i64 4) (.dlen (.dcell (.dvar 2) (.ivar .i64 10) 0)), true), (.cmp .lss (.ivar .i64 10) (.dlen (.dvar 2)), true), (.cmp .lss (.ivar .i64 10) (.int .i64 0), false)], .out 1 []),
   ([(.cmp .lss (.int .i64 4) (.dlen (.dcell (.dvar 2) (.ivar .i64 10) 0)), false), (.cmp .lss (.ivar .i64 10) (.dlen (.dvar 2)), true), (.cmp .lss (.ivar .i64 10) (.int .i64 0), false)],
      .next [(10, .sc (.int .i64), .bin .add .i64 (.ivar .i64 10) (.int .i64 1))]),
   ([(.cmp .lss (.ivar .i64 10) (.dlen (.dvar 2)), false), (.cmp .lss (.ivar .i64 10) (.int .i64 0), false)], .out 0 [])]
theorem run_K1 (r : Nat → Value) : rnK1 r = some MK1 := by kernel_rfl
theorem LK1_ok {ρ : Nat → Value} (h10 : ρ 10 = .int .i64 0) (h11 : truthOf (ρ 11) = (elsD (ρ 2)).any manyD) (hn : (elsD (ρ 2)).length ≤ 1000) : LoopPOk Try.prog (tbK.atS ρ noSp noLp) LK1 := by
  refine fam_loop (Tb.only_ok tb_ok _) (Tb.only_wf tb_wf _) (m := 10) (ms := []) (g := fun _ => ρ) (n := (elsD (ρ 2)).length) (Q := fun x => ((elsD (ρ 2)).drop x).any manyD = truthOf (ρ 11)) h10 (fun k hk => by simp at hk)
    (fun x _ _ => none_ok _ _) (by kernel_rfl) rfl rfl h11.symm st_K1 (UpdOk.int (by show _ = (match ρ 10 with | .int _ i => IntKind.wrap .i64 i | _ => 0); rw [h10]; rfl) .nil) (fun _ => rfl) (kn := kn0) (n0 := 100) (n1 := 100) (n2 := 100) (fun x => kn0_ok) (pc := pcK1) (fun x hx _ => pc_fam (by omega) (PC.holds_nil _)) run_K1 ?_
  intro x hx1 hx2
  rw [show wayOf ρ LK1.cs = if truthOf (ρ 11) then 1 else 0 from way_not _ _]
  have h2 : (SE.dvar 2).data (fam ρ 10 [] (fun _ => ρ) x) = ρ 2 := rfl
  have hN := n_fam (ρ := ρ) (m := 10) (ms := []) (g := fun _ => ρ) (show x ≤ 9223372036854775807 by omega)
  unfold MK1
  rw [all_cons, all_cons, all_cons]
  refine ⟨fun hp => ?_, fun hp => ?_, fun hp => ?_, fun _ h => by simp at h⟩
  all_goals simp only [h_cons, h_nil, t_lss, n_int, n_dlen, d_cell, h2, hN, if_true, Bool.false_eq_true, if_false, Int.toNat_natCast] at hp
  · obtain ⟨h1, h3, _⟩ := hp
    rw [getD_drop (by omega), List.any_cons, show manyD ((elsD (ρ 2)).getD x .nilFunc) = true from decide_eq_true (by unfold symsD; omega)] at hx2
    exact ⟨by rw [← hx2]; rfl, .nil⟩
  · obtain ⟨h1, h3, _⟩ := hp
    rw [getD_drop (by omega), List.any_cons, show manyD ((elsD (ρ 2)).getD x .nilFunc) = false from decide_eq_false (by unfold symsD; omega)] at hx2
    exact ⟨by omega, hx2, UpdOk.int (next_fam (by omega)) .nil⟩
  · rw [drop_end (by omega)] at hx2
    exact ⟨by rw [← hx2]; rfl, .nil⟩
def entK2 : St := { env := (((((Tr.leaf.node (some (V.cptr [V.sli ((Sh.sc (STy.int .i64)).cons Sh.nil).li ((SE.dvar 2).dcell (SE.int .i64 0) 0).dnil ((SE.dvar 2).dcell (SE.int .i64 0) 0) Tok.unk])) Tr.leaf).node (some (V.sym (STy.int .i64) (SE.dvar 2).dlen)) Tr.leaf).node none ((Tr.leaf.node (some (V.val (Value.int .i64 0))) Tr.leaf).node (some V.top) Tr.leaf)).node none (((Tr.leaf.node (some (V.sym STy.bool (SE.cmp .eql ((SE.dvar 2).dcell (SE.int .i64 0) 0).dlen (SE.int .i64 0)))) Tr.leaf).node (some V.top) Tr.leaf).node (some (V.sym (STy.int .i64) (SE.dvar 2).dlen)) (Tr.leaf.node (some (V.sym STy.bool (SE.cmp .eql (SE.dvar 2).dlen (SE.int .i64 0)))) Tr.leaf))).node (some (V.ptr 0 0)) ((((Tr.leaf.node (some (V.sym (STy.int .i64) ((SE.dvar 2).dcell (SE.int .i64 0) 0).dlen)) Tr.leaf).node (some V.top) Tr.leaf).node (some (V.ptr 0 1)) (Tr.leaf.node (some (V.sli (((Sh.sc (STy.int .i64)).cons Sh.nil).li.cons Sh.nil).li (SE.bvar 1) (SE.dvar 2) Tok.unk)) Tr.leaf)).node none (((Tr.leaf.node (some (V.sli (((Sh.sc (STy.int .i64)).cons Sh.nil).li.cons Sh.nil).li (SE.bvar 1) (SE.dvar 2) Tok.unk)) Tr.leaf).node (some V.top) Tr.leaf).node (some (V.ptr 0 1)) (Tr.leaf.node (some (V.ptr 0 1)) Tr.leaf)))).node (some (V.agg [V.sym (STy.int .i64) (SE.ivar .i64 0), V.sli (((Sh.sc (STy.int .i64)).cons Sh.nil).li.cons Sh.nil).li (SE.bvar 1) (SE.dvar 2) Tok.unk])) (((((Tr.leaf.node (some (V.sli ((Sh.sc (STy.int .i64)).cons Sh.nil).li ((SE.dvar 2).dcell (SE.int .i64 0) 0).dnil ((SE.dvar 2).dcell (SE.int .i64 0) 0) Tok.unk)) Tr.leaf).node (some V.top) Tr.leaf).node none (Tr.leaf.node (some (V.ptr 0 1)) Tr.leaf)).node (some V.top) (((Tr.leaf.node (some (V.ptr 0 1)) Tr.leaf).node (some V.top) Tr.leaf).node (some (V.sym STy.bool (SE.cmp .gtr (SE.dvar 2).dlen (SE.int .i64 4)))) (Tr.leaf.node (some (V.sym STy.bool (SE.cmp .eql (SE.dvar 2).dlen (SE.int .i64 0)))) Tr.leaf))).node (some V.top) ((((Tr.leaf.node (some (V.sym STy.bool (SE.cmp .eql ((SE.dvar 2).dcell (SE.int .i64 0) 0).dlen (SE.int .i64 0)))) Tr.leaf).node (some V.top) Tr.leaf).node (some (V.sli (((Sh.sc (STy.int .i64)).cons Sh.nil).li.cons Sh.nil).li (SE.bvar 1) (SE.dvar 2) Tok.unk)) (Tr.leaf.node (some (V.sym (STy.int .i64) (SE.dvar 2).dlen)) Tr.leaf)).node none (((Tr.leaf.node (some (V.sym (STy.int .i64) (SE.dvar 2).dlen)) Tr.leaf).node (some V.top) Tr.leaf).node (some (V.sli (((Sh.sc (STy.int .i64)).cons Sh.nil).li.cons Sh.nil).li (SE.bvar 1) (SE.dvar 2) Tok.unk)) (Tr.leaf.node (some (V.sli (((Sh.sc (STy.int .i64)).cons Sh.nil).li.cons Sh.nil).li (SE.bvar 1) (SE.dvar 2) Tok.unk)) Tr.leaf)))), h := { tab := Tr.leaf.node (some (Blk.cells [V.sym (STy.int .i64) (SE.ivar .i64 0), V.sli (((Sh.sc (STy.int .i64)).cons Sh.nil).li.cons Sh.nil).li (SE.bvar 1) (SE.dvar 2) Tok.unk])) Tr.leaf, next := 300, base := 0, low := none } }
def pcK2 : PC := addPC (.cmp .leq (.int .i64 0) (.ivar .i64 20)) true []
def LK2 : LoopP where
  f := 25
  i := 1
  key := 2622272
  D := mkLoop (loopAt tbK 25 1) entK2 [(39, iv 20)] [] [(.exit 2, [], []), (.ret, [(2, .val (.int .i64 6))], [])] 0 300 (famPat 20 [31]) (fun _ => false)
  cs := [.not (.bvar 21)]
theorem st_K2 : startOf LK2.D = some [(20, .sc (.int .i64), .int .i64 0)] := by kernel_rfl
def entK3 : St := { env := (((((Tr.leaf.node (some (V.cptr [V.sli ((Sh.sc (STy.int .i64)).cons Sh.nil).li ((SE.dvar 2).dcell (SE.int .i64 0) 0).dnil ((SE.dvar 2).dcell (SE.int .i64 0) 0) Tok.unk])) Tr.leaf).node (some (V.sym (STy.int .i64) (SE.dvar 2).dlen)) (Tr.leaf.node (some V.top) Tr.leaf)).node none ((Tr.leaf.node (some (V.sym (STy.int .i64) (SE.ivar .i64 20))) Tr.leaf).node (some V.top) (Tr.leaf.node (some V.top) Tr.leaf))).node none (((Tr.leaf.node (some (V.sym STy.bool (SE.cmp .eql ((SE.dvar 2).dcell (SE.int .i64 0) 0).dlen (SE.int .i64 0)))) Tr.leaf).node (some V.top) (Tr.leaf.node (some V.top) Tr.leaf)).node (some (V.sym (STy.int .i64) (SE.dvar 2).dlen)) ((Tr.leaf.node (some (V.sli ((Sh.sc (STy.int .i64)).cons Sh.nil).li ((SE.dvar 2).dcell (SE.ivar .i64 20) 0).dnil ((SE.dvar 2).dcell (SE.ivar .i64 20) 0) Tok.unk)) Tr.leaf).node (some (V.sym STy.bool (SE.cmp .eql (SE.dvar 2).dlen (SE.int .i64 0)))) Tr.leaf))).node (some (V.ptr 0 0)) ((((Tr.leaf.node (some (V.sym (STy.int .i64) ((SE.dvar 2).dcell (SE.int .i64 0) 0).dlen)) Tr.leaf).node (some V.top) (Tr.leaf.node (some V.top) Tr.leaf)).node (some (V.ptr 0 1)) ((Tr.leaf.node (some (V.cptr [V.sli ((Sh.sc (STy.int .i64)).cons Sh.nil).li ((SE.dvar 2).dcell (SE.ivar .i64 20) 0).dnil ((SE.dvar 2).dcell (SE.ivar .i64 20) 0) Tok.unk])) Tr.leaf).node (some (V.sli (((Sh.sc (STy.int .i64)).cons Sh.nil).li.cons Sh.nil).li (SE.bvar 1) (SE.dvar 2) Tok.unk)) Tr.leaf)).node none (((Tr.leaf.node (some (V.sli (((Sh.sc (STy.int .i64)).cons Sh.nil).li.cons Sh.nil).li (SE.bvar 1) (SE.dvar 2) Tok.unk)) Tr.leaf).node (some V.top) (Tr.leaf.node (some V.top) Tr.leaf)).node (some (V.ptr 0 1)) ((Tr.leaf.node (some (V.val (Value.int .i64 0))) Tr.leaf).node (some (V.ptr 0 1)) Tr.leaf)))).node (some (V.agg [V.sym (STy.int .i64) (SE.ivar .i64 0), V.sli (((Sh.sc (STy.int .i64)).cons Sh.nil).li.cons Sh.nil).li (SE.bvar 1) (SE.dvar 2) Tok.unk])) (((((Tr.leaf.node (some (V.sli ((Sh.sc (STy.int .i64)).cons Sh.nil).li ((SE.dvar 2).dcell (SE.int .i64 0) 0).dnil ((SE.dvar 2).dcell (SE.int .i64 0) 0) Tok.unk)) Tr.leaf).node (some V.top) (Tr.leaf.node (some V.top) Tr.leaf)).node (some V.top) ((Tr.leaf.node (some (V.sym STy.bool (SE.cmp .lss (SE.ivar .i64 20) (SE.dvar 2).dlen))) Tr.leaf).node (some (V.ptr 0 1)) (Tr.leaf.node (some V.top) Tr.leaf))).node (some V.top) (((Tr.leaf.node (some (V.ptr 0 1)) Tr.leaf).node (some V.top) (Tr.leaf.node (some V.top) Tr.leaf)).node (some (V.sym STy.bool (SE.cmp .gtr (SE.dvar 2).dlen (SE.int .i64 4)))) ((Tr.leaf.node (some (V.sym (STy.int .i64) ((SE.dvar 2).dcell (SE.ivar .i64 20) 0).dlen)) Tr.leaf).node (some (V.sym STy.bool (SE.cmp .eql (SE.dvar 2).dlen (SE.int .i64 0)))) Tr.leaf))).node (some V.top) ((((Tr.leaf.node (some (V.sym STy.bool (SE.cmp .eql ((SE.dvar 2).dcell (SE.int .i64 0) 0).dlen (SE.int .i64 0)))) Tr.leaf).node (some V.top) (Tr.leaf.node (some V.top) Tr.leaf)).node (some (V.sli (((Sh.sc (STy.int .i64)).cons Sh.nil).li.cons Sh.nil).li (SE.bvar 1) (SE.dvar 2) Tok.unk)) ((Tr.leaf.node (some (V.sli ((Sh.sc (STy.int .i64)).cons Sh.nil).li ((SE.dvar 2).dcell (SE.ivar .i64 20) 0).dnil ((SE.dvar 2).dcell (SE.ivar .i64 20) 0) Tok.unk)) Tr.leaf).node (some (V.sym (STy.int .i64) (SE.dvar 2).dlen)) Tr.leaf)).node (some (V.sli ((Sh.sc (STy.int .i64)).cons Sh.nil).li ((SE.dvar 2).dcell (SE.ivar .i64 20) 0).dnil ((SE.dvar 2).dcell (SE.ivar .i64 20) 0) Tok.unk)) (((Tr.leaf.node (some (V.sym (STy.int .i64) (SE.dvar 2).dlen)) Tr.leaf).node (some V.top) (Tr.leaf.node (some V.top) Tr.leaf)).node (some (V.sli (((Sh.sc (STy.int .i64)).cons Sh.nil).li.cons Sh.nil).li (SE.bvar 1) (SE.dvar 2) Tok.unk)) ((Tr.leaf.node (some V.top) Tr.leaf).node (some (V.sli (((Sh.sc (STy.int .i64)).cons Sh.nil).li.cons Sh.nil).li (SE.bvar 1) (SE.dvar 2) Tok.unk)) Tr.leaf)))), h := { tab := Tr.leaf.node (some (Blk.cells [V.sym (STy.int .i64) (SE.ivar .i64 0), V.sli (((Sh.sc (STy.int .i64)).cons Sh.nil).li.cons Sh.nil).li (SE.bvar 1) (SE.dvar 2) Tok.unk])) Tr.leaf, next := 300, base := 0, low := none } }
def pcK3 : PC := addPC (.cmp .leq (.int .i64 0) (.ivar .i64 30)) true []
def LK3 : LoopP where
  f := 25
  i := 2
  key := 3015680
  D := mkLoop (loopAt tbK 25 2) entK3 [(45, iv 30)] [] [(.exit 4, [], []), (.ret, [(2, .val (.int .i64 6))], [])] 0 300 (famPat 30 []) (fun _ => false)
  cs := [.not (.bvar 31)]
theorem st_K3 : startOf LK3.D = some [(30, .sc (.int .i64), .int .i64 0)] := by kernel_rfl
def rnK3 (r : Nat → Value) := sums LK3.D (execF kn0 (callF kn0 Try.prog (tbK.atS r noSp noLp) 100 100) Try.prog (tbK.atS r noSp noLp) 100 (.code (loopAt tbK 25 2)) pcK3 LK3.D.hd)
def lpK3 : Lp := lpOf [LK3.e]
def rnK2 (r : Nat → Value) := sums LK2.D (execF kn0 (callF kn0 Try.prog (tbK.atS r noSp lpK3) 100 100) Try.prog (tbK.atS r noSp lpK3) 100 (.code (loopAt tbK 25 1)) pcK2 LK2.D.hd)
def lpK : Lp := lpOf [LK1.e, LK2.e]
def rnK (r : Nat → Value) := outsF (callF kn0 Try.prog (tbK.atS r noSp lpK) 100 100 [] 25 argK H0)
def MK3 : List (PC × Sm) := [([(SE.cmp .lss (SE.dleaf (.int .i64) (((SE.dvar 2).dcell (SE.ivar .i64 20) 0).dcell (SE.ivar .i64 30) 0)) (SE.int .i64 1), true), (SE.cmp .lss (SE.ivar .i64 30) ((SE.dvar 2).dcell (SE.ivar .i64 20) 0).dlen, true), (SE.cmp .lss (SE.ivar .i64 30) (SE.int .i64 0), false)], Sm.out 1 []), ([(SE.cmp .lss (SE.int .i64 16777223) (SE.dleaf (.int .i64) (((SE.dvar 2).dcell (SE.ivar .i64 20) 0).dcell (SE.ivar .i64 30) 0)), true), (SE.cmp .lss (SE.dleaf (.int .i64) (((SE.dvar 2).dcell (SE.ivar .i64 20) 0).dcell (SE.ivar .i64 30) 0)) (SE.int .i64 1), false), (SE.cmp .lss (SE.ivar .i64 30) ((SE.dvar 2).dcell (SE.ivar .i64 20) 0).dlen, true), (SE.cmp .lss (SE.ivar .i64 30) (SE.int .i64 0), false)], Sm.out 1 []), ([(SE.cmp .lss (SE.int .i64 16777223) (SE.dleaf (.int .i64) (((SE.dvar 2).dcell (SE.ivar .i64 20) 0).dcell (SE.ivar .i64 30) 0)), false), (SE.cmp .lss (SE.dleaf (.int .i64) (((SE.dvar 2).dcell (SE.ivar .i64 20) 0).dcell (SE.ivar .i64 30) 0)) (SE.int .i64 1), false), (SE.cmp .lss (SE.ivar .i64 30) ((SE.dvar 2).dcell (SE.ivar .i64 20) 0).dlen, true), (SE.cmp .lss (SE.ivar .i64 30) (SE.int .i64 0), false)], Sm.next [(30, UTy.sc (.int .i64), SE.bin .add .i64 (SE.ivar .i64 30) (SE.int .i64 1))]), ([(SE.cmp .lss (SE.ivar .i64 30) ((SE.dvar 2).dcell (SE.ivar .i64 20) 0).dlen, false), (SE.cmp .lss (SE.ivar .i64 30) (SE.int .i64 0), false)], Sm.out 0 [])]
def MK2 : List (PC × Sm) := [([(SE.bvar 31, false), (SE.cmp .lss (SE.ivar .i64 20) (SE.dvar 2).dlen, true), (SE.cmp .lss (SE.ivar .i64 20) (SE.int .i64 0), false)], Sm.next [(20, UTy.sc (.int .i64), SE.bin .add .i64 (SE.ivar .i64 20) (SE.int .i64 1))]), ([(SE.bvar 31, true), (SE.cmp .lss (SE.ivar .i64 20) (SE.dvar 2).dlen, true), (SE.cmp .lss (SE.ivar .i64 20) (SE.int .i64 0), false)], Sm.out 1 []), ([(SE.cmp .lss (SE.ivar .i64 20) (SE.dvar 2).dlen, false), (SE.cmp .lss (SE.ivar .i64 20) (SE.int .i64 0), false)], Sm.out 0 [])]
def MK : List (PC × Bool × List (STy × SE)) := [([(SE.cmp .lss (SE.int .i64 4) (SE.dvar 2).dlen, true)], false, [(.int .i64, SE.int .i64 5)]), ([(SE.cmp .eql (SE.dvar 2).dlen (SE.int .i64 0), true), (SE.bvar 11, false), (SE.cmp .lss (SE.int .i64 4) (SE.dvar 2).dlen, false)], false, [(.int .i64, SE.int .i64 2)]), ([(SE.cmp .eql ((SE.dvar 2).dcell (SE.int .i64 0) 0).dlen (SE.int .i64 0), true), (SE.cmp .eql (SE.dvar 2).dlen (SE.int .i64 0), false), (SE.bvar 11, false), (SE.cmp .lss (SE.int .i64 4) (SE.dvar 2).dlen, false)], false, [(.int .i64, SE.int .i64 2)]), ([(SE.bvar 21, false), (SE.cmp .eql ((SE.dvar 2).dcell (SE.int .i64 0) 0).dlen (SE.int .i64 0), false), (SE.cmp .eql (SE.dvar 2).dlen (SE.int .i64 0), false), (SE.bvar 11, false), (SE.cmp .lss (SE.int .i64 4) (SE.dvar 2).dlen, false)], false, [(.int .i64, SE.int .i64 0)]), ([(SE.bvar 21, true), (SE.cmp .eql ((SE.dvar 2).dcell (SE.int .i64 0) 0).dlen (SE.int .i64 0), false), (SE.cmp .eql (SE.dvar 2).dlen (SE.int .i64 0), false), (SE.bvar 11, false), (SE.cmp .lss (SE.int .i64 4) (SE.dvar 2).dlen, false)], false, [(.int .i64, SE.int .i64 6)]), ([(SE.bvar 11, true), (SE.cmp .lss (SE.int .i64 4) (SE.dvar 2).dlen, false)], false, [(.int .i64, SE.int .i64 5)])]
theorem run_K3 (r : Nat → Value) : rnK3 r = some MK3 := by kernel_rfl
theorem run_K2 (r : Nat → Value) : rnK2 r = some MK2 := by kernel_rfl
theorem run_K (r : Nat → Value) : rnK r = some MK := by kernel_rfl
theorem ivar_zero {ρ : Nat → Value} {m : Nat} (h : ρ m = .int .i64 0) : (SE.int .i64 0).num ρ = (SE.ivar .i64 m).num ρ := by
  show _ = (match ρ m with | .int _ i => IntKind.wrap .i64 i | _ => 0)
  rw [h]
  rfl
theorem n_iv {ρ : Nat → Value} {m x : Nat} (h : ρ m = .int .i64 x) (hx : x ≤ 4611686018427387904) : (SE.ivar .i64 m).num ρ = x := by
  show (match ρ m with | .int _ i => IntKind.wrap .i64 i | _ => 0) = _
  rw [h]
  exact i64_id (by omega) (by omega)
/-- Lengths that are not huge. -/
def smallLv (ls : List Value) : Prop := ls.length ≤ 1000 ∧ ∀ lr, lr ∈ ls → (symsD lr).length ≤ 1000

theorem LK3_ok {ρ : Nat → Value} {y : Nat} (h20 : ρ 20 = .int .i64 y) (hy : y ≤ 1000000) (h30 : ρ 30 = .int .i64 0) (h31 : truthOf (ρ 31) = wildsD ((elsD (ρ 2)).getD y .nilFunc)) (hn : (symsD ((elsD (ρ 2)).getD y .nilFunc)).length ≤ 1000) : LoopPOk Try.prog (tbK.atS ρ noSp noLp) LK3 := by
  refine fam_loop (Tb.only_ok tb_ok _) (Tb.only_wf tb_wf _) (m := 30) (ms := []) (g := fun _ => ρ) (n := (symsD ((elsD (ρ 2)).getD y .nilFunc)).length) (Q := fun x => ((symsD ((elsD (ρ 2)).getD y .nilFunc)).drop x).any wildD = truthOf (ρ 31)) h30 (fun k hk => by simp at hk)
    (fun x _ _ => none_ok _ _) (by kernel_rfl) rfl rfl h31.symm st_K3 (UpdOk.int (ivar_zero h30) .nil) (fun _ => rfl) (kn := kn0) (n0 := 100) (n1 := 100) (n2 := 100) (fun x => kn0_ok) (pc := pcK3) (fun x hx _ => pc_fam (by omega) (PC.holds_nil _)) run_K3 ?_
  intro x hx1 hx2
  rw [show wayOf ρ LK3.cs = if truthOf (ρ 31) then 1 else 0 from way_not _ _]
  have h2 : (SE.dvar 2).data (fam ρ 30 [] (fun _ => ρ) x) = ρ 2 := rfl
  have hN := n_fam (ρ := ρ) (m := 30) (ms := []) (g := fun _ => ρ) (show x ≤ 9223372036854775807 by omega)
  have hY : (SE.ivar .i64 20).num (fam ρ 30 [] (fun _ => ρ) x) = y := n_iv (show fam ρ 30 [] (fun _ => ρ) x 20 = _ from h20) (by omega)
  unfold MK3
  rw [all_cons, all_cons, all_cons, all_cons]
  refine ⟨fun hp => ?_, fun hp => ?_, fun hp => ?_, fun hp => ?_, fun _ h => by simp at h⟩
  all_goals simp only [h_cons, h_nil, t_lss, n_int, n_dlen, n_leaf, d_cell, h2, hN, hY, if_true, Bool.false_eq_true, if_false, Int.toNat_natCast] at hp
  · obtain ⟨h1, h3, _⟩ := hp
    have hx3 : x < (symsD ((elsD (ρ 2)).getD y .nilFunc)).length := by unfold symsD; omega
    rw [getD_drop hx3, List.any_cons, show wildD ((symsD ((elsD (ρ 2)).getD y .nilFunc)).getD x .nilFunc) = true from by unfold wildD; rw [Bool.or_eq_true]; exact .inl (decide_eq_true h1)] at hx2
    exact ⟨by rw [← hx2]; rfl, .nil⟩
  · obtain ⟨h1, _, h3, _⟩ := hp
    have hx3 : x < (symsD ((elsD (ρ 2)).getD y .nilFunc)).length := by unfold symsD; omega
    rw [getD_drop hx3, List.any_cons, show wildD ((symsD ((elsD (ρ 2)).getD y .nilFunc)).getD x .nilFunc) = true from by unfold wildD; rw [Bool.or_eq_true]; exact .inr (decide_eq_true h1)] at hx2
    exact ⟨by rw [← hx2]; rfl, .nil⟩
  · obtain ⟨h1, h4, h3, _⟩ := hp
    have hx3 : x < (symsD ((elsD (ρ 2)).getD y .nilFunc)).length := by unfold symsD; omega
    rw [getD_drop hx3, List.any_cons, show wildD ((symsD ((elsD (ρ 2)).getD y .nilFunc)).getD x .nilFunc) = false from by
      unfold wildD
      rw [Bool.or_eq_false_iff]
      exact ⟨decide_eq_false (by unfold numC symsD; omega), decide_eq_false (by unfold numC symsD; omega)⟩] at hx2
    exact ⟨hx3, hx2, UpdOk.int (next_fam (by omega)) .nil⟩
  · obtain ⟨h1, _⟩ := hp
    rw [drop_end (by unfold symsD; omega)] at hx2
    exact ⟨by rw [← hx2]; rfl, .nil⟩
theorem LK2_ok {ρ : Nat → Value} (h20 : ρ 20 = .int .i64 0) (h30 : ρ 30 = .int .i64 0) (h31 : ρ 31 = .bool (wildsD ((elsD (ρ 2)).getD 0 .nilFunc))) (h21 : truthOf (ρ 21) = (elsD (ρ 2)).any wildsD) (hn : smallLv (elsD (ρ 2))) : LoopPOk Try.prog (tbK.atS ρ noSp lpK3) LK2 := by
  have hn1 := hn.1
  have hrow : ∀ x, (symsD ((elsD (ρ 2)).getD x .nilFunc)).length ≤ 1000 := fun x => by
    rcases Nat.lt_or_ge x (elsD (ρ 2)).length with h | h
    · rw [getD_at h]; exact hn.2 _ (List.getElem_mem h)
    · rw [List.getD_eq_getElem?_getD, List.getElem?_eq_none h]; show (0 : Nat) ≤ 1000; omega
  refine fam_loop (Tb.only_ok tb_ok _) (Tb.only_wf tb_wf _) (m := 20) (ms := [31]) (g := fun x _ => .bool (wildsD ((elsD (ρ 2)).getD x .nilFunc))) (n := (elsD (ρ 2)).length) (Q := fun x => ((elsD (ρ 2)).drop x).any wildsD = truthOf (ρ 21)) h20 (fun k hk => by rw [List.mem_singleton.1 hk]; exact h31)
    (fun x hx _ => specP_of (l := [LK3]) (fs := [25]) (fun f fn hf => (Tb.only_func hf).1) (none_ok _ _) (by kernel_rfl) (fun e he => by
      rw [List.mem_singleton.1 he]
      exact LK3_ok (y := x) rfl (by omega) h30 rfl (hrow x))) (by kernel_rfl) rfl rfl h21.symm st_K2 (UpdOk.int (ivar_zero h20) .nil) (fun _ => rfl) (kn := kn0) (n0 := 100) (n1 := 100) (n2 := 100) (fun x => kn0_ok) (pc := pcK2) (fun x hx _ => pc_fam (by omega) (PC.holds_nil _)) run_K2 ?_
  intro x hx1 hx2
  rw [show wayOf ρ LK2.cs = if truthOf (ρ 21) then 1 else 0 from way_not _ _]
  have h2 : (SE.dvar 2).data (fam ρ 20 [31] (fun x _ => .bool (wildsD ((elsD (ρ 2)).getD x .nilFunc))) x) = ρ 2 := rfl
  have h3 : truthOf (fam ρ 20 [31] (fun x _ => .bool (wildsD ((elsD (ρ 2)).getD x .nilFunc))) x 31) = wildsD ((elsD (ρ 2)).getD x .nilFunc) := rfl
  have hN := n_fam (ρ := ρ) (m := 20) (ms := [31]) (g := fun x _ => .bool (wildsD ((elsD (ρ 2)).getD x .nilFunc))) (show x ≤ 9223372036854775807 by omega)
  unfold MK2
  rw [all_cons, all_cons, all_cons]
  refine ⟨fun hp => ?_, fun hp => ?_, fun hp => ?_, fun _ h => by simp at h⟩
  all_goals simp only [h_cons, h_nil, t_lss, t_bvar, n_int, n_dlen, n_leaf, d_cell, h2, h3, hN, if_true, Bool.false_eq_true, if_false, Int.toNat_natCast] at hp
  · obtain ⟨h1, h4, _⟩ := hp
    rw [getD_drop (by omega), List.any_cons, h1] at hx2
    exact ⟨by omega, hx2, UpdOk.int (next_fam (by omega)) .nil⟩
  · obtain ⟨h1, h4, _⟩ := hp
    rw [getD_drop (by omega), List.any_cons, h1] at hx2
    exact ⟨by rw [← hx2]; rfl, .nil⟩
  · obtain ⟨h1, _⟩ := hp
    rw [drop_end (by omega)] at hx2
    exact ⟨by rw [← hx2]; rfl, .nil⟩
/-- **keymap.check.** -/
theorem check_fnc {ρ : Nat → Value} (h10 : ρ 10 = .int .i64 0) (h11 : ρ 11 = .bool ((elsD (ρ 2)).any manyD)) (h20 : ρ 20 = .int .i64 0) (h30 : ρ 30 = .int .i64 0) (h31 : ρ 31 = .bool (wildsD ((elsD (ρ 2)).getD 0 .nilFunc))) (h21 : ρ 21 = .bool ((elsD (ρ 2)).any wildsD)) (hn : smallLv (elsD (ρ 2))) :
    FncR Try.prog tb.glob ρ 25 argK (.int .i64 (chkD (elsD (ρ 2)) 5 2 6)) := by
  have e11 : truthOf (ρ 11) = (elsD (ρ 2)).any manyD := by rw [h11]; rfl
  have e21 : truthOf (ρ 21) = (elsD (ρ 2)).any wildsD := by rw [h21]; rfl
  have hsp : SpecOk Try.prog (tbK.atS ρ noSp lpK) := specP_of (l := [LK1, LK2]) (fs := [25]) (fun f fn hf => (Tb.only_func hf).1) (none_ok _ _) (by kernel_rfl) (fun e he => by
    rcases List.mem_cons.1 he with rfl | he
    · exact LK1_ok h10 e11 hn.1
    · rw [List.mem_singleton.1 he]
      exact LoopPOk.tb (tb := tbK.atS ρ noSp lpK3) (tb' := tbK.atS ρ noSp noLp) rfl rfl rfl (LK2_ok h20 h30 h31 e21 hn))
  refine fnc_run (Tb.only_ok tb_ok _) (Tb.only_wf tb_wf _) hsp (kn := kn0) (n0 := 100) (n1 := 100) kn0_ok (pc := []) (PC.holds_nil _) (by kernel_rfl) (run_K ρ) ?_
  have h2 : (SE.dvar 2).data ρ = ρ 2 := rfl
  unfold MK
  rw [all_cons, all_cons, all_cons, all_cons, all_cons, all_cons]
  refine ⟨fun hp => ?_, fun hp => ?_, fun hp => ?_, fun hp => ?_, fun hp => ?_, fun hp => ?_, fun _ h => by simp at h⟩
  all_goals
    simp only [h_cons, h_nil, t_lss, t_eql, t_bvar, n_int, n_dlen, d_cell, h2, e11, e21, if_true, Bool.false_eq_true, if_false] at hp
    show Value.int .i64 _ = Value.int .i64 _
    congr 1
    show _ = chkD _ _ _ _
    unfold chkD
  · rw [if_pos (by omega)]; rfl
  · rw [if_neg (by omega), if_neg (by rw [hp.2.1]; simp), if_pos (.inl (by omega))]; rfl
  · rw [if_neg (by omega), if_neg (by rw [hp.2.2.1]; simp), if_pos (.inr (by unfold symsD; have := hp.1; simpa using this))]; rfl
  · rw [if_neg (by omega), if_neg (by rw [hp.2.2.2.1]; simp), if_neg (by
      rintro (h | h)
      · have := hp.2.2.1; omega
      · exact hp.2.1 (by unfold symsD at h; simpa using h)), if_neg (by rw [hp.1]; simp)]; rfl
  · rw [if_neg (by omega), if_neg (by rw [hp.2.2.2.1]; simp), if_neg (by
      rintro (h | h)
      · have := hp.2.2.1; omega
      · exact hp.2.1 (by unfold symsD at h; simpa using h)), if_pos hp.1]; rfl
  · rw [if_neg (by omega), if_pos hp.1]; rfl
end
end Go.Proofs.Ytaidiaiedhbaoaa

/- The reference's find and check, as contracts. -/
set_option linter.unusedVariables false
set_option linter.unusedSimpArgs false
namespace Go.Proofs.Ytaidiaiedhbaoaa
open Go.Sx Go.ChangeShapes Go.WideShapes Go.ChangeAt Go.RowKit
noncomputable section
def tbF : Tb := tb.only [29]
def argF : List V := [.sli shK (.bvar 1) (.dvar 2) .unk, iv 0]
def entF1 : St := { env := (Tr.leaf.node (some (V.sym (STy.int .i64) (SE.ivar .i64 0))) (Tr.leaf.node (some (V.val (Value.int .i64 0))) Tr.leaf)).node (some (V.sli ((Sh.sc (STy.int .i64)).cons ((((Sh.sc (STy.int .i64)).cons Sh.nil).li.cons Sh.nil).li.cons Sh.nil)).li (SE.bvar 1) (SE.dvar 2) Tok.unk)) ((Tr.leaf.node (some (V.val (Value.int .i64 0))) Tr.leaf).node none Tr.leaf), h := { tab := Tr.leaf, next := 0, base := 0, low := none } }
def pcF1 : PC := addPC (.cmp .leq (.int .i64 0) (.ivar .i64 40)) true []
def LF1 : LoopP where
  f := 29
  i := 0
  key := 1966272
  D := mkLoop (loopAt tbF 29 0) entF1 [(5, iv 40)] [] [(.exit 0, [], []), (.ret, [(4, iv 41)], [])] 0 300 (famPat 40 []) (fun n => Nat.beq n 41)
  cs := [.cmp .lss (.ivar .i64 41) (.int .i64 0)]
theorem st_F1 : startOf LF1.D = some [(40, .sc (.int .i64), .int .i64 0)] := by kernel_rfl
def rnF1 (r : Nat → Value) := sums LF1.D (execF kn0 (callF kn0 Try.prog (tbF.atS r noSp noLp) 100 100) Try.prog (tbF.atS r noSp noLp) 100 (.code (loopAt tbF 29 0)) pcF1 LF1.D.hd)
def lpF : Lp := lpOf [LF1.e]
def rnfF (r : Nat → Value) := outsF (callF kn0 Try.prog (tbF.atS r noSp lpF) 100 100 [] 29 argF H0)
def MF1 : List (PC × Sm) := [([(SE.cmp .eql (SE.dleaf (.int .i64) ((SE.dvar 2).dcell (SE.ivar .i64 40) 0)) (SE.ivar .i64 0), true), (SE.cmp .lss (SE.ivar .i64 40) (SE.dvar 2).dlen, true), (SE.cmp .lss (SE.ivar .i64 40) (SE.int .i64 0), false)], Sm.out 1 [(41, UTy.sc (.int .i64), SE.ivar .i64 40)]), ([(SE.cmp .eql (SE.dleaf (.int .i64) ((SE.dvar 2).dcell (SE.ivar .i64 40) 0)) (SE.ivar .i64 0), false), (SE.cmp .lss (SE.ivar .i64 40) (SE.dvar 2).dlen, true), (SE.cmp .lss (SE.ivar .i64 40) (SE.int .i64 0), false)], Sm.next [(40, UTy.sc (.int .i64), SE.bin .add .i64 (SE.ivar .i64 40) (SE.int .i64 1))]), ([(SE.cmp .lss (SE.ivar .i64 40) (SE.dvar 2).dlen, false), (SE.cmp .lss (SE.ivar .i64 40) (SE.int .i64 0), false)], Sm.out 0 [])]
def MfF : List (PC × Bool × List (STy × SE)) := [([(SE.cmp .lss (SE.ivar .i64 41) (SE.int .i64 0), true)], false, [(.int .i64, SE.int .i64 (Int.negSucc 0))]), ([(SE.cmp .lss (SE.ivar .i64 41) (SE.int .i64 0), false)], false, [(.int .i64, SE.ivar .i64 41)])]
theorem run_F1 (r : Nat → Value) : rnF1 r = some MF1 := by kernel_rfl
theorem run_fF (r : Nat → Value) : rnfF r = some MfF := by kernel_rfl
theorem iv_at {ρ : Nat → Value} {m : Nat} {x : Int} (h : ρ m = .int .i64 x) (h1 : -9223372036854775808 ≤ x) (h2 : x ≤ 9223372036854775807) : (SE.ivar .i64 m).num ρ = x := by
  show (match ρ m with | .int _ i => IntKind.wrap .i64 i | _ => 0) = _
  rw [h]
  exact i64_id h1 h2
theorem way_neg {ρ : Nat → Value} {e : SE} : wayOf ρ [.cmp .lss e (.int .i64 0)] = if e.num ρ < 0 then 0 else 1 := by
  show (if (SE.cmp .lss e (.int .i64 0)).truth ρ = true then 0 else 0 + 1) = _
  rw [(truth_cmp _ _ _).2.2.1]
  have : (SE.int .i64 0).num ρ = 0 := rfl
  rw [this]
  by_cases h : e.num ρ < 0 <;> simp [h]
def idxFrom (c : Int) (l : List Value) (x : Nat) : Int := if idxD c (l.drop x) < 0 then -1 else idxD c (l.drop x) + x
theorem idxFrom_zero (c : Int) (l : List Value) : idxFrom c l 0 = idxD c l := by
  unfold idxFrom
  have := (idxD_range c l).1
  rw [List.drop_zero]
  split <;> omega
theorem idxFrom_hit {c : Int} {l : List Value} {x : Nat} (h : x < l.length) (hc : codeD (l.getD x .nilFunc) = c) : idxFrom c l x = x := by
  unfold idxFrom
  rw [getD_drop h]
  simp only [idxD, hc, if_true]
  simp
theorem idxFrom_miss {c : Int} {l : List Value} {x : Nat} (h : x < l.length) (hc : codeD (l.getD x .nilFunc) ≠ c) : idxFrom c l x = idxFrom c l (x + 1) := by
  unfold idxFrom
  rw [getD_drop h]
  simp only [idxD, hc, if_false]
  have := (idxD_range c (l.drop (x + 1))).1
  by_cases hh : idxD c (l.drop (x + 1)) < 0
  · simp [hh]
  · rw [if_neg hh, if_neg hh, if_neg (by omega)]
    push_cast
    omega
theorem idxFrom_end {c : Int} {l : List Value} {x : Nat} (h : l.length ≤ x) : idxFrom c l x = -1 := by
  unfold idxFrom
  rw [drop_end h]
  rfl
theorem LF1_ok {ρ : Nat → Value} {c : Int} (hc : (SE.ivar .i64 0).num ρ = c) (h40 : ρ 40 = .int .i64 0) (h41 : ρ 41 = .int .i64 (idxD c (elsD (ρ 2)))) (hn : (elsD (ρ 2)).length ≤ 1000) : LoopPOk Try.prog (tbF.atS ρ noSp noLp) LF1 := by
  have hr := idxD_range c (elsD (ρ 2))
  have e41 : (SE.ivar .i64 41).num ρ = idxD c (elsD (ρ 2)) := iv_at h41 (by omega) (by omega)
  refine fam_loop (Tb.only_ok tb_ok _) (Tb.only_wf tb_wf _) (m := 40) (ms := []) (g := fun _ => ρ) (n := (elsD (ρ 2)).length) (Q := fun x => idxFrom c (elsD (ρ 2)) x = idxD c (elsD (ρ 2))) h40 (fun k hk => by simp at hk)
    (fun x _ _ => none_ok _ _) (by kernel_rfl) rfl rfl (idxFrom_zero _ _) st_F1 (UpdOk.int (ivar_zero h40) .nil) (fun _ => rfl) (kn := kn0) (n0 := 100) (n1 := 100) (n2 := 100) (fun x => kn0_ok) (pc := pcF1) (fun x hx _ => pc_fam (by omega) (PC.holds_nil _)) run_F1 ?_
  intro x hx1 hx2
  rw [show wayOf ρ LF1.cs = if (SE.ivar .i64 41).num ρ < 0 then 0 else 1 from way_neg, e41]
  have h2 : (SE.dvar 2).data (fam ρ 40 [] (fun _ => ρ) x) = ρ 2 := rfl
  have h0 : (SE.ivar .i64 0).num (fam ρ 40 [] (fun _ => ρ) x) = c := hc
  have hR : (SE.ivar .i64 41).num (fam ρ 40 [] (fun _ => ρ) x) = idxD c (elsD (ρ 2)) := e41
  have hN := n_fam (ρ := ρ) (m := 40) (ms := []) (g := fun _ => ρ) (show x ≤ 9223372036854775807 by omega)
  unfold MF1
  rw [all_cons, all_cons, all_cons]
  refine ⟨fun hp => ?_, fun hp => ?_, fun hp => ?_, fun _ h => by simp at h⟩
  all_goals simp only [h_cons, h_nil, t_lss, t_eql, n_int, n_dlen, n_leaf, d_cell, h0, h2, hN, if_true, Bool.false_eq_true, if_false, Int.toNat_natCast] at hp
  · obtain ⟨h1, h3, _⟩ := hp
    rw [idxFrom_hit (by omega) h1] at hx2
    rw [← hx2]
    refine ⟨by rw [if_neg (by omega)], UpdOk.int ?_ .nil⟩
    rw [hN, hR, ← hx2]
  · obtain ⟨h1, h3, _⟩ := hp
    rw [idxFrom_miss (by omega) h1] at hx2
    exact ⟨by omega, hx2, UpdOk.int (next_fam (by omega)) .nil⟩
  · rw [idxFrom_end (by omega)] at hx2
    rw [← hx2]
    exact ⟨rfl, .nil⟩
/-- **The reference's find.** -/
theorem find_fnc {ρ : Nat → Value} {c : Int} (hc : (SE.ivar .i64 0).num ρ = c) (h40 : ρ 40 = .int .i64 0) (h41 : ρ 41 = .int .i64 (idxD c (elsD (ρ 2)))) (hn : (elsD (ρ 2)).length ≤ 1000) : FncR Try.prog tb.glob ρ 29 argF (.int .i64 (idxD c (elsD (ρ 2)))) := by
  have hr := idxD_range c (elsD (ρ 2))
  have e41 : (SE.ivar .i64 41).num ρ = idxD c (elsD (ρ 2)) := iv_at h41 (by omega) (by omega)
  have hsp : SpecOk Try.prog (tbF.atS ρ noSp lpF) := specP_of (l := [LF1]) (fs := [29]) (fun f fn hf => (Tb.only_func hf).1) (none_ok _ _) (by kernel_rfl) (fun e he => by
    rw [List.mem_singleton.1 he]
    exact LF1_ok hc h40 h41 hn)
  refine fnc_run (Tb.only_ok tb_ok _) (Tb.only_wf tb_wf _) hsp (kn := kn0) (n0 := 100) (n1 := 100) kn0_ok (pc := []) (PC.holds_nil _) (by kernel_rfl) (run_fF ρ) ?_
  unfold MfF
  rw [all_cons, all_cons]
  refine ⟨fun hp => ?_, fun hp => ?_, fun _ h => by simp at h⟩
  all_goals
    simp only [h_cons, h_nil, t_lss, n_int, e41, if_true, Bool.false_eq_true, if_false] at hp
    show Value.int .i64 _ = Value.int .i64 _
    congr 1
  · show Int.negSucc 0 = _
    omega
end
end Go.Proofs.Ytaidiaiedhbaoaa
