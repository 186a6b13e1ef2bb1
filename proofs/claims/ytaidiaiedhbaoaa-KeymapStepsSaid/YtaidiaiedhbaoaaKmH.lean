/- The reference's Layouts; which keys are large: contracts. -/
import Derived.Test.YtaidiaiedhbaoaaKmG
/- The reference's Layouts; which keys are large: contracts. -/
set_option linter.unusedVariables false
set_option linter.unusedSimpArgs false
namespace Go.Proofs.Ytaidiaiedhbaoaa
open Go.Sx Go.ChangeShapes Go.WideShapes Go.ChangeAt Go.RowKit
noncomputable section
def tbY : Tb := tb.only [14]
def argY : List V := [.agg [.sli shK (.bvar 1) (.dvar 2) .unk]]
def tbL : Tb := tb.only [9]
def argL : List V := [.sli shK (.bvar 1) (.dvar 2) .unk]
def pcL0 : PC := addPC (.cmp .gtr (.dlen (.dvar 2)) (.int .i64 300)) false []
def entY1 : St := { env := ((Tr.leaf.node (some (V.val (Value.int .i64 1))) Tr.leaf).node (some (V.ptr 0 0)) Tr.leaf).node (some (V.agg [V.sli ((Sh.sc (STy.int .i64)).cons ((((Sh.sc (STy.int .i64)).cons Sh.nil).li.cons Sh.nil).li.cons Sh.nil)).li (SE.bvar 1) (SE.dvar 2) Tok.unk])) ((Tr.leaf.node (some (V.val (Value.int .i64 0))) Tr.leaf).node (some (V.val (Value.int .i64 0))) Tr.leaf), h := { tab := Tr.leaf.node (some (Blk.cells [V.sli ((Sh.sc (STy.int .i64)).cons ((((Sh.sc (STy.int .i64)).cons Sh.nil).li.cons Sh.nil).li.cons Sh.nil)).li (SE.bvar 1) (SE.dvar 2) Tok.unk])) Tr.leaf, next := 1, base := 0, low := none } }
def pcY1 : PC := addPC (.cmp .leq (.int .i64 0) (.ivar .i64 10)) true []
def LY1 : LoopP where
  f := 14
  i := 0
  key := 2294016
  D := mkLoop (loopAt tbY 14 0) entY1 [(4, iv 10), (3, iv 12)] [] [(.exit 0, [(3, iv 13)], [])] 0 300 (famPat 10 [12]) (fun n => Nat.beq n 13)
  cs := []
theorem st_Y1 : startOf LY1.D = some [(12, .sc (.int .i64), .int .i64 1), (10, .sc (.int .i64), .int .i64 0)] := by kernel_rfl
def rnY1 (r : Nat → Value) := sums LY1.D (execF kn0 (callF kn0 Try.prog (tbY.atS r noSp noLp) 100 100) Try.prog (tbY.atS r noSp noLp) 100 (.code (loopAt tbY 14 0)) pcY1 LY1.D.hd)
def lpY : Lp := lpOf [LY1.e]
def rnfY (r : Nat → Value) := outsF (callF kn0 Try.prog (tbY.atS r noSp lpY) 100 100 [] 14 argY H0)
def entL1 : St := { env := (((Tr.leaf.node (some (V.sym STy.bool (SE.cmp .gtr (SE.dvar 2).dlen (SE.int .i64 300)))) Tr.leaf).node none Tr.leaf).node none ((Tr.leaf.node (some (V.sym (STy.int .i64) (SE.dvar 2).dlen)) Tr.leaf).node (some (V.sli ((Sh.sc (STy.int .i64)).cons ((((Sh.sc (STy.int .i64)).cons Sh.nil).li.cons Sh.nil).li.cons Sh.nil)).li (SE.bvar 1) (SE.dvar 2) Tok.unk)) Tr.leaf)).node (some (V.sli ((Sh.sc (STy.int .i64)).cons ((((Sh.sc (STy.int .i64)).cons Sh.nil).li.cons Sh.nil).li.cons Sh.nil)).li (SE.bvar 1) (SE.dvar 2) Tok.unk)) (((Tr.leaf.node (some (V.sli ((Sh.sc (STy.int .i64)).cons ((((Sh.sc (STy.int .i64)).cons Sh.nil).li.cons Sh.nil).li.cons Sh.nil)).li (SE.bvar 1) (SE.dvar 2) Tok.unk)) Tr.leaf).node none Tr.leaf).node (some (V.val (Value.bool false))) ((Tr.leaf.node (some (V.val (Value.int .i64 0))) Tr.leaf).node (some (V.sym (STy.int .i64) (SE.dvar 2).dlen)) Tr.leaf)), h := { tab := Tr.leaf, next := 0, base := 0, low := none } }
def pcL1 : PC := addPC (.cmp .leq (.int .i64 0) (.ivar .i64 10)) true pcL0
def LL1 : LoopP where
  f := 9
  i := 0
  key := 721216
  D := mkLoop (loopAt tbL 9 0) entL1 [(10, iv 10)] [] [(.exit 0, [], []), (.ret, [(2, .val (.bool true))], [])] 0 300 (famPat 10 [21]) (fun _ => false)
  cs := [.not (.bvar 11)]
theorem st_L1 : startOf LL1.D = some [(10, .sc (.int .i64), .int .i64 0)] := by kernel_rfl
def pcL1x : PC := addPC (.cmp .lss (.ivar .i64 10) (.dlen (.dvar 2))) true pcL1
def pcL1e : PC := addPC (.cmp .lss (.ivar .i64 10) (.dlen (.dvar 2))) false pcL1
def entL2 : St := { env := (((((Tr.leaf.node (some V.top) Tr.leaf).node (some (V.cptr [V.sym (STy.int .i64) (SE.dleaf (STy.int .i64) ((SE.dvar 2).dcell (SE.ivar .i64 10) 0)), V.sli (((Sh.sc (STy.int .i64)).cons Sh.nil).li.cons Sh.nil).li ((SE.dvar 2).dcell (SE.ivar .i64 10) 1).dnil ((SE.dvar 2).dcell (SE.ivar .i64 10) 1) Tok.unk])) Tr.leaf).node (some (V.sym STy.bool (SE.cmp .gtr (SE.dvar 2).dlen (SE.int .i64 300)))) ((Tr.leaf.node (some V.top) Tr.leaf).node (some (V.cptr [V.sli (((Sh.sc (STy.int .i64)).cons Sh.nil).li.cons Sh.nil).li ((SE.dvar 2).dcell (SE.ivar .i64 10) 1).dnil ((SE.dvar 2).dcell (SE.ivar .i64 10) 1) Tok.unk])) Tr.leaf)).node (some (V.sym (STy.int .i64) (SE.ivar .i64 10))) (((Tr.leaf.node (some V.top) Tr.leaf).node (some (V.sym STy.bool (SE.cmp .gtr ((SE.dvar 2).dcell (SE.ivar .i64 10) 1).dlen (SE.int .i64 10)))) Tr.leaf).node (some (V.sym STy.bool (SE.cmp .lss (SE.ivar .i64 10) (SE.dvar 2).dlen))) (Tr.leaf.node (some V.top) Tr.leaf))).node none ((((Tr.leaf.node (some V.top) Tr.leaf).node (some (V.sli (((Sh.sc (STy.int .i64)).cons Sh.nil).li.cons Sh.nil).li ((SE.dvar 2).dcell (SE.ivar .i64 10) 1).dnil ((SE.dvar 2).dcell (SE.ivar .i64 10) 1) Tok.unk)) Tr.leaf).node (some (V.sym (STy.int .i64) (SE.dvar 2).dlen)) (Tr.leaf.node (some (V.sym (STy.int .i64) ((SE.dvar 2).dcell (SE.ivar .i64 10) 1).dlen)) Tr.leaf)).node (some (V.sli ((Sh.sc (STy.int .i64)).cons ((((Sh.sc (STy.int .i64)).cons Sh.nil).li.cons Sh.nil).li.cons Sh.nil)).li (SE.bvar 1) (SE.dvar 2) Tok.unk)) (((Tr.leaf.node (some V.top) Tr.leaf).node (some (V.sym (STy.int .i64) (SE.ivar .i64 10))) Tr.leaf).node (some (V.sli ((Sh.sc (STy.int .i64)).cons ((((Sh.sc (STy.int .i64)).cons Sh.nil).li.cons Sh.nil).li.cons Sh.nil)).li (SE.bvar 1) (SE.dvar 2) Tok.unk)) (Tr.leaf.node (some V.top) Tr.leaf)))).node (some (V.sli ((Sh.sc (STy.int .i64)).cons ((((Sh.sc (STy.int .i64)).cons Sh.nil).li.cons Sh.nil).li.cons Sh.nil)).li (SE.bvar 1) (SE.dvar 2) Tok.unk)) (((((Tr.leaf.node (some V.top) Tr.leaf).node (some (V.cptr [V.sli (((Sh.sc (STy.int .i64)).cons Sh.nil).li.cons Sh.nil).li ((SE.dvar 2).dcell (SE.ivar .i64 10) 1).dnil ((SE.dvar 2).dcell (SE.ivar .i64 10) 1) Tok.unk])) Tr.leaf).node (some (V.sli ((Sh.sc (STy.int .i64)).cons ((((Sh.sc (STy.int .i64)).cons Sh.nil).li.cons Sh.nil).li.cons Sh.nil)).li (SE.bvar 1) (SE.dvar 2) Tok.unk)) ((Tr.leaf.node (some V.top) Tr.leaf).node (some (V.sli (((Sh.sc (STy.int .i64)).cons Sh.nil).li.cons Sh.nil).li ((SE.dvar 2).dcell (SE.ivar .i64 10) 1).dnil ((SE.dvar 2).dcell (SE.ivar .i64 10) 1) Tok.unk)) Tr.leaf)).node (some V.top) (((Tr.leaf.node (some V.top) Tr.leaf).node (some (V.sli ((Sh.sc (STy.int .i64)).cons ((((Sh.sc (STy.int .i64)).cons Sh.nil).li.cons Sh.nil).li.cons Sh.nil)).li (SE.bvar 1) (SE.dvar 2) Tok.unk)) Tr.leaf).node (some (V.sym (STy.int .i64) (SE.ivar .i64 10))) (Tr.leaf.node (some V.top) Tr.leaf))).node (some V.top) ((((Tr.leaf.node (some V.top) Tr.leaf).node (some (V.sym (STy.int .i64) ((SE.dvar 2).dcell (SE.ivar .i64 10) 1).dlen)) Tr.leaf).node (some (V.sym (STy.int .i64) (SE.ivar .i64 10))) (Tr.leaf.node (some (V.val (Value.int .i64 0))) Tr.leaf)).node (some (V.sym (STy.int .i64) (SE.dvar 2).dlen)) (((Tr.leaf.node (some V.top) Tr.leaf).node (some (V.cptr [V.sym (STy.int .i64) (SE.dleaf (STy.int .i64) ((SE.dvar 2).dcell (SE.ivar .i64 10) 0)), V.sli (((Sh.sc (STy.int .i64)).cons Sh.nil).li.cons Sh.nil).li ((SE.dvar 2).dcell (SE.ivar .i64 10) 1).dnil ((SE.dvar 2).dcell (SE.ivar .i64 10) 1) Tok.unk])) Tr.leaf).node (some (V.sym (STy.int .i64) (SE.ivar .i64 10))) (Tr.leaf.node (some V.top) Tr.leaf)))), h := { tab := Tr.leaf, next := 0, base := 0, low := none } }
def pcL2 : PC := addPC (.cmp .leq (.int .i64 0) (.ivar .i64 20)) true pcL1x
def LL2 : LoopP where
  f := 9
  i := 1
  key := 1770112
  D := mkLoop (loopAt tbL 9 1) entL2 [(26, iv 20)] [] [(.exit 2, [], []), (.ret, [(2, .val (.bool true))], [])] 0 300 (famPat 20 []) (fun _ => false)
  cs := [.not (.bvar 21)]
theorem st_L2 : startOf LL2.D = some [(20, .sc (.int .i64), .int .i64 0)] := by kernel_rfl
def rnL2 (r : Nat → Value) := sums LL2.D (execF kn0 (callF kn0 Try.prog (tbL.atS r noSp noLp) 100 100) Try.prog (tbL.atS r noSp noLp) 100 (.code (loopAt tbL 9 1)) pcL2 LL2.D.hd)
def lpL2 : Lp := lpOf [LL2.e]
def rnL1 (r : Nat → Value) := sums LL1.D (execF kn0 (callF kn0 Try.prog (tbL.atS r noSp lpL2) 100 100) Try.prog (tbL.atS r noSp lpL2) 100 (.code (loopAt tbL 9 0)) pcL1x LL1.D.hd)
def rnL1e (r : Nat → Value) := sums LL1.D (execF kn0 (callF kn0 Try.prog (tbL.atS r noSp noLp) 100 100) Try.prog (tbL.atS r noSp noLp) 100 (.code (loopAt tbL 9 0)) pcL1e LL1.D.hd)
def lpL : Lp := lpOf [LL1.e]
def rnfL (r : Nat → Value) := outsF (callF kn0 Try.prog (tbL.atS r noSp lpL) 100 100 pcL0 9 argL H0)
def pcLb : PC := addPC (.cmp .gtr (.dlen (.dvar 2)) (.int .i64 300)) true []
def rnfLb (r : Nat → Value) := outsF (callF kn0 Try.prog (tbL.atS r noSp noLp) 100 100 pcLb 9 argL H0)
def MY1 : List (PC × Sm) := [([(SE.cmp .lss (SE.ivar .i64 10) (SE.dvar 2).dlen, true), (SE.cmp .lss (SE.ivar .i64 10) (SE.int .i64 0), false)], Sm.next [(12, UTy.sc (.int .i64), SE.max true (SE.ivar .i64 12) ((SE.dvar 2).dcell (SE.ivar .i64 10) 1).dlen), (10, UTy.sc (.int .i64), SE.bin .add .i64 (SE.ivar .i64 10) (SE.int .i64 1))]), ([(SE.cmp .lss (SE.ivar .i64 10) (SE.dvar 2).dlen, false), (SE.cmp .lss (SE.ivar .i64 10) (SE.int .i64 0), false)], Sm.out 0 [(13, UTy.sc (.int .i64), SE.ivar .i64 12)])]
def MfY : List (PC × Bool × List (STy × SE)) := [([], false, [(.int .i64, SE.ivar .i64 13)])]
def ML2 : List (PC × Sm) := [([(SE.cmp .lss (SE.int .i64 10) (((SE.dvar 2).dcell (SE.ivar .i64 10) 1).dcell (SE.ivar .i64 20) 0).dlen, true), (SE.cmp .lss (SE.ivar .i64 20) ((SE.dvar 2).dcell (SE.ivar .i64 10) 1).dlen, true), (SE.cmp .lss (SE.ivar .i64 20) (SE.int .i64 0), false), (SE.cmp .lss (SE.ivar .i64 10) (SE.dvar 2).dlen, true), (SE.cmp .lss (SE.ivar .i64 10) (SE.int .i64 0), false), (SE.cmp .lss (SE.int .i64 300) (SE.dvar 2).dlen, false)], Sm.out 1 []), ([(SE.cmp .lss (SE.int .i64 10) (((SE.dvar 2).dcell (SE.ivar .i64 10) 1).dcell (SE.ivar .i64 20) 0).dlen, false), (SE.cmp .lss (SE.ivar .i64 20) ((SE.dvar 2).dcell (SE.ivar .i64 10) 1).dlen, true), (SE.cmp .lss (SE.ivar .i64 20) (SE.int .i64 0), false), (SE.cmp .lss (SE.ivar .i64 10) (SE.dvar 2).dlen, true), (SE.cmp .lss (SE.ivar .i64 10) (SE.int .i64 0), false), (SE.cmp .lss (SE.int .i64 300) (SE.dvar 2).dlen, false)], Sm.next [(20, UTy.sc (.int .i64), SE.bin .add .i64 (SE.ivar .i64 20) (SE.int .i64 1))]), ([(SE.cmp .lss (SE.ivar .i64 20) ((SE.dvar 2).dcell (SE.ivar .i64 10) 1).dlen, false), (SE.cmp .lss (SE.ivar .i64 20) (SE.int .i64 0), false), (SE.cmp .lss (SE.ivar .i64 10) (SE.dvar 2).dlen, true), (SE.cmp .lss (SE.ivar .i64 10) (SE.int .i64 0), false), (SE.cmp .lss (SE.int .i64 300) (SE.dvar 2).dlen, false)], Sm.out 0 [])]
def ML1 : List (PC × Sm) := [([(SE.cmp .lss (SE.int .i64 10) ((SE.dvar 2).dcell (SE.ivar .i64 10) 1).dlen, true), (SE.cmp .lss (SE.ivar .i64 10) (SE.dvar 2).dlen, true), (SE.cmp .lss (SE.ivar .i64 10) (SE.int .i64 0), false), (SE.cmp .lss (SE.int .i64 300) (SE.dvar 2).dlen, false)], Sm.out 1 []), ([(SE.bvar 21, false), (SE.cmp .lss (SE.int .i64 10) ((SE.dvar 2).dcell (SE.ivar .i64 10) 1).dlen, false), (SE.cmp .lss (SE.ivar .i64 10) (SE.dvar 2).dlen, true), (SE.cmp .lss (SE.ivar .i64 10) (SE.int .i64 0), false), (SE.cmp .lss (SE.int .i64 300) (SE.dvar 2).dlen, false)], Sm.next [(10, UTy.sc (.int .i64), SE.bin .add .i64 (SE.ivar .i64 10) (SE.int .i64 1))]), ([(SE.bvar 21, true), (SE.cmp .lss (SE.int .i64 10) ((SE.dvar 2).dcell (SE.ivar .i64 10) 1).dlen, false), (SE.cmp .lss (SE.ivar .i64 10) (SE.dvar 2).dlen, true), (SE.cmp .lss (SE.ivar .i64 10) (SE.int .i64 0), false), (SE.cmp .lss (SE.int .i64 300) (SE.dvar 2).dlen, false)], Sm.out 1 [])]
def ML1e : List (PC × Sm) := [([(SE.cmp .lss (SE.ivar .i64 10) (SE.dvar 2).dlen, false), (SE.cmp .lss (SE.ivar .i64 10) (SE.int .i64 0), false), (SE.cmp .lss (SE.int .i64 300) (SE.dvar 2).dlen, false)], Sm.out 0 [])]
def MfL : List (PC × Bool × List (STy × SE)) := [([(SE.bvar 11, false), (SE.cmp .lss (SE.int .i64 300) (SE.dvar 2).dlen, false)], false, [(.bool, SE.bool false)]), ([(SE.bvar 11, true), (SE.cmp .lss (SE.int .i64 300) (SE.dvar 2).dlen, false)], false, [(.bool, SE.bool true)])]
def MfLb : List (PC × Bool × List (STy × SE)) := [([(SE.cmp .lss (SE.int .i64 300) (SE.dvar 2).dlen, true)], false, [(.bool, SE.bool true)])]
theorem run_Y1 (r : Nat → Value) : rnY1 r = some MY1 := by kernel_rfl
theorem run_fY (r : Nat → Value) : rnfY r = some MfY := by kernel_rfl
/-- The greatest number of layouts. -/
def laysD (l : List Value) : Nat := l.foldl (fun a r => max a (levD r).length) 1
theorem lays_take {l : List Value} {x : Nat} (h : x < l.length) : laysD (l.take (x + 1)) = max (laysD (l.take x)) (levD (l.getD x .nilFunc)).length := by
  unfold laysD
  rw [List.take_add_one, List.foldl_append, List.getElem?_eq_getElem h, getD_at h]
  rfl
theorem lays_le {l : List Value} {n : Nat} (h : ∀ r, r ∈ l → (levD r).length ≤ n) : ∀ a, a ≤ max n 1 → l.foldl (fun a r => max a (levD r).length) a ≤ max n 1 := by
  induction l with
  | nil => intro a ha; exact ha
  | cons r l ih =>
    intro a ha
    rw [List.foldl_cons]
    refine ih (fun r hr => h r (List.mem_cons_of_mem _ hr)) _ ?_
    have := h r List.mem_cons_self
    omega
/-- Lengths that are not huge. -/
def smallKs (l : List Value) : Prop := l.length ≤ 1000 ∧ ∀ r, r ∈ l → smallLv (levD r)
theorem smallKs.row {l : List Value} (h : smallKs l) (x : Nat) : smallLv (levD (l.getD x .nilFunc)) := by
  rcases Nat.lt_or_ge x l.length with hx | hx
  · rw [getD_at hx]; exact h.2 _ (List.getElem_mem hx)
  · rw [List.getD_eq_getElem?_getD, List.getElem?_eq_none hx]; exact ⟨Nat.zero_le _, fun lr hlr => by simp [levD, cellD, elsD] at hlr⟩
theorem smallKs.lays {l : List Value} (h : smallKs l) (x : Nat) : laysD (l.take x) ≤ 1000 := by
  have := lays_le (l := l.take x) (n := 1000) (fun r hr => (h.2 r (List.mem_of_mem_take hr)).1) 1 (by omega)
  exact this
theorem LY1_ok {ρ : Nat → Value} (h10 : ρ 10 = .int .i64 0) (h12 : ρ 12 = .int .i64 1) (h13 : ρ 13 = .int .i64 (laysD (elsD (ρ 2)))) (hn : smallKs (elsD (ρ 2))) : LoopPOk Try.prog (tbY.atS ρ noSp noLp) LY1 := by
  generalize hg : (fun (x : Nat) (_ : Nat) => Value.int .i64 (laysD ((elsD (ρ 2)).take x))) = g
  have hn1 := hn.1
  have h2 : ∀ x, (SE.dvar 2).data (fam ρ 10 [12] g x) = ρ 2 := fun x => rfl
  have hN : ∀ x, x ≤ (elsD (ρ 2)).length → (SE.ivar .i64 10).num (fam ρ 10 [12] g x) = x := fun x hx => n_fam (by omega)
  have hA : ∀ x, (SE.ivar .i64 12).num (fam ρ 10 [12] g x) = laysD ((elsD (ρ 2)).take x) := fun x => n_iv (show fam ρ 10 [12] g x 12 = _ from by rw [← hg]; rfl) (by have := hn.lays x; omega)
  have hR : ∀ x, (SE.ivar .i64 13).num (fam ρ 10 [12] g x) = laysD (elsD (ρ 2)) := fun x => n_iv (show fam ρ 10 [12] g x 13 = _ from h13) (by have := hn.lays (elsD (ρ 2)).length; rw [List.take_length] at this; omega)
  refine fam_loop (Tb.only_ok tb_ok _) (Tb.only_wf tb_wf _) (m := 10) (ms := [12]) (g := g) (n := (elsD (ρ 2)).length) (Q := fun x => True) h10 (fun k hk => by rw [List.mem_singleton.1 hk, ← hg]; exact h12)
    (fun x _ _ => none_ok _ _) (by kernel_rfl) rfl rfl trivial st_Y1 (UpdOk.int (by rw [n_int]; exact (n_iv (x := 1) h12 (by omega)).symm) (UpdOk.int (ivar_zero h10) .nil)) (fun _ => rfl) (kn := kn0) (n0 := 100) (n1 := 100) (n2 := 100) (fun x => kn0_ok) (pc := pcY1) (fun x hx _ => pc_fam (by omega) (PC.holds_nil _)) run_Y1 ?_
  intro x hx1 _
  unfold MY1
  rw [all_cons, all_cons]
  refine ⟨fun hp => ?_, fun hp => ?_, fun _ h => by simp at h⟩
  all_goals simp only [h_cons, h_nil, t_lss, n_int, n_dlen, d_cell, h2, hN x hx1, if_true, Bool.false_eq_true, if_false, Int.toNat_natCast] at hp
  · obtain ⟨h1, _⟩ := hp
    refine ⟨by omega, trivial, UpdOk.int ?_ (UpdOk.int (next_fam (by omega)) .nil)⟩
    rw [n_max, hA, hA, n_dlen, d_cell, h2, hN x hx1, lays_take (by omega)]
    simp only [Int.toNat_natCast]
    show _ = ((max _ (levD ((elsD (ρ 2)).getD x .nilFunc)).length : Nat) : Int)
    unfold levD
    split <;> omega
  · obtain ⟨h1, _⟩ := hp
    refine ⟨rfl, UpdOk.int ?_ .nil⟩
    rw [hA, hR, List.take_of_length_le (by omega)]
/-- **The reference's Layouts.** -/
theorem lays_fnc {ρ : Nat → Value} (h10 : ρ 10 = .int .i64 0) (h12 : ρ 12 = .int .i64 1) (h13 : ρ 13 = .int .i64 (laysD (elsD (ρ 2)))) (hn : smallKs (elsD (ρ 2))) : FncR Try.prog tb.glob ρ 14 argY (.int .i64 (laysD (elsD (ρ 2)))) := by
  have hsp : SpecOk Try.prog (tbY.atS ρ noSp lpY) := specP_of (l := [LY1]) (fs := [14]) (fun f fn hf => (Tb.only_func hf).1) (none_ok _ _) (by kernel_rfl) (fun e he => by
    rw [List.mem_singleton.1 he]
    exact LY1_ok h10 h12 h13 hn)
  refine fnc_run (Tb.only_ok tb_ok _) (Tb.only_wf tb_wf _) hsp (kn := kn0) (n0 := 100) (n1 := 100) kn0_ok (pc := []) (PC.holds_nil _) (by kernel_rfl) (run_fY ρ) ?_
  unfold MfY
  rw [all_cons]
  refine ⟨fun hp => ?_, fun _ h => by simp at h⟩
  show Value.int .i64 ((SE.ivar .i64 13).num ρ) = _
  rw [n_iv h13 (by have := hn.lays (elsD (ρ 2)).length; rw [List.take_length] at this; omega)]
theorem run_L1 (r : Nat → Value) : rnL1 r = some ML1 := by kernel_rfl
theorem run_L1e (r : Nat → Value) : rnL1e r = some ML1e := by kernel_rfl
theorem run_L2 (r : Nat → Value) : rnL2 r = some ML2 := by kernel_rfl
theorem run_fL (r : Nat → Value) : rnfL r = some MfL := by kernel_rfl
theorem run_fLb (r : Nat → Value) : rnfLb r = some MfLb := by kernel_rfl
def wideL (lr : Value) : Bool := decide (10 < (symsD lr).length)
def wideK (r : Value) : Bool := decide (10 < (levD r).length) || (levD r).any wideL
def largeD (l : List Value) : Bool := decide (300 < l.length) || l.any wideK
theorem maxLen_le : maxLen ≤ 9223372036854775807 := by unfold maxLen; decide
theorem pc_L0 {ρ : Nat → Value} (h : (elsD ((SE.dvar 2).data ρ)).length ≤ 300) : pcL0.holds ρ := addPC_ok (PC.holds_nil _) (by rw [t_gtr, if_neg (by simp), n_dlen, n_int]; omega)
/-- The levels of a key. -/
theorem levD_eq (ρ : Nat → Value) (z : Nat) : elsD (cellD ((elsD (ρ 2)).getD z .nilFunc) 1) = levD ((elsD (ρ 2)).getD z .nilFunc) := rfl
theorem LL2_ok {ρ : Nat → Value} {z : Nat} (h10 : ρ 10 = .int .i64 z) (hz : z < (elsD (ρ 2)).length) (hz2 : (elsD (ρ 2)).length ≤ 300) (h20 : ρ 20 = .int .i64 0) (h21 : truthOf (ρ 21) = (levD ((elsD (ρ 2)).getD z .nilFunc)).any wideL) (hn : (levD ((elsD (ρ 2)).getD z .nilFunc)).length ≤ maxLen) : LoopPOk Try.prog (tbL.atS ρ noSp noLp) LL2 := by
  have hml := maxLen_le
  have hF : ∀ x, (SE.ivar .i64 10).num (fam ρ 20 [] (fun _ => ρ) x) = z := fun x => n_iv (show fam ρ 20 [] (fun _ => ρ) x 10 = _ from h10) (by omega)
  have h2 : ∀ x, (SE.dvar 2).data (fam ρ 20 [] (fun _ => ρ) x) = ρ 2 := fun x => rfl
  refine fam_loop (Tb.only_ok tb_ok _) (Tb.only_wf tb_wf _) (m := 20) (ms := []) (g := fun _ => ρ) (n := (levD ((elsD (ρ 2)).getD z .nilFunc)).length) (Q := fun x => ((levD ((elsD (ρ 2)).getD z .nilFunc)).drop x).any wideL = truthOf (ρ 21)) h20 (fun k hk => by simp at hk)
    (fun x _ _ => none_ok _ _) (by kernel_rfl) rfl rfl h21.symm st_L2 (UpdOk.int (ivar_zero h20) .nil) (fun _ => rfl) (kn := kn0) (n0 := 100) (n1 := 100) (n2 := 100) (fun x => kn0_ok) (pc := pcL2)
    (fun x hx _ => pc_fam (by omega) (addPC_ok (addPC_ok (pc_L0 hz2) (by rw [t_leq, if_pos rfl, hF, n_int]; omega)) (by rw [t_lss, if_pos rfl, hF, n_dlen, h2]; omega))) run_L2 ?_
  intro x hx1 hx2
  rw [show wayOf ρ LL2.cs = if truthOf (ρ 21) then 1 else 0 from way_not _ _]
  have hN := n_fam (ρ := ρ) (m := 20) (ms := []) (g := fun _ => ρ) (show x ≤ 9223372036854775807 by omega)
  unfold ML2
  rw [all_cons, all_cons, all_cons]
  refine ⟨fun hp => ?_, fun hp => ?_, fun hp => ?_, fun _ h => by simp at h⟩
  all_goals simp only [h_cons, h_nil, t_lss, n_int, n_dlen, d_cell, h2, hN, hF, levD_eq, if_true, Bool.false_eq_true, if_false, Int.toNat_natCast] at hp
  · obtain ⟨h1, h3, _⟩ := hp
    rw [getD_drop (by omega), List.any_cons, show wideL ((levD ((elsD (ρ 2)).getD z .nilFunc)).getD x .nilFunc) = true from decide_eq_true (by unfold symsD; omega)] at hx2
    exact ⟨by rw [← hx2]; rfl, .nil⟩
  · obtain ⟨h1, h3, _⟩ := hp
    rw [getD_drop (by omega), List.any_cons, show wideL ((levD ((elsD (ρ 2)).getD z .nilFunc)).getD x .nilFunc) = false from decide_eq_false (by unfold symsD; omega)] at hx2
    exact ⟨by omega, hx2, UpdOk.int (next_fam (by omega)) .nil⟩
  · rw [drop_end (by omega)] at hx2
    exact ⟨by rw [← hx2]; rfl, .nil⟩
theorem LL1_ok {ρ : Nat → Value} (hz2 : (elsD (ρ 2)).length ≤ 300) (h10 : ρ 10 = .int .i64 0) (h20 : ρ 20 = .int .i64 0) (h21 : ρ 21 = .bool ((levD ((elsD (ρ 2)).getD 0 .nilFunc)).any wideL)) (h11 : truthOf (ρ 11) = (elsD (ρ 2)).any wideK) (hb : Bnd (ρ 2)) : LoopPOk Try.prog (tbL.atS ρ noSp lpL2) LL1 := by
  generalize hg : (fun (x : Nat) (_ : Nat) => Value.bool ((levD ((elsD (ρ 2)).getD x .nilFunc)).any wideL)) = g
  have h2 : ∀ x, (SE.dvar 2).data (fam ρ 10 [21] g x) = ρ 2 := fun x => rfl
  have h21x : ∀ x, truthOf (fam ρ 10 [21] g x 21) = (levD ((elsD (ρ 2)).getD x .nilFunc)).any wideL := fun x => by rw [← hg]; rfl
  have hN : ∀ x, x ≤ (elsD (ρ 2)).length → (SE.ivar .i64 10).num (fam ρ 10 [21] g x) = x := fun x hx => n_fam (by omega)
  have hpc : ∀ x, x ≤ (elsD (ρ 2)).length → pcL1.holds (fam ρ 10 [21] g x) := fun x hx => pc_fam (by omega) (pc_L0 hz2)
  refine fam_loopE (Tb.only_ok tb_ok _) (Tb.only_wf tb_wf _) (m := 10) (ms := [21]) (g := g) (n := (elsD (ρ 2)).length) (Q := fun x => ((elsD (ρ 2)).drop x).any wideK = truthOf (ρ 11)) h10 (fun k hk => by rw [List.mem_singleton.1 hk, ← hg]; exact h21)
    (fun x hx _ => specP_of (l := [LL2]) (fs := [9]) (fun f fn hf => (Tb.only_func hf).1) (none_ok _ _) (by kernel_rfl) (fun e he => by
      rw [List.mem_singleton.1 he]
      exact LL2_ok (z := x) rfl hx hz2 h20 (h21x x) (hb.at x 1).len)) (by kernel_rfl) rfl rfl h11.symm st_L1 (UpdOk.int (ivar_zero h10) .nil) (fun _ => rfl) (kn := kn0) (n0 := 100) (n1 := 100) (n2 := 100) (fun x => kn0_ok) (fun x => kn0_ok) (pc := pcL1x) (pcE := pcL1e)
      (fun x hx _ => addPC_ok (hpc x (by omega)) (by rw [t_lss, if_pos rfl, hN x (by omega), n_dlen, h2]; omega))
      (fun _ => addPC_ok (hpc _ (Nat.le_refl _)) (by rw [t_lss, if_neg (by simp), hN _ (Nat.le_refl _), n_dlen, h2]; omega)) run_L1 run_L1e ?_ ?_
  · intro x hx1 hx2
    rw [show wayOf ρ LL1.cs = if truthOf (ρ 11) then 1 else 0 from way_not _ _]
    unfold ML1
    rw [all_cons, all_cons, all_cons]
    refine ⟨fun hp => ?_, fun hp => ?_, fun hp => ?_, fun _ h => by simp at h⟩
    all_goals simp only [h_cons, h_nil, t_lss, t_bvar, n_int, n_dlen, d_cell, h2, hN x (Nat.le_of_lt hx1), h21x, levD_eq, if_true, Bool.false_eq_true, if_false, Int.toNat_natCast] at hp
    · rw [getD_drop (by omega), List.any_cons, show wideK ((elsD (ρ 2)).getD x .nilFunc) = true from by unfold wideK; rw [Bool.or_eq_true]; exact .inl (decide_eq_true (by omega))] at hx2
      exact ⟨by rw [← hx2]; rfl, .nil⟩
    · rw [getD_drop (by omega), List.any_cons, show wideK ((elsD (ρ 2)).getD x .nilFunc) = false from by unfold wideK; rw [hp.1, decide_eq_false (by omega)]; rfl] at hx2
      exact ⟨by omega, hx2, UpdOk.int (next_fam (by omega)) .nil⟩
    · rw [getD_drop (by omega), List.any_cons, show wideK ((elsD (ρ 2)).getD x .nilFunc) = true from by unfold wideK; rw [hp.1, Bool.or_true]] at hx2
      exact ⟨by rw [← hx2]; rfl, .nil⟩
  · intro hx2
    rw [show wayOf ρ LL1.cs = if truthOf (ρ 11) then 1 else 0 from way_not _ _]
    unfold ML1e
    rw [all_cons]
    refine ⟨fun hp => ?_, fun _ h => by simp at h⟩
    rw [drop_end (by omega)] at hx2
    exact ⟨by rw [← hx2]; rfl, .nil⟩
/-- **Which keys are large.** -/
theorem large_fnc {ρ : Nat → Value} (h10 : ρ 10 = .int .i64 0) (h20 : ρ 20 = .int .i64 0) (h21 : ρ 21 = .bool ((levD ((elsD (ρ 2)).getD 0 .nilFunc)).any wideL)) (h11 : ρ 11 = .bool ((elsD (ρ 2)).any wideK)) (hb : Bnd (ρ 2)) : FncR Try.prog tb.glob ρ 9 argL (.bool (largeD (elsD (ρ 2)))) := by
  have e11 : truthOf (ρ 11) = (elsD (ρ 2)).any wideK := by rw [h11]; rfl
  have h2 : (SE.dvar 2).data ρ = ρ 2 := rfl
  by_cases hz : (elsD (ρ 2)).length ≤ 300
  · have hsp : SpecOk Try.prog (tbL.atS ρ noSp lpL) := specP_of (l := [LL1]) (fs := [9]) (fun f fn hf => (Tb.only_func hf).1) (none_ok _ _) (by kernel_rfl) (fun e he => by
      rw [List.mem_singleton.1 he]
      exact LoopPOk.tb (tb := tbL.atS ρ noSp lpL2) (tb' := tbL.atS ρ noSp noLp) rfl rfl rfl (LL1_ok hz h10 h20 h21 e11 hb))
    refine fnc_run (Tb.only_ok tb_ok _) (Tb.only_wf tb_wf _) hsp (kn := kn0) (n0 := 100) (n1 := 100) kn0_ok (pc := pcL0) (pc_L0 hz) (by kernel_rfl) (run_fL ρ) ?_
    unfold MfL
    rw [all_cons, all_cons]
    refine ⟨fun hp => ?_, fun hp => ?_, fun _ h => by simp at h⟩
    all_goals
      simp only [h_cons, t_bvar, e11] at hp
      show Value.bool _ = Value.bool _
      congr 1
      unfold largeD
      rw [hp.1, decide_eq_false (by omega)]
      rfl
  · refine fnc_run (Tb.only_ok tb_ok [9]) (Tb.only_wf tb_wf _) (none_ok _ _) (kn := kn0) (n0 := 100) (n1 := 100) kn0_ok (pc := pcLb) (addPC_ok (PC.holds_nil _) (by rw [t_gtr, if_pos rfl, n_dlen, n_int, h2]; omega)) (by kernel_rfl) (run_fLb ρ) ?_
    unfold MfLb
    rw [all_cons]
    refine ⟨fun hp => ?_, fun _ h => by simp at h⟩
    show Value.bool _ = Value.bool _
    congr 1
    unfold largeD
    rw [decide_eq_true (by omega)]
    rfl
theorem large_small {l : List Value} (h : largeD l = false) : l.length ≤ 300 ∧ smallKs l ∧ ∀ r, r ∈ l → (levD r).length ≤ 10 ∧ ∀ lr, lr ∈ levD r → (symsD lr).length ≤ 10 := by
  unfold largeD at h
  rw [Bool.or_eq_false_iff] at h
  have h1 : l.length ≤ 300 := by have := of_decide_eq_false h.1; omega
  have h2 : ∀ r, r ∈ l → (levD r).length ≤ 10 ∧ ∀ lr, lr ∈ levD r → (symsD lr).length ≤ 10 := fun r hr => by
    have h3 := List.any_eq_false.1 h.2 r hr
    have h3 : wideK r = false := by simpa using h3
    unfold wideK at h3
    rw [Bool.or_eq_false_iff] at h3
    refine ⟨by have := of_decide_eq_false h3.1; omega, fun lr hlr => ?_⟩
    have h4 := List.any_eq_false.1 h3.2 lr hlr
    have h4 : wideL lr = false := by simpa using h4
    have := of_decide_eq_false h4
    omega
  exact ⟨h1, ⟨by omega, fun r hr => ⟨by have := (h2 r hr).1; omega, fun lr hlr => by have := (h2 r hr).2 lr hlr; omega⟩⟩, h2⟩
end
end Go.Proofs.Ytaidiaiedhbaoaa
