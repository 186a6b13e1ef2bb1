/- KeymapNew's run: the reference's keys, its New. -/
import Derived.Test.YtaidiaiedhbaoaaKmN
/- KeymapNew's run: the reference's keys, its New. -/
set_option linter.unusedVariables false
set_option linter.unusedSimpArgs false
namespace Go.Proofs.Ytaidiaiedhbaoaa
open Go.Sx Go.ChangeShapes Go.WideShapes Go.ChangeAt Go.RowKit
noncomputable section
def entR1 : St := { env := (((Tr.leaf.node (some (V.sym (STy.int .i64) (SE.dvar 2).dlen)) Tr.leaf).node (some (V.val (Value.int .i64 0))) Tr.leaf).node none Tr.leaf).node (some (V.sli ((Sh.sc (STy.int .i64)).cons ((((Sh.sc (STy.int .i64)).cons Sh.nil).li.cons Sh.nil).li.cons Sh.nil)).li (SE.dvar 2).dnil (SE.dvar 2) Tok.unk)) (((Tr.leaf.node (some (V.val (Value.int .i64 0))) Tr.leaf).node (some (V.list true [] Tok.full)) Tr.leaf).node (some (V.ptr 100 0)) (Tr.leaf.node (some (V.sli ((Sh.sc (STy.int .i64)).cons ((((Sh.sc (STy.int .i64)).cons Sh.nil).li.cons Sh.nil).li.cons Sh.nil)).li (SE.dvar 2).dnil (SE.dvar 2) Tok.unk)) Tr.leaf)), h := { tab := Tr.leaf.node (some (Blk.cells [V.val (Value.bool true), V.sym (STy.int .i64) (SE.ivar .i64 65), V.sli ((Sh.sc (STy.int .i64)).cons ((((Sh.sc (STy.int .i64)).cons Sh.nil).li.cons Sh.nil).li.cons Sh.nil)).li (SE.bvar 63) (SE.dvar 64) Tok.unk])) ((Tr.leaf.node none (((Tr.leaf.node none (Tr.leaf.node (some (Blk.cells [V.list true [] Tok.full])) Tr.leaf)).node none Tr.leaf).node none Tr.leaf)).node none Tr.leaf), next := 101, base := 100, low := none } }
def pcR1 : PC := addPC (.cmp .leq (.int .i64 0) (.ivar .i64 70)) true (addPC (.cmp .lss (.dlen (.dvar 72)) (.int .i64 301)) true [])
def LR1 : LoopP where
  f := 12
  i := 0
  key := 590080
  D := mkLoop (loopAt tbN 12 0) entR1 [(8, iv 70), (4, .sli shK (.bvar 71) (.dvar 72) (.own 101 2))] [(101, .tail true)] [(.exit 0, [(4, .sli shK (.bvar 73) (.dvar 74) .unk)], [])] 102 120 (famPat 70 [71, 72]) (fun n => Nat.ble 73 n && Nat.ble n 74)
  cs := []
def stR1 := startOf LR1.D
def rnR1 (r : Nat → Value) := sums LR1.D (execF kn0 (callF kn0 Try.prog (tbN.atS r noSp noLp) 100 100) Try.prog (tbN.atS r noSp noLp) 100 (.code (loopAt tbN 12 0)) pcR1 LR1.D.hd)
def entV1 : St := { env := ((Tr.leaf.node (some (V.val (Value.int .i64 0))) Tr.leaf).node none Tr.leaf).node (some (V.sli ((Sh.sc (STy.int .i64)).cons ((((Sh.sc (STy.int .i64)).cons Sh.nil).li.cons Sh.nil).li.cons Sh.nil)).li (SE.bvar 73) (SE.dvar 74) Tok.unk)) ((Tr.leaf.node (some (V.val (Value.int .i64 0))) Tr.leaf).node (some (V.ptr 120 0)) Tr.leaf), h := { tab := Tr.leaf.node (some (Blk.cells [V.val (Value.bool true), V.sym (STy.int .i64) (SE.ivar .i64 65), V.sli ((Sh.sc (STy.int .i64)).cons ((((Sh.sc (STy.int .i64)).cons Sh.nil).li.cons Sh.nil).li.cons Sh.nil)).li (SE.bvar 63) (SE.dvar 64) Tok.unk])) (((Tr.leaf.node none (Tr.leaf.node none (Tr.leaf.node none (Tr.leaf.node (some (Blk.cells [V.list true [] Tok.full])) Tr.leaf)))).node none (((Tr.leaf.node none (Tr.leaf.node (some (Blk.cells [V.list true [] Tok.full])) Tr.leaf)).node none Tr.leaf).node none Tr.leaf)).node none Tr.leaf), next := 121, base := 120, low := none } }
def eRC : Entry := { f := 37, args := [.sli shK (.bvar 73) (.dvar 74) .unk, iv 80], res := iv 81 }
def eLay : Entry := { f := 14, args := [.agg [.sli shK (.bvar 73) (.dvar 74) .unk]], res := iv 66 }
def spV : Sp := spOf [eRC]
def pcV0 : PC := addPC (.cmp .leq (.int .i64 0) (.ivar .i64 80)) true []
def pcV1 : PC := addPC (.cmp .lss (.ivar .i64 80) (.dlen (.dvar 74))) true pcV0
def pcV1e : PC := addPC (.cmp .lss (.ivar .i64 80) (.dlen (.dvar 74))) false pcV0
def LV1 : LoopP where
  f := 26
  i := 0
  key := 1966272
  D := mkLoop (loopAt tbN 26 0) entV1 [(4, iv 80)] [] [(.exit 0, [], []), (.ret, [(3, iv 62)], [])] 0 140 (famPat 80 [81]) (fun n => Nat.beq n 62)
  cs := [.cmp .eql (.ivar .i64 62) (.int .i64 0)]
def stV1 := startOf LV1.D
def rnV1 (r : Nat → Value) := sums LV1.D (execF kn0 (callF kn0 Try.prog (tbN.atS r spV noLp) 100 100) Try.prog (tbN.atS r spV noLp) 100 (.code (loopAt tbN 26 0)) pcV1 LV1.D.hd)
def rnV1e (r : Nat → Value) := sums LV1.D (execF kn0 (callF kn0 Try.prog (tbN.atS r noSp noLp) 100 100) Try.prog (tbN.atS r noSp noLp) 100 (.code (loopAt tbN 26 0)) pcV1e LV1.D.hd)
def fsW : List Nat := [3, 11, 24, 12, 26, 13, 27, 10, 21, 15, 19, 28, 17, 32, 33, 36, 38, 39, 23, 25]
def tbW : Tb := tb.only fsW
def spW : Sp := spOf [eLarge, eLay]
def lpW : Lp := lpOf [LN1.e, LR1.e, LV1.e]
def eLargeT : Entry := { eLarge with res := .val (.bool true) }
def spT : Sp := spOf [eLargeT]
def rnW (r : Nat → Value) := restOf (callF knN Try.prog (tbW.atS r spW lpW) 100 100 [] 3 argN H0)
def rnT (r : Nat → Value) := allTrue (callF knN Try.prog (tbW.atS r spT noLp) 100 100 [] 3 argN H0)
def exW (r : Nat → Value) (sp : Sp) (lp : Lp) := isTrue (callX Try.prog (tbW.atS r sp lp) 100 10 [] H0)
def ksW := [LN1, LR1, LV1].map fun e => keysAt tbW e.key fsW
def MR1 : List (PC × Sm) := [([(SE.cmp .lss (SE.ivar .i64 70) (SE.dvar 2).dlen, true), (SE.cmp .lss (SE.ivar .i64 70) (SE.int .i64 0), false), (SE.cmp .lss (SE.dvar 72).dlen (SE.int .i64 301), true)], Sm.next [(70, UTy.sc (.int .i64), SE.bin .add .i64 (SE.ivar .i64 70) (SE.int .i64 1)), (71, UTy.sc .bool, SE.bool false), (72, UTy.dat, (SE.dvar 72).dsnoc ((SE.dlst.dsnoc (SE.dsc (.int .i64) (SE.dleaf (.int .i64) ((SE.dvar 2).dcell (SE.ivar .i64 70) 0)))).dsnoc (((SE.dvar 2).dcell (SE.ivar .i64 70) 1).dnil.dli ((SE.dvar 2).dcell (SE.ivar .i64 70) 1))))]), ([(SE.cmp .lss (SE.ivar .i64 70) (SE.dvar 2).dlen, false), (SE.cmp .lss (SE.ivar .i64 70) (SE.int .i64 0), false), (SE.cmp .lss (SE.dvar 72).dlen (SE.int .i64 301), true)], Sm.out 0 [(73, UTy.sc .bool, SE.bvar 71), (74, UTy.dat, SE.dvar 72)])]
def MV1 : List (PC × Sm) := [([(SE.cmp .eql (SE.ivar .i64 81) (SE.int .i64 0), false), (SE.cmp .lss (SE.ivar .i64 80) (SE.dvar 74).dlen, true), (SE.cmp .lss (SE.ivar .i64 80) (SE.int .i64 0), false)], Sm.out 1 [(62, UTy.sc (.int .i64), SE.ivar .i64 81)]), ([(SE.cmp .eql (SE.ivar .i64 81) (SE.int .i64 0), true), (SE.cmp .lss (SE.ivar .i64 80) (SE.dvar 74).dlen, true), (SE.cmp .lss (SE.ivar .i64 80) (SE.int .i64 0), false)], Sm.next [(80, UTy.sc (.int .i64), SE.bin .add .i64 (SE.ivar .i64 80) (SE.int .i64 1))])]
def MV1e : List (PC × Sm) := [([(SE.cmp .lss (SE.ivar .i64 80) (SE.dvar 74).dlen, false), (SE.cmp .lss (SE.ivar .i64 80) (SE.int .i64 0), false)], Sm.out 0 [])]
theorem run_R1 (r : Nat → Value) : rnR1 r = some MR1 := by kernel_rfl
theorem run_V1 (r : Nat → Value) : rnV1 r = some MV1 := by kernel_rfl
theorem run_V1e (r : Nat → Value) : rnV1e r = some MV1e := by kernel_rfl
theorem st_R1 : startOf LR1.D = some [(70, .sc (.int .i64), .int .i64 0), (71, .sc .bool, .bool true), (72, .dat, .dlst)] := by kernel_rfl
theorem st_V1 : startOf LV1.D = some [(80, .sc (.int .i64), .int .i64 0)] := by kernel_rfl
/-- A key as the law hands it to the reference. -/
def cpR (r : Value) : Value := listD [.int .i64 (codeD r), if isNilD (cellD r 1) then .nilFunc else listD (levD r)]
theorem code_cpR (r : Value) : codeD (cpR r) = codeD r := i64_id (codeD_rng r).1 (codeD_rng r).2
theorem lev_cpR (r : Value) : levD (cpR r) = levD r := by
  show elsD (if isNilD (cellD r 1) then .nilFunc else listD (levD r)) = _
  split
  · rename_i h
    exact (isNilD_els h).1.symm
  · exact els_list _
theorem getD_map {f : Value → Value} {l : List Value} {x : Nat} (h : x < l.length) : (l.map f).getD x .nilFunc = f (l.getD x .nilFunc) := by
  rw [getD_at (by rw [List.length_map]; exact h), getD_at h, List.getElem_map]
theorem refErr_map {f : Value → Value} (hf : ∀ r, codeD (f r) = codeD r) (hl : ∀ r, levD (f r) = levD r) {l : List Value} {x : Nat} (h : x < l.length) : refErr (l.map f) x = refErr l x := by
  unfold refErr
  rw [getD_map h, hf, hl, ← List.map_take, idx_map hf]
theorem LR1_ok {ρ : Nat → Value} (hn : (elsD (ρ 2)).length ≤ 300) (h70 : ρ 70 = .int .i64 0) (h71 : ρ 71 = .bool true) (h72 : ρ 72 = listD []) (h73 : ρ 73 = .bool (decide ((elsD (ρ 2)).length = 0))) (h74 : ρ 74 = listD ((elsD (ρ 2)).map cpR)) : LoopPOk Try.prog (tbN.atS ρ noSp noLp) LR1 := by
  generalize hL : elsD (ρ 2) = L at *
  generalize hg : (fun (x n : Nat) => if Nat.beq n 71 then Value.bool (decide (x = 0)) else listD ((L.take x).map cpR)) = g
  have h2 : ∀ x, (SE.dvar 2).data (fam ρ 70 [71, 72] g x) = ρ 2 := fun x => rfl
  have hN : ∀ x, x ≤ L.length → (SE.ivar .i64 70).num (fam ρ 70 [71, 72] g x) = x := fun x hx => n_fam (by omega)
  have h71x : ∀ x, fam ρ 70 [71, 72] g x 71 = .bool (decide (x = 0)) := fun x => by rw [← hg]; rfl
  have h72x : ∀ x, fam ρ 70 [71, 72] g x 72 = listD ((L.take x).map cpR) := fun x => by rw [← hg]; rfl
  have hd72 : ∀ x, (SE.dvar 72).data (fam ρ 70 [71, 72] g x) = listD ((L.take x).map cpR) := h72x
  have hcell : ∀ x j, x ≤ L.length → (SE.dcell (.dvar 2) (.ivar .i64 70) j).data (fam ρ 70 [71, 72] g x) = cellD (L.getD x .nilFunc) j := fun x j hx => by rw [d_cell, h2, hN x hx, Int.toNat_natCast, hL]
  refine fam_loop (Tb.only_ok tb_ok _) (Tb.only_wf tb_wf _) (m := 70) (ms := [71, 72]) (g := g) (n := L.length) (Q := fun x => True) h70 (fun k hk => by
      rcases List.mem_cons.1 hk with rfl | hk
      · rw [h71, ← hg]; rfl
      · rw [List.mem_singleton.1 hk, h72, ← hg]; rfl)
    (fun x _ _ => noneN_ok _) (by kernel_rfl) rfl rfl trivial st_R1 (UpdOk.int (ivar_zero h70) (UpdOk.bool (by rw [h71]; rfl) (UpdOk.dat (by rw [h72]; rfl) .nil))) (fun _ => rfl) (kn := kn0) (n0 := 100) (n1 := 100) (n2 := 100) (fun x => kn0_ok) (pc := pcR1)
    (fun x hx _ => pc_fam (by omega) (addPC_ok (PC.holds_nil _) (by rw [t_lss, if_pos rfl, n_dlen, n_int, hd72, els_list, List.length_map, List.length_take]; omega))) run_R1 ?_
  intro x hx1 _
  unfold MR1
  rw [all_cons, all_cons]
  refine ⟨fun hp => ?_, fun hp => ?_, fun _ h => by simp at h⟩
  all_goals simp only [h_cons, h_nil, t_lss, n_int, n_dlen, h2, hL, hN x hx1, if_true, Bool.false_eq_true, if_false] at hp
  · obtain ⟨h1, _⟩ := hp
    refine ⟨by omega, trivial, UpdOk.int (next_fam (by omega)) (UpdOk.bool (by rw [h71x]; rfl) (UpdOk.dat ?_ .nil))⟩
    have hc : (SE.dleaf (.int .i64) (.dcell (.dvar 2) (.ivar .i64 70) 0)).num (fam ρ 70 [71, 72] g x) = codeD (L.getD x .nilFunc) := by rw [n_leaf, hcell x 0 hx1]; rfl
    show listD (elsD ((SE.dvar 72).data _) ++ [listD (elsD (listD (elsD (listD []) ++ [.int .i64 ((SE.dleaf (.int .i64) (.dcell (.dvar 2) (.ivar .i64 70) 0)).num _)])) ++ [if isNilD ((SE.dcell (.dvar 2) (.ivar .i64 70) 1).data _) = true then .nilFunc else listD (elsD ((SE.dcell (.dvar 2) (.ivar .i64 70) 1).data _))])]) = fam ρ 70 [71, 72] g (x + 1) 72
    rw [hd72, els_list, els_list, els_list, hc, hcell x 1 hx1, h72x, List.take_add_one, List.getElem?_eq_getElem (show x < L.length by omega), List.map_append, getD_at (show x < L.length by omega)]
    rfl
  · obtain ⟨h1, _⟩ := hp
    have hxe : x = L.length := by omega
    refine ⟨rfl, UpdOk.bool ?_ (UpdOk.dat ?_ .nil)⟩
    · show truthOf (fam ρ 70 [71, 72] g x 71) = truthOf (ρ 73)
      rw [h71x, h73, hxe]
    · rw [hd72, hxe, List.take_length]
      exact h74.symm
theorem rc_at {ρ : Nat → Value} {L : List Value} {x : Nat} (hx : x < L.length) (hn : smallKs L) (h74 : ρ 74 = listD (L.map cpR)) (h80 : (SE.ivar .i64 80).num ρ = x) (h81 : ρ 81 = .int .i64 (refErr L x)) : EntryOk Try.prog tb.glob ρ eRC := by
  refine ⟨⟨_, Try.func37, by kernel_rfl, by kernel_rfl⟩, by kernel_rfl, fun q hq => by simp [eRC] at hq, ?_⟩
  have hr := refErr_rng L x
  have e6 : eRC.res.atR ρ = .int .i64 (refErr L x) := by
    show Value.int .i64 ((SE.ivar .i64 81).num ρ) = _
    rw [iv_at h81 (by omega) (by omega)]
  rw [e6]
  have hk : (elsD (ρ 74)) = L.map cpR := by rw [h74, els_list]
  have key := rcheck_fnc (ρ := envL [(1, ρ 73), (2, ρ 74), (5, .int .i64 x), (6, .int .i64 (idxD (codeD ((L.map cpR).getD x .nilFunc)) ((L.map cpR).take x))), (10, .int .i64 0), (11, .bool ((levD ((L.map cpR).getD x .nilFunc)).any manyD)), (20, .int .i64 0), (30, .int .i64 0),
    (31, .bool (wildsD ((levD ((L.map cpR).getD x .nilFunc)).getD 0 .nilFunc))), (21, .bool ((levD ((L.map cpR).getD x .nilFunc)).any wildsD))]) (z := x) rfl
    (by show x < (elsD (ρ 74)).length; rw [hk, List.length_map]; exact hx) (by show (elsD (ρ 74)).length ≤ 1000; rw [hk, List.length_map]; exact hn.1)
    (by show Value.int _ _ = Value.int _ (idxD (codeD ((elsD (ρ 74)).getD x .nilFunc)) ((elsD (ρ 74)).take x)); rw [hk]) rfl (by show Value.bool _ = Value.bool ((levD ((elsD (ρ 74)).getD x .nilFunc)).any manyD); rw [hk]) rfl rfl
    (by show Value.bool _ = Value.bool (wildsD ((levD ((elsD (ρ 74)).getD x .nilFunc)).getD 0 .nilFunc)); rw [hk]) (by show Value.bool _ = Value.bool ((levD ((elsD (ρ 74)).getD x .nilFunc)).any wildsD); rw [hk])
    (by show smallLv (levD ((elsD (ρ 74)).getD x .nilFunc)); rw [hk, getD_map hx, lev_cpR]; exact hn.row x)
  have e3 : refErr (elsD (envL [(1, ρ 73), (2, ρ 74), (5, Value.int .i64 x), (6, .int .i64 (idxD (codeD ((L.map cpR).getD x .nilFunc)) ((L.map cpR).take x))), (10, .int .i64 0), (11, .bool ((levD ((L.map cpR).getD x .nilFunc)).any manyD)), (20, .int .i64 0), (30, .int .i64 0),
    (31, .bool (wildsD ((levD ((L.map cpR).getD x .nilFunc)).getD 0 .nilFunc))), (21, .bool ((levD ((L.map cpR).getD x .nilFunc)).any wildsD))] 2)) x = refErr L x := by
    show refErr (elsD (ρ 74)) x = _
    rw [hk, refErr_map code_cpR lev_cpR hx]
  rw [e3] at key
  refine key.at (us := [(1, .sc .bool, .bvar 73), (2, .dat, .dvar 74), (5, .sc (.int .i64), .ivar .i64 80)]) (by kernel_rfl) (UpdOk.bool rfl (UpdOk.dat rfl (UpdOk.int ?_ .nil)))
  rw [h80]
  exact (n_iv (x := x) rfl (by have := hn.1; omega)).symm
theorem LV1_ok {ρ : Nat → Value} {L : List Value} (hn : smallKs L) (h74 : ρ 74 = listD (L.map cpR)) (h80 : ρ 80 = .int .i64 0) (h81 : ρ 81 = .int .i64 (refErr L 0)) (h62 : ρ 62 = .int .i64 (errD L 0)) : LoopPOk Try.prog (tbN.atS ρ spV noLp) LV1 := by
  generalize hg : (fun (x n : Nat) => Value.int .i64 (refErr L x)) = g
  have hn1 := hn.1
  have h74x : ∀ x, elsD ((SE.dvar 74).data (fam ρ 80 [81] g x)) = L.map cpR := fun x => by
    show elsD (ρ 74) = _
    rw [h74, els_list]
  have hN : ∀ x, x ≤ L.length → (SE.ivar .i64 80).num (fam ρ 80 [81] g x) = x := fun x hx => n_fam (by omega)
  have h81x : ∀ x, fam ρ 80 [81] g x 81 = .int .i64 (refErr L x) := fun x => by rw [← hg]; rfl
  have hre := refErr_rng L
  have e81 : ∀ x, (SE.ivar .i64 81).num (fam ρ 80 [81] g x) = refErr L x := fun x => iv_at (h81x x) (by have := hre x; omega) (by have := hre x; omega)
  have her := errD_rng L 0
  have e62 : ∀ x, (SE.ivar .i64 62).num (fam ρ 80 [81] g x) = errD L 0 := fun x => iv_at (show fam ρ 80 [81] g x 62 = _ from h62) (by omega) (by omega)
  have hcs : ∀ x, wayOf (fam ρ 80 [81] g x) LV1.cs = if errD L 0 = 0 then 0 else 1 := fun x => by
    show wayOf _ [.cmp .eql (.ivar .i64 62) (.int .i64 0)] = _
    rw [way_eq0, e62]
  have hw : wayOf ρ LV1.cs = if errD L 0 = 0 then 0 else 1 := by
    show wayOf _ [.cmp .eql (.ivar .i64 62) (.int .i64 0)] = _
    rw [way_eq0, iv_at h62 (by omega) (by omega)]
  refine fam_loopE (Tb.only_ok tb_ok _) (Tb.only_wf tb_wf _) (m := 80) (ms := [81]) (g := g) (n := L.length) (Q := fun x => errD L x = errD L 0) h80 (fun k hk => by rw [List.mem_singleton.1 hk, ← hg]; exact h81)
    (fun x hx _ => spOf_ok (tb := tbN) (l := [eRC]) (fun e he => by
      rw [List.mem_singleton.1 he]
      exact rc_at hx hn h74 (hN x (by omega)) (h81x x))) (by kernel_rfl) rfl rfl rfl st_V1 (UpdOk.int (ivar_zero h80) .nil) (fun x => (hcs x).trans hw.symm) (kn := kn0) (n0 := 100) (n1 := 100) (n2 := 100) (fun x => kn0_ok) (fun x => kn0_ok) (pc := pcV1) (pcE := pcV1e)
    (fun x hx _ => addPC_ok (pc_fam (by omega) (PC.holds_nil _)) (by rw [t_lss, if_pos rfl, hN x (by omega), n_dlen, h74x, List.length_map]; omega))
    (fun _ => addPC_ok (pc_fam (by omega) (PC.holds_nil _)) (by rw [t_lss, if_neg (by simp), hN _ (Nat.le_refl _), n_dlen, h74x, List.length_map]; omega)) run_V1 run_V1e ?_ ?_
  · intro x hx1 hx2
    rw [errD_lt hx1] at hx2
    rw [hw]
    unfold MV1
    rw [all_cons, all_cons]
    refine ⟨fun hp => ?_, fun hp => ?_, fun _ h => by simp at h⟩
    all_goals simp only [h_cons, h_nil, t_lss, t_eql, n_int, e81, if_true, Bool.false_eq_true, if_false] at hp
    · rw [if_neg hp.1] at hx2
      refine ⟨by rw [← hx2, if_neg hp.1], UpdOk.int ?_ .nil⟩
      rw [e81, e62, hx2]
    · rw [if_pos hp.1] at hx2
      exact ⟨hx1, hx2, UpdOk.int (next_fam (by omega)) .nil⟩
  · intro hx2
    rw [errD_end (Nat.le_refl _)] at hx2
    rw [hw]
    unfold MV1e
    rw [all_cons]
    exact ⟨fun _ => ⟨by rw [← hx2]; rfl, .nil⟩, fun _ h => by simp at h⟩
theorem lays_map {f : Value → Value} (hl : ∀ r, (levD (f r)).length = (levD r).length) (l : List Value) : laysD (l.map f) = laysD l := by
  unfold laysD
  rw [List.foldl_map]
  simp only [hl]
theorem lay_at {ρ : Nat → Value} {L : List Value} (hn : smallKs L) (h74 : ρ 74 = listD (L.map cpR)) (h66 : ρ 66 = .int .i64 (laysD L)) : EntryOk Try.prog tb.glob ρ eLay := by
  refine ⟨⟨_, Try.func14, by kernel_rfl, by kernel_rfl⟩, by kernel_rfl, fun q hq => by simp [eLay] at hq, ?_⟩
  have hl1 := hn.lays L.length
  rw [List.take_length] at hl1
  have e6 : eLay.res.atR ρ = .int .i64 (laysD L) := by
    show Value.int .i64 ((SE.ivar .i64 66).num ρ) = _
    rw [n_iv h66 (by omega)]
  rw [e6]
  have hk : (elsD (ρ 74)) = L.map cpR := by rw [h74, els_list]
  have hm : laysD (L.map cpR) = laysD L := lays_map (fun r => by rw [lev_cpR]) L
  have key := lays_fnc (ρ := envL [(1, ρ 73), (2, ρ 74), (10, .int .i64 0), (12, .int .i64 1), (13, .int .i64 (laysD L))]) rfl rfl (by show Value.int _ _ = Value.int _ (laysD (elsD (ρ 74))); rw [hk, hm])
    (by
      show smallKs (elsD (ρ 74))
      rw [hk]
      refine ⟨by rw [List.length_map]; exact hn.1, fun r hr => ?_⟩
      obtain ⟨q, hq, rfl⟩ := List.mem_map.1 hr
      rw [lev_cpR]
      exact hn.2 q hq)
  have e3 : laysD (elsD (envL [(1, ρ 73), (2, ρ 74), (10, Value.int .i64 0), (12, .int .i64 1), (13, .int .i64 (laysD L))] 2)) = laysD L := by
    show laysD (elsD (ρ 74)) = _
    rw [hk, hm]
  rw [e3] at key
  exact key.at (us := [(1, .sc .bool, .bvar 73), (2, .dat, .dvar 74)]) (by kernel_rfl) (UpdOk.bool rfl (UpdOk.dat rfl .nil))
end
end Go.Proofs.Ytaidiaiedhbaoaa
