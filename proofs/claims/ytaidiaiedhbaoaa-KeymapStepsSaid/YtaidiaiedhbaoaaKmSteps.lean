/- KeymapSteps: whatever the keys, the modifiers and the calls, the law returns true. No further conditions. -/
import Derived.Test.YtaidiaiedhbaoaaKmB4
import Derived.Test.YtaidiaiedhbaoaaRows
/- KeymapSteps: the law's loop. -/
set_option linter.unusedVariables false
set_option linter.unusedSimpArgs false
namespace Go.Proofs.Ytaidiaiedhbaoaa
open Go.Sx Go.ChangeShapes Go.WideShapes Go.ChangeAt Go.RowKit
noncomputable section
def entZ1 : St := { env := (((((Tr.leaf.node (some (V.tuple [V.agg [V.sli ((Sh.sc (STy.int .i64)).cons ((((Sh.sc (STy.int .i64)).cons Sh.nil).li.cons Sh.nil).li.cons Sh.nil)).li (SE.bvar 73) (SE.dvar 74) Tok.unk], V.val (Value.int .i64 0)])) Tr.leaf).node none Tr.leaf).node (some (V.ptr 1 0)) ((Tr.leaf.node (some (V.val (Value.int .i64 0))) Tr.leaf).node (some (V.sym STy.bool (SE.cmp .gtr (SE.dvar 3).dlen (SE.int .i64 100)))) Tr.leaf)).node none (((Tr.leaf.node (some (V.val (Value.int .i64 0))) Tr.leaf).node (some (V.val (Value.bool false))) (Tr.leaf.node (some (V.val (Value.int .i64 0))) Tr.leaf)).node (some (V.ptr 141 0)) (Tr.leaf.node (some (V.sli ((Sh.sc (STy.int .i64)).cons ((((Sh.sc (STy.int .i64)).cons Sh.nil).li.cons Sh.nil).li.cons Sh.nil)).li (SE.dvar 2).dnil (SE.dvar 2) Tok.unk)) Tr.leaf))).node (some (V.agg [V.sym (STy.int .i64) (SE.dleaf (STy.int .i64) (SE.dvar 4)), V.sym (STy.int .i64) (SE.dleaf (STy.int .i64) (SE.dvar 5)), V.sym (STy.int .i64) (SE.dleaf (STy.int .i64) (SE.dvar 6)), V.sym (STy.int .i64) (SE.dleaf (STy.int .i64) (SE.dvar 7))])) ((((Tr.leaf.node (some (V.tuple [V.agg [V.sli ((Sh.sc (STy.int .i64)).cons ((((Sh.sc (STy.int .i64)).cons Sh.nil).li.cons Sh.nil).li.cons Sh.nil)).li (SE.bvar 73) (SE.dvar 74) Tok.unk], V.val (Value.int .i64 0)])) Tr.leaf).node none (Tr.leaf.node (some (V.sli ((Sh.sc (STy.int .i64)).cons ((Sh.sc STy.bool).cons Sh.nil)).li (SE.dvar 3).dnil (SE.dvar 3) Tok.unk)) Tr.leaf)).node (some (V.ptr 140 0)) ((Tr.leaf.node (some (V.val (Value.bool false))) Tr.leaf).node none Tr.leaf)).node none (((Tr.leaf.node (some (V.val (Value.bool false))) Tr.leaf).node (some (V.sli ((Sh.sc (STy.int .i64)).cons ((Sh.sc STy.bool).cons Sh.nil)).li (SE.dvar 3).dnil (SE.dvar 3) Tok.unk)) Tr.leaf).node none (Tr.leaf.node (some (V.ptr 1 0)) Tr.leaf)))).node (some (V.sli ((Sh.sc (STy.int .i64)).cons ((((Sh.sc (STy.int .i64)).cons Sh.nil).li.cons Sh.nil).li.cons Sh.nil)).li (SE.dvar 2).dnil (SE.dvar 2) Tok.unk)) (((((Tr.leaf.node (some (V.sli ((Sh.sc (STy.int .i64)).cons ((((Sh.sc (STy.int .i64)).cons Sh.nil).li.cons Sh.nil).li.cons Sh.nil)).li (SE.dvar 2).dnil (SE.dvar 2) Tok.unk)) Tr.leaf).node none (Tr.leaf.node (some (V.agg [V.sym (STy.int .i64) (SE.dleaf (STy.int .i64) (SE.dvar 4)), V.sym (STy.int .i64) (SE.dleaf (STy.int .i64) (SE.dvar 5)), V.sym (STy.int .i64) (SE.dleaf (STy.int .i64) (SE.dvar 6)), V.sym (STy.int .i64) (SE.dleaf (STy.int .i64) (SE.dvar 7))])) Tr.leaf)).node (some (V.val (Value.int .i64 0))) ((Tr.leaf.node (some (V.val (Value.bool false))) Tr.leaf).node (some (V.sym STy.bool (SE.cmp .gtr (SE.dvar 3).dlen (SE.int .i64 100)))) Tr.leaf)).node (some (V.ptr 0 0)) (((Tr.leaf.node (some (V.val (Value.int .i64 0))) Tr.leaf).node (some (V.val (Value.bool false))) Tr.leaf).node none (Tr.leaf.node (some (V.tuple [V.ptr 1 0, V.val (Value.int .i64 0)])) Tr.leaf))).node (some (V.sli ((Sh.sc (STy.int .i64)).cons ((Sh.sc STy.bool).cons Sh.nil)).li (SE.dvar 3).dnil (SE.dvar 3) Tok.unk)) ((((Tr.leaf.node (some (V.agg [V.sli ((Sh.sc (STy.int .i64)).cons ((((Sh.sc (STy.int .i64)).cons Sh.nil).li.cons Sh.nil).li.cons Sh.nil)).li (SE.bvar 73) (SE.dvar 74) Tok.unk])) Tr.leaf).node (some (V.sli ((Sh.sc (STy.int .i64)).cons ((((Sh.sc (STy.int .i64)).cons Sh.nil).li.cons Sh.nil).li.cons Sh.nil)).li (SE.dvar 2).dnil (SE.dvar 2) Tok.unk)) (Tr.leaf.node (some (V.sym (STy.int .i64) (SE.dvar 3).dlen)) Tr.leaf)).node (some (V.val (Value.int .i64 0))) (Tr.leaf.node (some (V.tuple [V.ptr 1 0, V.val (Value.int .i64 0)])) Tr.leaf)).node (some (V.val (Value.bool false))) (((Tr.leaf.node (some (V.val (Value.bool false))) Tr.leaf).node (some (V.sym (STy.int .i64) (SE.dvar 3).dlen)) Tr.leaf).node none (Tr.leaf.node (some (V.val (Value.int .i64 0))) Tr.leaf)))), h := { tab := (Tr.leaf.node (some (Blk.cells [V.val (Value.bool true), V.sym (STy.int .i64) (SE.ivar .i64 65), V.sli ((Sh.sc (STy.int .i64)).cons ((((Sh.sc (STy.int .i64)).cons Sh.nil).li.cons Sh.nil).li.cons Sh.nil)).li (SE.bvar 63) (SE.dvar 64) Tok.unk])) (Tr.leaf.node none (Tr.leaf.node none ((((Tr.leaf.node (some (Blk.cells [V.sym (STy.int .i64) (SE.dleaf (STy.int .i64) (SE.dvar 4)), V.sym (STy.int .i64) (SE.dleaf (STy.int .i64) (SE.dvar 5)), V.sym (STy.int .i64) (SE.dleaf (STy.int .i64) (SE.dvar 6)), V.sym (STy.int .i64) (SE.dleaf (STy.int .i64) (SE.dvar 7))])) Tr.leaf).node none Tr.leaf).node none Tr.leaf).node none Tr.leaf)))).node (some (Blk.cells [V.sym (STy.int .i64) (SE.dleaf (STy.int .i64) (SE.dvar 4)), V.sym (STy.int .i64) (SE.dleaf (STy.int .i64) (SE.dvar 5)), V.sym (STy.int .i64) (SE.dleaf (STy.int .i64) (SE.dvar 6)), V.sym (STy.int .i64) (SE.dleaf (STy.int .i64) (SE.dvar 7))])) (((Tr.leaf.node none (Tr.leaf.node none (Tr.leaf.node none (Tr.leaf.node (some (Blk.cells [V.sli ((Sh.sc (STy.int .i64)).cons ((((Sh.sc (STy.int .i64)).cons Sh.nil).li.cons Sh.nil).li.cons Sh.nil)).li (SE.bvar 73) (SE.dvar 74) Tok.unk])) Tr.leaf)))).node none (((Tr.leaf.node none (Tr.leaf.node (some (Blk.cells [V.sli ((Sh.sc (STy.int .i64)).cons ((((Sh.sc (STy.int .i64)).cons Sh.nil).li.cons Sh.nil).li.cons Sh.nil)).li (SE.bvar 73) (SE.dvar 74) Tok.unk])) Tr.leaf)).node none Tr.leaf).node none ((((Tr.leaf.node (some (Blk.cells [V.sli ((Sh.sc (STy.int .i64)).cons ((((Sh.sc (STy.int .i64)).cons Sh.nil).li.cons Sh.nil).li.cons Sh.nil)).li (SE.bvar 73) (SE.dvar 74) Tok.unk])) Tr.leaf).node none Tr.leaf).node none Tr.leaf).node none Tr.leaf))).node none Tr.leaf), next := 142, base := 0, low := none } }
def fsZ : List Nat := [4, 11, 24, 12, 26, 13, 27, 10, 21, 15, 19, 28, 17, 32, 33, 36, 38, 39, 23, 25]
def tbZ : Tb := tb.only fsZ
def spZ : Sp := Go.Sx.spV [eSymK, eSymR, eEffK, eEffR, ePressK, ePressR, eRelK, eRelR]
def pcZ1 : PC := addPC (.cmp .leq (i64 0) (nE 90)) true []
def m4 : V := .agg [iv 91, iv 92, iv 93, iv 94]
def LZ1 : LoopP where
  f := 4
  i := 0
  key := 3408512
  D := mkLoop (loopAt tbZ 4 0) entZ1 [(51, iv 90)] [(0, .cells [iv 91, iv 92, iv 93, iv 94]), (141, .cells [iv 91, iv 92, iv 93, iv 94])] [(.exit 0, [], [(0, .cells [iv 121, iv 122, iv 123, iv 124]), (141, .cells [iv 121, iv 122, iv 123, iv 124])])] 142 2000
    (famPat 90 [91, 92, 93, 94, 95, 96, 97, 98, 100, 101, 102, 103, 104, 105, 106, 107, 113]) (fun n => Nat.ble 121 n && Nat.ble n 124)
  cs := []
def stZ1 := startOf LZ1.D
def rnZ1 (r : Nat → Value) := sums LZ1.D (execF kn0 (callF kn0 Try.prog (tbZ.atS r spZ noLp) 100 100) Try.prog (tbZ.atS r spZ noLp) 100 (.code (loopAt tbZ 4 0)) pcZ1 LZ1.D.hd)
def MZ1 : List (PC × Sm) := [([(SE.dleaf .bool ((SE.dvar 3).dcell (SE.ivar .i64 90) 1), true), (SE.cmp .lss (SE.ivar .i64 90) (SE.dvar 3).dlen, true), (SE.cmp .lss (SE.ivar .i64 90) (SE.int .i64 0), false)], Sm.next [(90, UTy.sc (.int .i64), SE.bin .add .i64 (SE.ivar .i64 90) (SE.int .i64 1)), (91, UTy.sc (.int .i64), SE.ivar .i64 107), (92, UTy.sc (.int .i64), SE.ivar .i64 92), (93, UTy.sc (.int .i64), SE.ivar .i64 93), (94, UTy.sc (.int .i64), SE.ivar .i64 94), (91, UTy.sc (.int .i64), SE.ivar .i64 107), (92, UTy.sc (.int .i64), SE.ivar .i64 92), (93, UTy.sc (.int .i64), SE.ivar .i64 93), (94, UTy.sc (.int .i64), SE.ivar .i64 94)]), ([(SE.dleaf .bool ((SE.dvar 3).dcell (SE.ivar .i64 90) 1), false), (SE.cmp .lss (SE.ivar .i64 90) (SE.dvar 3).dlen, true), (SE.cmp .lss (SE.ivar .i64 90) (SE.int .i64 0), false)], Sm.next [(90, UTy.sc (.int .i64), SE.bin .add .i64 (SE.ivar .i64 90) (SE.int .i64 1)), (91, UTy.sc (.int .i64), SE.ivar .i64 103), (92, UTy.sc (.int .i64), SE.ivar .i64 104), (93, UTy.sc (.int .i64), SE.ivar .i64 105), (94, UTy.sc (.int .i64), SE.ivar .i64 106), (91, UTy.sc (.int .i64), SE.ivar .i64 103), (92, UTy.sc (.int .i64), SE.ivar .i64 104), (93, UTy.sc (.int .i64), SE.ivar .i64 105), (94, UTy.sc (.int .i64), SE.ivar .i64 106)]), ([(SE.cmp .lss (SE.ivar .i64 90) (SE.dvar 3).dlen, false), (SE.cmp .lss (SE.ivar .i64 90) (SE.int .i64 0), false)], Sm.out 0 [(121, UTy.sc (.int .i64), SE.ivar .i64 91), (122, UTy.sc (.int .i64), SE.ivar .i64 92), (123, UTy.sc (.int .i64), SE.ivar .i64 93), (124, UTy.sc (.int .i64), SE.ivar .i64 94), (121, UTy.sc (.int .i64), SE.ivar .i64 91), (122, UTy.sc (.int .i64), SE.ivar .i64 92), (123, UTy.sc (.int .i64), SE.ivar .i64 93), (124, UTy.sc (.int .i64), SE.ivar .i64 94)])]
theorem run_Z1 (r : Nat → Value) : rnZ1 r = some MZ1 := by kernel_rfl
def stZ : List Upd := [(90, .sc (.int .i64), .int .i64 0), (91, .sc (.int .i64), .dleaf (.int .i64) (.dvar 4)), (92, .sc (.int .i64), .dleaf (.int .i64) (.dvar 5)), (93, .sc (.int .i64), .dleaf (.int .i64) (.dvar 6)), (94, .sc (.int .i64), .dleaf (.int .i64) (.dvar 7)),
  (91, .sc (.int .i64), .dleaf (.int .i64) (.dvar 4)), (92, .sc (.int .i64), .dleaf (.int .i64) (.dvar 5)), (93, .sc (.int .i64), .dleaf (.int .i64) (.dvar 6)), (94, .sc (.int .i64), .dleaf (.int .i64) (.dvar 7))]
theorem st_Z1 : startOf LZ1.D = some stZ := by kernel_rfl
/-! ### The calls, one after the other -/
def callC (C : List Value) (x : Nat) : Int := codeD (C.getD x .nilFunc)
def callUp (C : List Value) (x : Nat) : Bool := truthOf (cellD (C.getD x .nilFunc) 1)
def stepM (q : In) (up : Bool) : MS := if up then ⟨q.rl, q.m.b, q.m.c, q.m.d⟩ else ⟨q.pr 0 q.m.a, q.pr 1 q.m.b, q.pr 2 q.m.c, q.pr 3 q.m.d⟩
def mods (L C : List Value) (m0 : MS) : Nat → MS
  | 0 => m0
  | x + 1 => stepM ⟨L, callC C x, mods L C m0 x⟩ (callUp C x)
def inZ (L C : List Value) (m0 : MS) (x : Nat) : In := ⟨L, callC C x, mods L C m0 x⟩
theorem pcL_e3 {q : In} (hl : laysD q.L ≤ 1000) : pcL.holds (envL q.e3) := addPC_ok (PC.holds_nil _) (by
  rw [t_lss, if_pos rfl, n_int, n_iv (x := laysD q.L) rfl (by omega)]
  have := lays_pos q.L
  omega)
theorem stepM_ok {q : In} (hl : laysD q.L ≤ 1000) (hm : q.m.ok) (up : Bool) : (stepM q up).ok := by
  have hp := pcL_e3 hl
  have h1 : ∀ i o, (-9223372036854775808 ≤ o ∧ o ≤ 9223372036854775807) → -9223372036854775808 ≤ q.pr i o ∧ q.pr i o ≤ 9223372036854775807 := fun i o ho => by
    unfold In.pr
    split
    · exact DT.at_rng hp i (by kernel_rfl)
    · exact ho
  have h2 : -9223372036854775808 ≤ q.rl ∧ q.rl ≤ 9223372036854775807 := by
    unfold In.rl
    split
    · exact DT.at_rng hp 0 (by kernel_rfl)
    · exact hm.1
  cases up
  · exact ⟨h1 0 _ hm.1, h1 1 _ hm.2.1, h1 2 _ hm.2.2.1, h1 3 _ hm.2.2.2⟩
  · exact ⟨h2, hm.2.1, hm.2.2.1, hm.2.2.2⟩
theorem mods_ok {L C : List Value} {m0 : MS} (hl : laysD L ≤ 1000) (hm : m0.ok) : ∀ x, (mods L C m0 x).ok
  | 0 => hm
  | x + 1 => stepM_ok (q := ⟨L, callC C x, mods L C m0 x⟩) hl (mods_ok hl hm x) _
def msZ : List Nat := [91, 92, 93, 94, 95, 96, 97, 98, 100, 101, 102, 103, 104, 105, 106, 107, 113]
/-- What the law's loop needs. -/
structure LawOk (ρ : Nat → Value) (L C : List Value) (m0 : MS) : Prop where
  h3 : elsD (ρ 3) = C
  len : C.length ≤ 100
  h64 : ρ 64 = listD (L.map cpK)
  h65 : ρ 65 = vI (laysD L)
  h74 : ρ 74 = listD (L.map cpR)
  h90 : ρ 90 = vI 0
  ms : ∀ k, k ∈ msZ → ρ k = envL (inZ L C m0 0).e4 k
  h110 : ρ 110 = vI 0
  h111 : ρ 111 = vI 1
  h112 : ρ 112 = vI 0
  small : smallKs L
  lays : laysD L ≤ 1000
  err : errD L 0 = 0
  m : m0.ok
  a : (SE.dleaf (.int .i64) (.dvar 4)).num ρ = m0.a
  b : (SE.dleaf (.int .i64) (.dvar 5)).num ρ = m0.b
  c : (SE.dleaf (.int .i64) (.dvar 6)).num ρ = m0.c
  d : (SE.dleaf (.int .i64) (.dvar 7)).num ρ = m0.d
  ra : ρ 121 = vI (mods L C m0 C.length).a
  rb : ρ 122 = vI (mods L C m0 C.length).b
  rc : ρ 123 = vI (mods L C m0 C.length).c
  rd : ρ 124 = vI (mods L C m0 C.length).d
def gZ (L C : List Value) (m0 : MS) (x n : Nat) : Value := envL (inZ L C m0 x).e4 n
abbrev famZ (ρ : Nat → Value) (L C : List Value) (m0 : MS) (x : Nat) : Nat → Value := fam ρ 90 msZ (gZ L C m0) x
theorem rd_ok {ρ : Nat → Value} {L C : List Value} {m0 : MS} (h : LawOk ρ L C m0) {x : Nat} (hx : x ≤ C.length) : RdOk4 (famZ ρ L C m0 x) (inZ L C m0 x) where
  env n hn := by
    simp only [ks4, List.mem_cons, List.not_mem_nil, or_false] at hn
    rcases hn with rfl | rfl | rfl | rfl | rfl | rfl | rfl | rfl | rfl | rfl | rfl | rfl | rfl | rfl | rfl | rfl | rfl | rfl <;> first | rfl | exact h.h65
  code := by
    have hl := h.len
    show IntKind.wrap .i64 (numOf (cellD ((elsD (ρ 3)).getD ((nE 90).num (famZ ρ L C m0 x)).toNat .nilFunc) 0)) = _
    rw [h.h3, n_fam (by omega), Int.toNat_natCast]
    rfl
  h64 := h.h64
  h74 := h.h74
  h110 := h.h110
  h111 := h.h111
  h112 := h.h112
  small := h.small
  lays := h.lays
  err := h.err
  m := mods_ok h.lays h.m x
theorem num_eq {ρ ρ' : Nat → Value} {n k : Nat} (h : ρ n = ρ' k) : (nE n).num ρ = (nE k).num ρ' := by
  show (match ρ n with | .int _ i => IntKind.wrap .i64 i | _ => 0) = (match ρ' k with | .int _ i => IntKind.wrap .i64 i | _ => 0)
  rw [h]
theorem LZ1_ok {ρ : Nat → Value} {L C : List Value} {m0 : MS} (h : LawOk ρ L C m0) : LoopPOk Try.prog (tbZ.atS ρ spZ noLp) LZ1 := by
  have hl := h.len
  have hN : ∀ x, x ≤ C.length → (nE 90).num (famZ ρ L C m0 x) = x := fun x hx => n_fam (by omega)
  have h3 : ∀ x, elsD ((SE.dvar 3).data (famZ ρ L C m0 x)) = C := fun x => h.h3
  have hm := h.m
  have start : ∀ {n k : Nat} {i : Int}, (SE.dleaf (.int .i64) (.dvar n)).num ρ = i → ρ k = vI i → (-9223372036854775808 ≤ i ∧ i ≤ 9223372036854775807) → (SE.dleaf (.int .i64) (.dvar n)).num ρ = (nE k).num ρ := fun h1 h2 h3 => by rw [h1, iv_at h2 h3.1 h3.2]
  have e91 := h.ms 91 (by decide)
  have e92 := h.ms 92 (by decide)
  have e93 := h.ms 93 (by decide)
  have e94 := h.ms 94 (by decide)
  have s1 := start h.a e91 hm.1
  have s2 := start h.b e92 hm.2.1
  have s3 := start h.c e93 hm.2.2.1
  have s4 := start h.d e94 hm.2.2.2
  refine fam_loop (Tb.only_ok tb_ok _) (Tb.only_wf tb_wf _) (m := 90) (ms := msZ) (g := gZ L C m0) (n := C.length) (Q := fun x => True) h.h90 h.ms
    (fun x hx _ => Go.Sx.spV_ok (tb := tbZ) (l := [eSymK, eSymR, eEffK, eEffR, ePressK, ePressR, eRelK, eRelR]) (step_known (rd_ok h hx))) (by kernel_rfl) rfl rfl trivial st_Z1
    (UpdOk.int (ivar_zero h.h90) (UpdOk.int s1 (UpdOk.int s2 (UpdOk.int s3 (UpdOk.int s4 (UpdOk.int s1 (UpdOk.int s2 (UpdOk.int s3 (UpdOk.int s4 .nil))))))))) (fun _ => rfl) (kn := kn0) (n0 := 100) (n1 := 100) (n2 := 100) (fun x => kn0_ok) (pc := pcZ1)
    (fun x hx _ => pc_fam (by omega) (PC.holds_nil _)) run_Z1 ?_
  intro x hx1 _
  have hup : (SE.dleaf .bool (.dcell (.dvar 3) (.ivar .i64 90) 1)).truth (famZ ρ L C m0 x) = callUp C x := by
    show truthOf (cellD ((elsD (ρ 3)).getD ((nE 90).num (famZ ρ L C m0 x)).toNat .nilFunc) 1) = _
    rw [h.h3, hN x hx1, Int.toNat_natCast]
    rfl
  have hs : mods L C m0 (x + 1) = stepM (inZ L C m0 x) (callUp C x) := rfl
  unfold MZ1
  rw [all_cons, all_cons, all_cons]
  refine ⟨fun hp => ?_, fun hp => ?_, fun hp => ?_, fun _ h => by simp at h⟩
  all_goals simp only [h_cons, h_nil, t_lss, n_int, n_dlen, h3, hN x hx1, if_true, Bool.false_eq_true, if_false] at hp
  · obtain ⟨h1, h2, _⟩ := hp
    rw [hup] at h1
    rw [h1] at hs
    have r1 : famZ ρ L C m0 x 107 = famZ ρ L C m0 (x + 1) 91 := by show vI _ = vI (mods L C m0 (x + 1)).a; rw [hs]; rfl
    have r2 : famZ ρ L C m0 x 92 = famZ ρ L C m0 (x + 1) 92 := by show vI _ = vI (mods L C m0 (x + 1)).b; rw [hs]; rfl
    have r3 : famZ ρ L C m0 x 93 = famZ ρ L C m0 (x + 1) 93 := by show vI _ = vI (mods L C m0 (x + 1)).c; rw [hs]; rfl
    have r4 : famZ ρ L C m0 x 94 = famZ ρ L C m0 (x + 1) 94 := by show vI _ = vI (mods L C m0 (x + 1)).d; rw [hs]; rfl
    exact ⟨by omega, trivial, UpdOk.int (next_fam (by omega)) (UpdOk.int (num_eq r1) (UpdOk.int (num_eq r2) (UpdOk.int (num_eq r3) (UpdOk.int (num_eq r4) (UpdOk.int (num_eq r1) (UpdOk.int (num_eq r2) (UpdOk.int (num_eq r3) (UpdOk.int (num_eq r4) .nil))))))))⟩
  · obtain ⟨h1, h2, _⟩ := hp
    rw [hup] at h1
    rw [h1] at hs
    have r1 : famZ ρ L C m0 x 103 = famZ ρ L C m0 (x + 1) 91 := by show vI _ = vI (mods L C m0 (x + 1)).a; rw [hs]; rfl
    have r2 : famZ ρ L C m0 x 104 = famZ ρ L C m0 (x + 1) 92 := by show vI _ = vI (mods L C m0 (x + 1)).b; rw [hs]; rfl
    have r3 : famZ ρ L C m0 x 105 = famZ ρ L C m0 (x + 1) 93 := by show vI _ = vI (mods L C m0 (x + 1)).c; rw [hs]; rfl
    have r4 : famZ ρ L C m0 x 106 = famZ ρ L C m0 (x + 1) 94 := by show vI _ = vI (mods L C m0 (x + 1)).d; rw [hs]; rfl
    exact ⟨by omega, trivial, UpdOk.int (next_fam (by omega)) (UpdOk.int (num_eq r1) (UpdOk.int (num_eq r2) (UpdOk.int (num_eq r3) (UpdOk.int (num_eq r4) (UpdOk.int (num_eq r1) (UpdOk.int (num_eq r2) (UpdOk.int (num_eq r3) (UpdOk.int (num_eq r4) .nil))))))))⟩
  · obtain ⟨h1, _⟩ := hp
    have hxe : x = C.length := by omega
    have r1 : famZ ρ L C m0 x 91 = famZ ρ L C m0 x 121 := by show vI (mods L C m0 x).a = ρ 121; rw [h.ra, hxe]
    have r2 : famZ ρ L C m0 x 92 = famZ ρ L C m0 x 122 := by show vI (mods L C m0 x).b = ρ 122; rw [h.rb, hxe]
    have r3 : famZ ρ L C m0 x 93 = famZ ρ L C m0 x 123 := by show vI (mods L C m0 x).c = ρ 123; rw [h.rc, hxe]
    have r4 : famZ ρ L C m0 x 94 = famZ ρ L C m0 x 124 := by show vI (mods L C m0 x).d = ρ 124; rw [h.rd, hxe]
    exact ⟨rfl, UpdOk.int (num_eq r1) (UpdOk.int (num_eq r2) (UpdOk.int (num_eq r3) (UpdOk.int (num_eq r4) (UpdOk.int (num_eq r1) (UpdOk.int (num_eq r2) (UpdOk.int (num_eq r3) (UpdOk.int (num_eq r4) .nil)))))))⟩
end
end Go.Proofs.Ytaidiaiedhbaoaa

/- KeymapSteps: the law's run. -/
set_option linter.unusedVariables false
set_option linter.unusedSimpArgs false
namespace Go.Proofs.Ytaidiaiedhbaoaa
open Go.Sx Go.ChangeShapes Go.WideShapes Go.ChangeAt Go.RowKit
noncomputable section
def lfV (n : Nat) : V := .sym (.int .i64) (.dleaf (.int .i64) (.dvar n))
def argS : List V := [.sli shK (.dnil (.dvar 2)) (.dvar 2) .unk, .agg [lfV 4, lfV 5, lfV 6, lfV 7], .sli (.li (.cons (.sc (.int .i64)) (.cons (.sc .bool) .nil))) (.dnil (.dvar 3)) (.dvar 3) .unk]
def spS0 : Sp := spOf [eLarge]
def lpS0 : Lp := lpOf [LM1.e, LQ1.e, LQ2.e, LZ1.e]
def rnS (r : Nat → Value) := allTrue (callF knN Try.prog (tbZ.atS r spS0 lpS0) 100 100 [] 4 argS H0)
def rnST (r : Nat → Value) := allTrue (callF knN Try.prog (tbZ.atS r spT noLp) 100 100 [] 4 argS H0)
def exS (r : Nat → Value) (sp : Sp) (lp : Lp) := isTrue (callX Try.prog (tbZ.atS r sp lp) 100 10 [] H0)
def exS1 (r : Nat → Value) := exS r spS0 lpS0
def exS2 (r : Nat → Value) := exS r spT noLp
def ksSt (_ : Nat → Value) := [LM1, LQ1, LQ2, LZ1].map fun e => keysAt tbZ e.key fsZ
end
end Go.Proofs.Ytaidiaiedhbaoaa

/- KeymapSteps: whatever the keys, the modifiers and the calls, the law returns true. No further conditions. -/
set_option linter.unusedVariables false
set_option linter.unusedSimpArgs false
namespace Go.Proofs.Ytaidiaiedhbaoaa
open Go.Sx Go.ChangeShapes Go.WideShapes Go.ChangeAt Go.RowKit
noncomputable section
def lpSq : Lp := lpOf [LM1.e, LQ1.e, LQ2.e]
def pcErr : PC := addPC (.cmp .eql (nE 62) (i64 0)) false []
def pcLong : PC := addPC (.cmp .lss (i64 100) (.dlen (.dvar 3))) true []
def rnSE (r : Nat → Value) := allTrue (callF knN Try.prog (tbZ.atS r spS0 lpSq) 100 100 pcErr 4 argS H0)
def rnSL (r : Nat → Value) := allTrue (callF knN Try.prog (tbZ.atS r spS0 noLp) 100 100 pcLong 4 argS H0)
theorem run_S (r : Nat → Value) : rnS r = true := by kernel_rfl
theorem run_ST (r : Nat → Value) : rnST r = true := by kernel_rfl
theorem run_SE (r : Nat → Value) : rnSE r = true := by kernel_rfl
theorem run_SL (r : Nat → Value) : rnSL r = true := by kernel_rfl
theorem ex_1 (r : Nat → Value) : exS r spS0 lpS0 = true := by kernel_rfl
theorem ex_2 (r : Nat → Value) : exS r spT noLp = true := by kernel_rfl
theorem ex_3 (r : Nat → Value) : exS r spS0 lpSq = true := by kernel_rfl
theorem ex_4 (r : Nat → Value) : exS r spS0 noLp = true := by kernel_rfl
theorem knS_ok (ρ : Nat → Value) (sp : Sp) (lp : Lp) (h : exS ρ sp lp = true) : KnOk knN (call Try.prog (tbZ.atS ρ sp lp) 100) := by
  intro f v hv
  unfold knN at hv
  split at hv
  · rename_i hf
    cases hv
    rw [show f = 10 from Nat.eq_of_beq_eq_true hf]
    unfold exS at h
    rw [callX_eq] at h
    exact ⟨rfl, isTrue_eq h⟩
  · exact absurd hv (by simp)
/-- The law's data. -/
structure Dat where
  (k c v4 v5 v6 v7 : Value)
def Dat.L (q : Dat) : List Value := elsD q.k
def Dat.C (q : Dat) : List Value := elsD q.c
def nV (v : Value) : Int := IntKind.wrap .i64 (numOf v)
def Dat.m (q : Dat) : MS := ⟨nV q.v4, nV q.v5, nV q.v6, nV q.v7⟩
def Dat.fin (q : Dat) : MS := mods q.L q.C q.m q.C.length
def Dat.rest (q : Dat) : List (Nat × Value) := [(2, q.k), (3, q.c), (4, q.v4), (5, q.v5), (6, q.v6), (7, q.v7), (50, vI 0), (54, vI 0), (57, vI 0), (70, vI 0), (80, vI 0), (58, .bool true), (71, .bool true), (59, listD []), (72, listD []),
  (62, vI (errD q.L 0)), (63, .bool (decide (ixD q.L 0 = 0))), (64, listD ((q.L.take (ixD q.L 0)).map cpK)), (65, vI (laysD (q.L.take (ixD q.L 0)))), (73, .bool (decide (q.L.length = 0))), (74, listD (q.L.map cpR)), (81, vI (refErr q.L 0)),
  (90, vI 0), (110, vI 0), (111, vI 1), (112, vI 0), (121, vI q.fin.a), (122, vI q.fin.b), (123, vI q.fin.c), (124, vI q.fin.d)]
def rhoS (q : Dat) (n : Nat) : Value := if msN.contains n then gN q.L 0 n else if msZ.contains n then envL (inZ q.L q.C q.m 0).e4 n else envL q.rest n
theorem LoopPOk.tb1 {P : Program} {tb tb' : Tb} {l : LoopP} (hf : tb'.func l.f = tb.func l.f) (hgl : tb'.glob = tb.glob) (hrho : tb'.rho = tb.rho) (h : LoopPOk P tb l) : LoopPOk P tb' l := by
  intro fn hfn
  rw [hf] at hfn
  have h1 := h fn hfn
  unfold LoopEOk at h1 ⊢
  have e : loopAt tb' l.f l.i = loopAt tb l.f l.i := by unfold loopAt loopsAt; rw [hf]
  rw [e, hrho]
  exact SoundAt.tb hgl hrho h1
theorem large_atT {ρ : Nat → Value} (hb : Bnd (ρ 2)) (hl : largeD (elsD (ρ 2)) = true) : EntryOk Try.prog tb.glob ρ eLargeT := by
  refine ⟨⟨_, Try.func9, by kernel_rfl, by kernel_rfl⟩, by kernel_rfl, fun q hq => by simp [eLargeT, eLarge] at hq, ?_⟩
  have key := large_fnc (ρ := envL [(1, .bool (isNilD (ρ 2))), (2, ρ 2), (10, .int .i64 0), (20, .int .i64 0), (21, .bool ((levD ((elsD (ρ 2)).getD 0 .nilFunc)).any wideL)), (11, .bool ((elsD (ρ 2)).any wideK))]) rfl rfl rfl rfl hb
  have e : largeD (elsD (envL [(1, Value.bool (isNilD (ρ 2))), (2, ρ 2), (10, .int .i64 0), (20, .int .i64 0), (21, .bool ((levD ((elsD (ρ 2)).getD 0 .nilFunc)).any wideL)), (11, .bool ((elsD (ρ 2)).any wideK))] 2)) = true := hl
  rw [e] at key
  exact key.at (us := [(1, .sc .bool, .dnil (.dvar 2)), (2, .dat, .dvar 2)]) (by kernel_rfl) (UpdOk.bool rfl (UpdOk.dat rfl .nil))
theorem facts_of {tb : Tb} (h : SpecOk Try.prog tb) : FactsOk tb := fun f args H r hr q hq => (h.fns f args H r hr).2.1 q hq
theorem keys_S0 : ([LM1, LQ1, LQ2, LZ1].all fun e => keysAt tbZ e.key fsZ == [(e.f, e.i)]) = true := by kernel_rfl
theorem keys_S1 : ([LM1, LQ1, LQ2].all fun e => keysAt tbZ e.key fsZ == [(e.f, e.i)]) = true := by kernel_rfl
section
variable {q : Dat} (hb : Bnd q.k)
include hb
theorem base_sp (hl : largeD q.L = false) : SpecOk Try.prog (tbZ.atS (rhoS q) spS0 (fun _ _ => none)) := spOf_ok (tb := tbZ) (l := [eLarge]) (fun e he => by
  rw [List.mem_singleton.1 he]
  exact large_at (ρ := rhoS q) hb hl)
theorem loops3 (hl : largeD q.L = false) (sp : Sp) (lp : Lp) : ∀ e, e ∈ [LM1, LQ1, LQ2] → LoopPOk Try.prog (tbZ.atS (rhoS q) sp lp) e := by
  obtain ⟨hl1, hsm, hl3⟩ := large_small hl
  have hms : ∀ k, k ∈ msN → rhoS q k = gN q.L 0 k := fun k hk => by
    unfold rhoS
    rw [if_pos (List.contains_iff_mem.2 hk)]
  have h1 : LoopPOk Try.prog (tbN.atS (rhoS q) spN lpM1) LM1 := LM1_ok (ρ := rhoS q) hb hl rfl hms rfl rfl rfl rfl rfl rfl rfl rfl
  have h2 : LoopPOk Try.prog (tbN.atS (rhoS q) noSp noLp) LQ1 := LQ1_ok (ρ := rhoS q) hl1 rfl rfl rfl rfl rfl
  have h3 : LoopPOk Try.prog (tbN.atS (rhoS q) Go.Proofs.Ytaidiaiedhbaoaa.spV noLp) LQ2 := LQ2_ok (ρ := rhoS q) (L := q.L) hsm rfl rfl rfl rfl
  intro e he
  rcases List.mem_cons.1 he with rfl | he
  · exact LoopPOk.tb1 (tb := tbN.atS (rhoS q) spN lpM1) (by kernel_rfl) rfl rfl h1
  · rcases List.mem_cons.1 he with rfl | he
    · exact LoopPOk.tb1 (tb := tbN.atS (rhoS q) noSp noLp) (by kernel_rfl) rfl rfl h2
    · rw [List.mem_singleton.1 he]
      exact LoopPOk.tb1 (tb := tbN.atS (rhoS q) Go.Proofs.Ytaidiaiedhbaoaa.spV noLp) (by kernel_rfl) rfl rfl h3
theorem spec_S1 (hl : largeD q.L = false) : SpecOk Try.prog (tbZ.atS (rhoS q) spS0 lpSq) :=
  specP_of (l := [LM1, LQ1, LQ2]) (fs := fsZ) (lp0 := fun _ _ => none) (fun f fn h => (Tb.only_func h).1) (base_sp hb hl) keys_S1 (loops3 hb hl _ _)
theorem law_ok (hl : largeD q.L = false) (hlen : q.C.length ≤ 100) (herr : errD q.L 0 = 0) : LawOk (rhoS q) q.L q.C q.m := by
  have _ := hb
  obtain ⟨hl1, hsm, hl3⟩ := large_small hl
  have hix : ixD q.L 0 = q.L.length := ix_of_ok _ _ herr
  have hw : ∀ v, -9223372036854775808 ≤ nV v ∧ nV v ≤ 9223372036854775807 := fun v => ⟨(wrap_range .i64 _).1 _ rfl, (wrap_range .i64 _).2 _ rfl⟩
  have hlays := hsm.lays q.L.length
  rw [List.take_length] at hlays
  exact {
    h3 := rfl
    len := hlen
    h64 := by
      show listD ((q.L.take (ixD q.L 0)).map cpK) = _
      rw [hix, List.take_length]
    h65 := by
      show vI (laysD (q.L.take (ixD q.L 0))) = _
      rw [hix, List.take_length]
    h74 := rfl
    h90 := rfl
    ms := fun k hk => by
      unfold rhoS
      have hn : msN.contains k = false := by
        have : ∀ k, k ∈ msZ → msN.contains k = false := by decide
        exact this k hk
      rw [hn, if_neg (by simp), if_pos (List.contains_iff_mem.2 hk)]
    h110 := rfl
    h111 := rfl
    h112 := rfl
    small := hsm
    lays := hlays
    err := herr
    m := ⟨hw _, hw _, hw _, hw _⟩
    a := rfl
    b := rfl
    c := rfl
    d := rfl
    ra := rfl
    rb := rfl
    rc := rfl
    rd := rfl }
theorem spec_S0 (hl : largeD q.L = false) (hlen : q.C.length ≤ 100) (herr : errD q.L 0 = 0) : SpecOk Try.prog (tbZ.atS (rhoS q) spS0 lpS0) :=
  specP_of (l := [LM1, LQ1, LQ2, LZ1]) (fs := fsZ) (lp0 := fun _ _ => none) (fun f fn h => (Tb.only_func h).1) (base_sp hb hl) keys_S0 (fun e he => by
    rcases List.mem_cons.1 he with rfl | he
    · exact loops3 hb hl _ _ _ (by simp)
    · rcases List.mem_cons.1 he with rfl | he
      · exact loops3 hb hl _ _ _ (by simp)
      · rcases List.mem_cons.1 he with rfl | he
        · exact loops3 hb hl _ _ _ (by simp)
        · rw [List.mem_singleton.1 he]
          exact LoopPOk.tb1 (tb := tbZ.atS (rhoS q) spZ noLp) rfl rfl rfl (LZ1_ok (law_ok hb hl hlen herr)))
theorem spec_T (hl : largeD q.L = true) : SpecOk Try.prog (tbZ.atS (rhoS q) spT noLp) :=
  spOf_ok (tb := tbZ) (l := [eLargeT]) (fun e he => by
    rw [List.mem_singleton.1 he]
    exact large_atT (ρ := rhoS q) hb hl)
/-- The law's run, for all data. -/
theorem law_run : ∃ sp lp m R, SpecOk Try.prog (tbZ.atS (rhoS q) sp lp) ∧ call Try.prog (tbZ.atS (rhoS q) sp lp) m 4 argS H0 = some R ∧ ∀ r, r ∈ R → TrueV (rhoS q) r.1 := by
  cases hl : largeD q.L with
  | true =>
    have hsp := spec_T hb hl
    obtain ⟨m, R, g1, g2⟩ := all_true (facts_of hsp) (knS_ok _ _ _ (ex_2 _)) (PC.holds_nil _) (run_ST _)
    exact ⟨_, _, m, R, hsp, g1, g2⟩
  | false =>
    by_cases hlen : q.C.length ≤ 100
    · by_cases herr : errD q.L 0 = 0
      · have hsp := spec_S0 hb hl hlen herr
        obtain ⟨m, R, g1, g2⟩ := all_true (facts_of hsp) (knS_ok _ _ _ (ex_1 _)) (PC.holds_nil _) (run_S _)
        exact ⟨_, _, m, R, hsp, g1, g2⟩
      · have hsp := spec_S1 hb hl
        have her := errD_rng q.L 0
        have hp : pcErr.holds (rhoS q) := addPC_ok (PC.holds_nil _) (by
          rw [t_eql, if_neg (by simp), n_int, iv_at (x := errD q.L 0) rfl (by omega) (by omega)]
          exact herr)
        obtain ⟨m, R, g1, g2⟩ := all_true (facts_of hsp) (knS_ok _ _ _ (ex_3 _)) hp (run_SE _)
        exact ⟨_, _, m, R, hsp, g1, g2⟩
    · have hsp : SpecOk Try.prog (tbZ.atS (rhoS q) spS0 noLp) := base_sp hb hl
      have hp : pcLong.holds (rhoS q) := addPC_ok (PC.holds_nil _) (by
        rw [t_lss, if_pos rfl, n_int, n_dlen]
        show (100 : Int) < (q.C.length : Int)
        omega)
      obtain ⟨m, R, g1, g2⟩ := all_true (facts_of hsp) (knS_ok _ _ _ (ex_4 _)) hp (run_SL _)
      exact ⟨_, _, m, R, hsp, g1, g2⟩
end
theorem lawful (xs : List V) (h : TyArgs tbZ 8 Try.f4.params.toList xs) : ∃ ρ sp lp ys m L, SpecOk Try.prog (tbZ.atS ρ sp lp) ∧ SymAll ρ xs ys ∧ call Try.prog (tbZ.atS ρ sp lp) m 4 ys H0 = some L ∧ ∀ r, r ∈ L → TrueV ρ r.1 := by
  rw [Try.params4] at h
  obtain ⟨x1, _, rfl, hx1, x2, _, rfl, hx2, x3, _, rfl, hx3, rfl⟩ := h
  obtain ⟨cs, rfl, hy2⟩ := TyV.agg (by kernel_rfl) hx2
  obtain ⟨l1, k1, b1, s1⟩ := ty_sym (s := .cons shK .nil) (by kernel_rfl) (TyV.cell (by kernel_rfl) hx1)
  obtain ⟨l2, k2, b2, s2⟩ := ty_sym (s := .cons (.sc (.int .i64)) (.cons (.sc (.int .i64)) (.cons (.sc (.int .i64)) (.cons (.sc (.int .i64)) .nil)))) (by kernel_rfl) hy2
  obtain ⟨l3, k3, b3, s3⟩ := ty_sym (s := .cons (.li (.cons (.sc (.int .i64)) (.cons (.sc .bool) .nil))) .nil) (by kernel_rfl) (TyV.cell (by kernel_rfl) hx3)
  obtain ⟨d, rfl⟩ : ∃ d, l1 = [d] := by
    match l1, k1 with
    | [d], _ => exact ⟨d, rfl⟩
  obtain ⟨c, rfl⟩ : ∃ c, l3 = [c] := by
    match l3, k3 with
    | [c], _ => exact ⟨c, rfl⟩
  obtain ⟨v4, v5, v6, v7, rfl⟩ : ∃ v4 v5 v6 v7, l2 = [v4, v5, v6, v7] := by
    match l2, k2 with
    | [v4, v5, v6, v7], _ => exact ⟨v4, v5, v6, v7, rfl⟩
  have hbd : Bnd d := b1 d List.mem_cons_self
  obtain ⟨sp, lp, m, R, hsp, g1, g2⟩ := law_run (q := ⟨d, c, v4, v5, v6, v7⟩) hbd
  have one : ∀ {j : Nat}, j < 1 → j = 0 := fun h => by omega
  obtain ⟨u, hu, hsim⟩ := (s1 (rhoS ⟨d, c, v4, v5, v6, v7⟩) 2 (fun j hj => by rw [one hj]; rfl)).2 0 _ rfl
  cases hu
  obtain ⟨u, hu, hsim3⟩ := (s3 (rhoS ⟨d, c, v4, v5, v6, v7⟩) 3 (fun j hj => by rw [one hj]; rfl)).2 0 _ rfl
  cases hu
  have hsim2 := Sim.agg (s2 (rhoS ⟨d, c, v4, v5, v6, v7⟩) 4 (fun j hj => by
    have hj : j < 4 := hj
    match j, hj with
    | 0, _ => rfl
    | 1, _ => rfl
    | 2, _ => rfl
    | 3, _ => rfl))
  have hsy : SymAll (rhoS ⟨d, c, v4, v5, v6, v7⟩) [x1, .agg cs, x3] argS := ⟨⟨SymOf.sim hsim, hsim.1⟩, ⟨SymOf.sim hsim2, hsim2.1⟩, ⟨SymOf.sim hsim3, hsim3.1⟩, trivial⟩
  exact ⟨_, sp, lp, _, m, R, hsp, hsy, g1, g2⟩
theorem own : ownKnob Try.prog.godebug = none := by kernel_rfl
theorem kids : Kids Try.prog (· < Try.prog.types.size) := kids_rows (by kernel_rfl) (by kernel_rfl)
theorem full : ∀ t e, t < Try.prog.types.size → Try.prog.underlying t = some (.slice e) → 0 < Try.prog.cellsOf e := slices_full_of Try.prog (by kernel_rfl)
theorem lifted (os : Os) (started : os.Started) (H : Type) (enc : TypeId × Value → H) :
    ReturnsInHanded {} Try.checked os 4 .any (Rows.keymapStepsSpec.pre6 enc Try.prog Try.f4 Rows.keymapStepsRow.domain false) (Rows.keymapStepsSpec.post enc Try.prog Try.f4 false true false false) :=
  law_lift_sym (C := Try.checked) (tb := tbZ) (n := 8) (t := 4) (Tb.only_ok tb_ok _) (Tb.only_wf tb_wf _) (fun _ => rfl) own started (by kernel_rfl) Try.func4
    (ChangeSpec.witness6 (enc := enc) (C := Try.checked) false ⟨#[], #[.slice none 0 0, .agg #[.int .i64 0, .int .i64 0, .int .i64 0, .int .i64 0], .slice none 0 0], []⟩ 4 (by kernel_rfl) (by kernel_rfl) (by kernel_rfl) (by kernel_rfl))
    kids full (by rw [Try.params4]; decide +kernel) rfl Try.underlying4 rfl (fun ds hds => by
      match ds, hds with
      | [d1, d2, d3], _ => rfl) (by kernel_rfl) lawful
/-- **KeymapSteps.** -/
theorem steps_holds : Rows.KeymapStepsSaid :=
  OpenClaim.holds_of_wide 4 Try.f4 rfl rfl rfl rfl rfl rfl rfl ⟨rfl, rfl, rfl, rfl, rfl⟩ rfl rfl rfl rfl rfl (by kernel_rfl) Try.func4 (by kernel_rfl)
    (of_decide_eq_true (by kernel_rfl)) (by unfold Func.isWrapper; first | (rw [if_pos (by decide +kernel)]; kernel_rfl) | (rw [if_neg (by decide +kernel)]; exact ⟨rfl, rfl⟩))
    (fun os started H enc _ => lifted os started H enc)
#print axioms steps_holds
end
end Go.Proofs.Ytaidiaiedhbaoaa
