/- math/bits.Div64: its two loops, by induction. -/
import Derived.Test.YtdblaloadklcfabDoorFxZ
import Derived.Test.YtdblaloadklcfabDoorFxD
set_option linter.unusedVariables false
set_option linter.unusedSimpArgs false
namespace Go.Proofs.YtdblaloadklcfabDoor
open Go.Sx Go.ChangeShapes Go.WideShapes Go.ChangeAt Go.RowKit
noncomputable section

/-- The shift; the divisor, shifted; its halves; the dividend's upper word and lower word, shifted; the lower word's halves. -/
def eS : SE := .conv .u64 (.ivar .i64 3)
def eY : SE := .bin .shl .u64 (.ivar .u64 2) eS
def eY1 : SE := .bin .shr .u64 eY (.int .u64 32)
def eY0 : SE := .bin .and .u64 eY (.int .u64 4294967295)
def eU : SE := .bin .or .u64 (.bin .shl .u64 (.ivar .u64 0) eS) (.bin .shr .u64 (.ivar .u64 1) (.bin .sub .u64 (.int .u64 64) eS))
def eL : SE := .bin .shl .u64 (.ivar .u64 1) eS
def eU1 : SE := .bin .shr .u64 eL (.int .u64 32)
def eU0 : SE := .bin .and .u64 eL (.int .u64 4294967295)
/-- What is left behind the first half. -/
def eR : SE := mkBin .sub .u64 (mkBin .add .u64 (mkBin .mul .u64 eU (.int .u64 4294967296)) eU1) (mkBin .mul .u64 (.ivar .u64 6) eY)
def us (e : SE) : V := .sym (.int .u64) e
def eLz : Entry := { f := 51, args := [uv 2], res := iv 3, facts := [(.cmp .eql eY1 (.int .u64 0), false)] }
def spD : Sp := spOf [eLz]
def pcD : PC := addPC (.cmp .leq (.ivar .u64 2) (.ivar .u64 0)) false (addPC (.cmp .eql (.ivar .u64 0) (.int .u64 0)) false (addPC (.cmp .eql (.ivar .u64 2) (.int .u64 0)) false []))
def tbD : Tb := { tb with func := fun f => if Nat.beq f 44 then tb.func f else none }
theorem tbD_func {f : Nat} {fn : Func} (h : tbD.func f = some fn) : f = 44 ∧ tb.func f = some fn := by
  have h : (if Nat.beq f 44 then tb.func f else none) = some fn := h
  split at h
  · rename_i hf
    exact ⟨Nat.eq_of_beq_eq_true hf, h⟩
  · exact absurd h (by simp)
theorem tbD_ok : tbD.Ok Tryd.prog := ⟨fun f fn h => tb_ok.func _ _ (tbD_func h).2, tb_ok.desc, tb_ok.info, tb_ok.mixed⟩
theorem tbD_wf : tbD.Wf := fun f fn c h1 h2 => tb_wf _ _ _ (tbD_func h1).2 h2
def restD : List (Nat × V) := [(0, uv 0), (1, uv 1), (2, us eY), (6, .val (.int .u64 0)), (7, .val (.int .u64 0)), (8, us eS), (9, us eY1), (10, us eY0), (11, us eU), (12, us eL), (13, us eU1), (14, us eU0)] ++ tops ((List.range 116).map fun j => 19 + j)
def hdD1 : St := { env := mkE (restD ++ [(15, uv 4), (16, uv 5)]), h := H0 }
def exD1 : Env := mkE (restD ++ [(15, uv 6), (16, .top)])
def DD1 : LoopD := { hd := hdD1, ts := [15, 16], outs := [(.exit 0, exD1, [15])] }
def hdD2 : St := { env := mkE (restD ++ [(15, uv 6), (17, us eR), (18, uv 7), (16, uv 8)]), h := H0 }
def exD2 : Env := mkE (restD ++ [(15, uv 6), (17, us eR), (18, uv 9), (16, .top)])
def DD2 : LoopD := { hd := hdD2, ts := [18, 16], outs := [(.exit 2, exD2, [18])] }
def SD (n : Nat) : Bool := Nat.ble n 3 || (Nat.beq n 6 || Nat.beq n 9)
/-- The loops' bodies. -/
def loopsD : List Code := match (tb.func 44).bind fun fn => fn.body with
  | some c => loopsOf c
  | none => []
def bodyD1 : Code := loopsD.headD .skip
def bodyD2 : Code := (loopsD.drop 1).headD .skip
def runD1 (r : Nat → Value) := sums SD DD1 (execF kn0 (callF kn0 Tryd.prog (tbD.atS r spD noLp) 300 300) Tryd.prog (tbD.atS r spD noLp) 300 (.code bodyD1) [] DD1.hd)
def runD2 (r : Nat → Value) := sums SD DD2 (execF kn0 (callF kn0 Tryd.prog (tbD.atS r spD noLp) 300 300) Tryd.prog (tbD.atS r spD noLp) 300 (.code bodyD2) [] DD2.hd)

def cR (r : Nat) : SE := .cmp .lss (.bin .add .u64 (.ivar .u64 r) eY1) (.int .u64 4294967296)
def cQ (q : Nat) : SE := .cmp .lss (.ivar .u64 q) (.int .u64 4294967296)
def cT (q r : Nat) (u : SE) : SE := .cmp .lss (.bin .add .u64 (.bin .mul .u64 (.ivar .u64 r) (.int .u64 4294967296)) u) (.bin .mul .u64 (.ivar .u64 q) eY0)
def lessQ (q : Nat) : SE := .bin .sub .u64 (.ivar .u64 q) (.int .u64 1)
def MD (q r Q : Nat) (u : SE) : List (PC × Sm) :=
  [([(cR r, false), (cQ q, false)], .out 0 [(Q, .int .u64, lessQ q)]),
   ([(cR r, true), (cQ q, false)], .next [(q, .int .u64, lessQ q), (r, .int .u64, .bin .add .u64 (.ivar .u64 r) eY1)]),
   ([(cR r, false), (cT q r u, true), (cQ q, true)], .out 0 [(Q, .int .u64, lessQ q)]),
   ([(cR r, true), (cT q r u, true), (cQ q, true)], .next [(q, .int .u64, lessQ q), (r, .int .u64, .bin .add .u64 (.ivar .u64 r) eY1)]),
   ([(cT q r u, false), (cQ q, true)], .out 0 [(Q, .int .u64, .ivar .u64 q)])]
theorem run_D1 (r : Nat → Value) : runD1 r = some (MD 4 5 6 eU1) := by kernel_rfl
theorem run_D2 (r : Nat → Value) : runD2 r = some (MD 7 8 9 eU0) := by kernel_rfl

open Go.Halves in
theorem rounds_D {ρ : Int × Int → Nat → Value} {DD : LoopD} {y1 y0 U u : Int} (h : Ok y1 y0 U u) {q r Q : Nat} {eu : SE}
    (hq : ∀ x : Int × Int, 0 ≤ x.1 → x.1 ≤ 4294967297 → (SE.ivar .u64 q).num (ρ x) = x.1) (hr : ∀ x : Int × Int, 0 ≤ x.2 → x.2 < 4294967296 → (SE.ivar .u64 r).num (ρ x) = x.2) (hQ : ∀ x, (SE.ivar .u64 Q).num (ρ x) = quot y1 y0 U u)
    (h1 : ∀ x, eY1.num (ρ x) = y1) (h0 : ∀ x, eY0.num (ρ x) = y0) (hu : ∀ x, eu.num (ρ x) = u) (hS : ∀ x y n, SD n = true → ρ x n = ρ y n) :
    ∀ x : Int × Int, Trial y1 y0 U u x.1 x.2 → ∀ m, m ∈ MD q r Q eu → m.1.holds (ρ x) → SmOk SD ρ (fun x => Trial y1 y0 U u x.1 x.2) (fun x => (x.1 - quot y1 y0 U u).toNat) DD (fun _ => 0) x m.2 := by
  intro x t
  have g0 := quot_nonneg h
  have tge := t.ge
  have tle := t.le
  have trl := t.rl
  have trh := t.rh
  have eq := hq x (by omega) tle
  have er := hr x trl trh
  have y1l := h.y1l; have y1h := h.y1h; have y0l := h.y0l; have y0h := h.y0h; have ul := h.ul; have uh := h.uh
  have er1 : (SE.bin .add .u64 (.ivar .u64 r) eY1).num (ρ x) = x.2 + y1 := by rw [n_add, er, h1, wid_u64 _ (by omega) (by omega)]
  have eq1 : 1 ≤ x.1 → (lessQ q).num (ρ x) = x.1 - 1 := fun hx => by unfold lessQ; rw [n_sub, eq, n_int, wid_u64 _ (by omega) (by omega)]
  have tR : ∀ b, ((cR r).truth (ρ x) = b) = (if b then x.2 + y1 < 4294967296 else 4294967296 ≤ x.2 + y1) := fun b => by unfold cR; rw [t_lss, er1, n_int]
  have tQ : ∀ b, ((cQ q).truth (ρ x) = b) = (if b then x.1 < 4294967296 else 4294967296 ≤ x.1) := fun b => by unfold cQ; rw [t_lss, eq, n_int]
  have tT : x.1 < 4294967296 → ∀ b, ((cT q r eu).truth (ρ x) = b) = (if b then 4294967296 * x.2 + u < x.1 * y0 else x.1 * y0 ≤ 4294967296 * x.2 + u) := fun hx b => by
    unfold cT
    have m1 : 0 ≤ x.1 * y0 := Int.mul_nonneg (by omega) y0l
    have m2 : x.1 * y0 ≤ 4294967295 * y0 := Int.mul_le_mul_of_nonneg_right (by omega) y0l
    rw [t_lss, n_add, n_mul, n_mul, er, eq, n_int, hu, h0, wid_u64 (x.2 * 4294967296) (by omega) (by omega), wid_u64 (_ + u) (by omega) (by omega), wid_u64 (x.1 * y0) m1 (by omega), Int.mul_comm x.2]
  have next : x.1 > quot y1 y0 U u → x.2 + y1 < 4294967296 → SmOk SD ρ (fun x => Trial y1 y0 U u x.1 x.2) (fun x => (x.1 - quot y1 y0 U u).toNat) DD (fun _ => 0) x (.next [(q, .int .u64, lessQ q), (r, .int .u64, .bin .add .u64 (.ivar .u64 r) eY1)]) := by
    intro g1 g2
    have tn := t.next h g1 g2
    refine ⟨(x.1 - 1, x.2 + y1), tn, (by show (x.1 - 1 - _).toNat < (x.1 - _).toNat; omega), hS _ _, ?_, rfl⟩
    unfold UpdOk
    rw [all_cons, all_cons]
    exact ⟨upd_F (eq1 (by omega)) (hq (x.1 - 1, x.2 + y1) (by show 0 ≤ x.1 - 1; omega) (by show x.1 - 1 ≤ _; omega)), upd_F er1 (hr (x.1 - 1, x.2 + y1) (by show 0 ≤ x.2 + y1; omega) g2), fun _ h => by simp at h⟩
  have last : x.1 > quot y1 y0 U u → 4294967296 ≤ x.2 + y1 → SmOk SD ρ (fun x => Trial y1 y0 U u x.1 x.2) (fun x => (x.1 - quot y1 y0 U u).toNat) DD (fun _ => 0) x (.out 0 [(Q, .int .u64, lessQ q)]) := by
    intro g1 g2
    have tn := t.last h g1 (by omega)
    refine ⟨rfl, ?_⟩
    unfold UpdOk
    rw [all_cons]
    exact ⟨upd_F (by rw [eq1 (by omega), tn]) (hQ x), fun _ h => by simp at h⟩
  unfold MD
  simp only [all_cons, all_nil, h_cons, h_nil, tR, tQ, and_true, reduceIte, Bool.false_eq_true, if_false]
  refine ⟨?_, ?_, ?_, ?_, ?_⟩
  · rintro ⟨g1, g2⟩; exact last (t.big h g2) g1
  · rintro ⟨g1, g2⟩; exact next (t.big h g2) g1
  · rintro ⟨g1, g3, g2⟩
    rw [tT g2, if_pos rfl] at g3
    exact last ((gt_iff h t.sum).1 g3) g1
  · rintro ⟨g1, g3, g2⟩
    rw [tT g2, if_pos rfl] at g3
    exact next ((gt_iff h t.sum).1 g3) g1
  · rintro ⟨g3, g2⟩
    rw [tT g2, if_neg (by simp)] at g3
    refine ⟨rfl, ?_⟩
    unfold UpdOk
    rw [all_cons]
    exact ⟨upd_F (by rw [eq, t.done h (by omega)]) (hQ x), fun _ h => by simp at h⟩
end
end Go.Proofs.YtdblaloadklcfabDoor
