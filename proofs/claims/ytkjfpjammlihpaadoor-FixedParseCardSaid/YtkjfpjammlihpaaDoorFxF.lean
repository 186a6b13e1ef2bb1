/- The reference's FromRatio: the loop of the long division, by induction. -/
import Derived.Test.YtkjfpjammlihpaaDoorSxP
import Derived.Test.YtkjfpjammlihpaaDoorFxC
set_option linter.unusedVariables false
set_option linter.unusedSimpArgs false
namespace Go.Proofs.YtkjfpjammlihpaaDoor
open Go.Sx Go.ChangeShapes Go.WideShapes Go.ChangeAt Go.RowKit
noncomputable section

def uv (n : Nat) : V := .sym (.int .u64) (.ivar .u64 n)
def iv (n : Nat) : V := .sym (.int .i64) (.ivar .i64 n)
def eAbsA : Entry := { f := 35, args := [iv 0], res := uv 2 }
def eAbsB : Entry := { f := 35, args := [iv 1], res := uv 3, facts := [(.cmp .eql (.ivar .u64 3) (.int .u64 0), false)] }
def pcF : PC := addPC (.cmp .eql (.ivar .i64 1) (.int .i64 0)) false []
def tbF : Tb := { tb with func := fun f => if Nat.beq f 21 || Nat.beq f 38 then tb.func f else none }
theorem tbF_func {f : Nat} {fn : Func} (h : tbF.func f = some fn) : (f = 21 ∨ f = 38) ∧ tb.func f = some fn := by
  have h : (if Nat.beq f 21 || Nat.beq f 38 then tb.func f else none) = some fn := h
  split at h
  · rename_i hf
    rw [Bool.or_eq_true] at hf
    exact ⟨hf.imp Nat.eq_of_beq_eq_true Nat.eq_of_beq_eq_true, h⟩
  · exact absurd h (by simp)
theorem tbF_ok : tbF.Ok Tryd.prog := ⟨fun f fn h => tb_ok.func _ _ (tbF_func h).2, tb_ok.desc, tb_ok.info, tb_ok.mixed⟩
theorem tbF_wf : tbF.Wf := fun f fn c h1 h2 => tb_wf _ _ _ (tbF_func h1).2 h2

def mkE (l : List (Nat × V)) : Env := l.foldl (fun e x => e.set x.1 x.2) .leaf
def tops (l : List Nat) : List (Nat × V) := l.map fun t => (t, .top)
def restF : List (Nat × V) := [(0, iv 0), (1, iv 1), (4, .val (.int .i32 0)), (5, .val (.int .i64 0)), (6, uv 2), (7, uv 3)] ++ tops ((List.range 45).map fun j => 11 + j)
def hdF : St := { env := mkE (restF ++ [(8, uv 4), (9, uv 5), (10, iv 6)]), h := H0 }
def exF : Env := mkE (restF ++ [(8, uv 7), (9, uv 8), (10, .top)])
def DF : LoopD := { hd := hdF, ts := [8, 9, 10], outs := [(.exit 0, exF, [8, 9])] }
def SF (n : Nat) : Bool := Nat.ble n 3 || (Nat.beq n 7 || Nat.beq n 8)
/-- The loop's body. -/
def bodyF : Code := match (tb.func 21).bind fun fn => fn.body with
  | some c => (loopsOf c).headD .skip
  | none => .skip
def spF : Sp := spOf [eAbsA, eAbsB]
def runFr (r : Nat → Value) := sums SF DF (execF kn0 (callF kn0 Tryd.prog (tbF.atS r spF noLp) 300 300) Tryd.prog (tbF.atS r spF noLp) 300 (.code bodyF) [] DF.hd)

/-! ### Long division -/
def ab (a : Int) : Int := if a < 0 then -a else a
def pw : Nat → Int
  | 0 => 1
  | k + 1 => 2 * pw k
theorem pw_le {k : Nat} (h : k ≤ 8) : pw k ≤ 256 := by
  have : ∀ j : Fin 9, pw j.1 ≤ 256 := by decide
  exact this ⟨k, by omega⟩
def qF (x y : Int) (k : Nat) : Int := x * pw k / y
def rF (x y : Int) (k : Nat) : Int := x * pw k % y
theorem qr_step {x y : Int} (hy : 0 < y) (k : Nat) : (y ≤ 2 * rF x y k → qF x y (k + 1) = 2 * qF x y k + 1 ∧ rF x y (k + 1) = 2 * rF x y k - y) ∧ (2 * rF x y k < y → qF x y (k + 1) = 2 * qF x y k ∧ rF x y (k + 1) = 2 * rF x y k) := by
  have h1 := Int.mul_ediv_add_emod (x * pw k) y
  have h2 := Int.emod_nonneg (x * pw k) (b := y) (by omega)
  have h3 := Int.emod_lt_of_pos (x * pw k) hy
  have e : x * pw (k + 1) = 2 * (x * pw k) := by
    show x * (2 * pw k) = _
    rw [← Int.mul_assoc, Int.mul_comm x 2, Int.mul_assoc]
  unfold qF rF
  rw [e]
  generalize x * pw k / y = q at h1 ⊢
  generalize x * pw k % y = r at h1 h2 h3 ⊢
  generalize x * pw k = m at h1 ⊢
  refine ⟨fun h => (Int.ediv_emod_unique hy).2 ⟨?_, by omega, by omega⟩, fun h => (Int.ediv_emod_unique hy).2 ⟨?_, by omega, by omega⟩⟩
  · have : y * (2 * q + 1) = 2 * (y * q) + y := by rw [Int.mul_add, Int.mul_one, ← Int.mul_assoc, Int.mul_comm y 2, Int.mul_assoc]
    omega
  · have : y * (2 * q) = 2 * (y * q) := by rw [← Int.mul_assoc, Int.mul_comm y 2, Int.mul_assoc]
    omega

/-- What is asked of the two numbers. -/
structure InF (a b : Int) : Prop where
  al : -9223372036854775808 ≤ a
  ah : a ≤ 9223372036854775807
  bl : -9223372036854775808 ≤ b
  bh : b ≤ 9223372036854775807
  b0 : b ≠ 0
theorem InF.abA {a b : Int} (h : InF a b) : 0 ≤ ab a ∧ ab a ≤ 9223372036854775808 := by have := h.al; have := h.ah; unfold ab; split <;> omega
theorem InF.abB {a b : Int} (h : InF a b) : 0 < ab b ∧ ab b ≤ 9223372036854775808 := by have := h.bl; have := h.bh; have := h.b0; unfold ab; split <;> omega

def rhoF (a b : Int) (k : Nat) (n : Nat) : Value :=
  match n with
  | 0 => .int .i64 a
  | 1 => .int .i64 b
  | 2 => .int .u64 (ab a)
  | 3 => .int .u64 (ab b)
  | 4 => .int .u64 (qF (ab a) (ab b) k)
  | 5 => .int .u64 (rF (ab a) (ab b) k)
  | 6 => .int .i64 k
  | 7 => .int .u64 (qF (ab a) (ab b) 8)
  | _ => .int .u64 (rF (ab a) (ab b) 8)
def InvF (a b : Int) (k : Nat) : Prop := k ≤ 8 ∧ qF (ab a) (ab b) k < 16777217 * pw k
theorem InvF.start {a b : Int} (hq : ab a / ab b ≤ 16777216) : InvF a b 0 := by
  refine ⟨by omega, ?_⟩
  show ab a * 1 / ab b < 16777217 * 1
  rw [Int.mul_one]
  omega
theorem InvF.q {a b : Int} {k : Nat} (hk : InvF a b k) : qF (ab a) (ab b) k ≤ 4294967551 := by
  have h1 := hk.2
  have h2 := pw_le hk.1
  omega
theorem nF6 {a b : Int} {k : Nat} (hk : k ≤ 8) : (SE.ivar .i64 6).num (rhoF a b k) = k := wid_i64 _ (by omega) (by omega)
section
variable {a b : Int} (h : InF a b)
include h
theorem rF_b (k : Nat) : 0 ≤ rF (ab a) (ab b) k ∧ rF (ab a) (ab b) k < ab b := ⟨Int.emod_nonneg _ (by have := h.abB; omega), Int.emod_lt_of_pos _ h.abB.1⟩
theorem qF_0 (k : Nat) : 0 ≤ qF (ab a) (ab b) k := by
  have : ∀ k, 0 ≤ pw k := fun k => by
    induction k with
    | zero => decide
    | succ k ih => show 0 ≤ 2 * pw k; omega
  exact Int.ediv_nonneg (Int.mul_nonneg h.abA.1 (this k)) (by have := h.abB; omega)
theorem InvF.next {k : Nat} (hk : InvF a b k) (h8 : k < 8) : InvF a b (k + 1) := by
  refine ⟨h8, ?_⟩
  have h1 := hk.2
  show _ < 16777217 * (2 * pw k)
  have h2 := qr_step (x := ab a) h.abB.1 k
  by_cases hc : ab b ≤ 2 * rF (ab a) (ab b) k
  · rw [(h2.1 hc).1]; omega
  · rw [(h2.2 (by omega)).1]; omega
theorem nF0 (k : Nat) : (SE.ivar .i64 0).num (rhoF a b k) = a := wid_i64 _ h.al h.ah
theorem nF1 (k : Nat) : (SE.ivar .i64 1).num (rhoF a b k) = b := wid_i64 _ h.bl h.bh
theorem nF2 (k : Nat) : (SE.ivar .u64 2).num (rhoF a b k) = ab a := wid_u64 _ h.abA.1 (by have := h.abA; omega)
theorem nF3 (k : Nat) : (SE.ivar .u64 3).num (rhoF a b k) = ab b := wid_u64 _ (by have := h.abB; omega) (by have := h.abB; omega)
theorem nF4 {k : Nat} (hk : InvF a b k) : (SE.ivar .u64 4).num (rhoF a b k) = qF (ab a) (ab b) k := wid_u64 _ (qF_0 h k) (by have := InvF.q hk; omega)
theorem nF5 (k : Nat) : (SE.ivar .u64 5).num (rhoF a b k) = rF (ab a) (ab b) k := wid_u64 _ (rF_b h k).1 (by have := (rF_b h k).2; have := h.abB; omega)
theorem nF8 (k : Nat) : (SE.ivar .u64 8).num (rhoF a b k) = rF (ab a) (ab b) 8 := wid_u64 _ (rF_b h 8).1 (by have := (rF_b h 8).2; have := h.abB; omega)
end

def MF : List (PC × Sm) :=
  [([(.cmp .lss (.bin .mul .u64 (.ivar .u64 5) (.int .u64 2)) (.ivar .u64 3), false), (.cmp .lss (.ivar .i64 6) (.int .i64 8), true)],
      .next [(4, .int .u64, .bin .add .u64 (.int .u64 1) (.bin .mul .u64 (.ivar .u64 4) (.int .u64 2))), (5, .int .u64, .bin .sub .u64 (.bin .mul .u64 (.ivar .u64 5) (.int .u64 2)) (.ivar .u64 3)), (6, .int .i64, .bin .add .i64 (.ivar .i64 6) (.int .i64 1))]),
   ([(.cmp .lss (.bin .mul .u64 (.ivar .u64 5) (.int .u64 2)) (.ivar .u64 3), true), (.cmp .lss (.ivar .i64 6) (.int .i64 8), true)],
      .next [(4, .int .u64, .bin .mul .u64 (.ivar .u64 4) (.int .u64 2)), (5, .int .u64, .bin .mul .u64 (.ivar .u64 5) (.int .u64 2)), (6, .int .i64, .bin .add .i64 (.ivar .i64 6) (.int .i64 1))]),
   ([(.cmp .lss (.ivar .i64 6) (.int .i64 8), false)], .out 0 [(7, .int .u64, .ivar .u64 4), (8, .int .u64, .ivar .u64 5)])]
theorem run_F (r : Nat → Value) : runFr r = some MF := by kernel_rfl
theorem body_F : (match (tb.func 21).bind fun fn => fn.body with | some c => loopsOf c | none => []) = [bodyF] := by kernel_rfl

theorem upd_F {ρ ρ' : Nat → Value} {k : IntKind} {e : SE} {n : Nat} {x : Int} (h1 : e.num ρ = x) (h2 : (SE.ivar k n).num ρ' = x) : e.val ρ (.int k) = (varE n (.int k)).val ρ' (.int k) := by
  show Value.int k (e.num ρ) = Value.int k ((SE.ivar k n).num ρ')
  rw [h1, h2]
theorem rounds_F {a b : Int} (h : InF a b) {k : Nat} (hk : InvF a b k) : ∀ q, q ∈ MF → q.1.holds (rhoF a b k) → SmOk SF (rhoF a b) (InvF a b) (fun k => 8 - k) DF (fun _ => 0) k q.2 := by
  have h4 := InvF.q hk
  have h40 := qF_0 h k
  have h5 := rF_b h k
  have hb := h.abB
  have hst := qr_step (x := ab a) h.abB.1 k
  have e2 : IntKind.wrap .u64 (rF (ab a) (ab b) k * 2) = rF (ab a) (ab b) k * 2 := wid_u64 _ (by omega) (by omega)
  unfold MF
  simp only [all_cons, all_nil, h_cons, h_nil, t_lss, n_mul, n_int, nF3 h, nF5 h, nF6 hk.1, e2, and_true, reduceIte, Bool.false_eq_true, if_false]
  have hS : ∀ n, SF n = true → rhoF a b k n = rhoF a b (k + 1) n := by
    intro n hn
    have hn : (Nat.ble n 3 || (Nat.beq n 7 || Nat.beq n 8)) = true := hn
    match n, hn with
    | 0, _ => rfl
    | 1, _ => rfl
    | 2, _ => rfl
    | 3, _ => rfl
    | 7, _ => rfl
    | 8, _ => rfl
  refine ⟨?_, ?_, ?_⟩
  · rintro ⟨hc, h8⟩
    have hn := InvF.next h hk (by omega)
    obtain ⟨s1, s2⟩ := hst.1 (by omega)
    refine ⟨k + 1, hn, (by show 8 - (k + 1) < 8 - k; omega), hS, ?_, rfl⟩
    unfold UpdOk
    rw [all_cons, all_cons, all_cons]
    refine ⟨upd_F ?_ (nF4 h hn), upd_F ?_ (nF5 h _), upd_F ?_ (nF6 (by omega)), fun _ h => by simp at h⟩
    · rw [n_add, n_mul, n_int, n_int, nF4 h hk, wid_u64 (_ * 2) (by omega) (by omega), wid_u64 _ (by omega) (by omega)]; omega
    · rw [n_sub, n_mul, n_int, nF5 h, nF3 h, e2, wid_u64 _ (by omega) (by omega)]; omega
    · rw [n_add, n_int, nF6 hk.1, wid_i64 _ (by omega) (by omega)]; omega
  · rintro ⟨hc, h8⟩
    have hn := InvF.next h hk (by omega)
    obtain ⟨s1, s2⟩ := hst.2 (by omega)
    refine ⟨k + 1, hn, (by show 8 - (k + 1) < 8 - k; omega), hS, ?_, rfl⟩
    unfold UpdOk
    rw [all_cons, all_cons, all_cons]
    refine ⟨upd_F ?_ (nF4 h hn), upd_F ?_ (nF5 h _), upd_F ?_ (nF6 (by omega)), fun _ h => by simp at h⟩
    · rw [n_mul, n_int, nF4 h hk, wid_u64 _ (by omega) (by omega)]; omega
    · rw [n_mul, n_int, nF5 h, e2]; omega
    · rw [n_add, n_int, nF6 hk.1, wid_i64 _ (by omega) (by omega)]; omega
  · intro h8
    obtain rfl : k = 8 := by have := hk.1; omega
    refine ⟨rfl, ?_⟩
    unfold UpdOk
    rw [all_cons, all_cons]
    exact ⟨rfl, rfl, fun _ h => by simp at h⟩

theorem known35 : ∃ fn, Tryd.prog.funcs[35]? = some fn ∧ (fn.name == "runtime.NumGoroutine") = false ∧ fn.body.isNone = false := ⟨Tryd.f35, Tryd.func35, by kernel_rfl, by kernel_rfl⟩
def absM : List (PC × Bool × List (STy × SE)) :=
  [([(.cmp .lss (.ivar .i64 0) (.int .i64 0), true)], false, [(.int .u64, .bin .sub .u64 (.int .u64 0) (.conv .u64 (.ivar .i64 0)))]),
   ([(.cmp .lss (.ivar .i64 0) (.int .i64 0), false)], false, [(.int .u64, .conv .u64 (.ivar .i64 0))])]
theorem run_abs (f : Nat) (hf : f = 35 ∨ f = 28) (r : Nat → Value) : outsF (callF kn0 Tryd.prog (tb.atS r noSp noLp) 300 300 [] f [iv 0] H0) = some absM := by
  rcases hf with rfl | rfl <;> kernel_rfl
/-- The absolute value. -/
theorem abs_fnc {f : Nat} (hf : f = 35 ∨ f = 28) {a : Int} (h1 : -9223372036854775808 ≤ a) (h2 : a ≤ 9223372036854775807) : Fnc Tryd.prog tb.glob f #[.int .i64 a] (.int .u64 (ab a)) := by
  have e0 : (SE.ivar .i64 0).num (fun _ => .int .i64 a) = a := wid_i64 _ h1 h2
  have := fnc_run tb_ok tb_wf (base_ok (fun _ => .int .i64 a)) (kn := kn0) (n0 := 300) (n1 := 300) kn_none (pc := []) (PC.holds_nil _) (f := f) (args := [iv 0]) (by rfl) (run_abs f hf _) (res := .int .u64 (ab a)) (by
    unfold absM
    simp only [all_cons, all_nil, h_cons, h_nil, t_lss, n_int, e0, and_true, reduceIte, Bool.false_eq_true, if_false]
    refine ⟨fun hc => ?_, fun hc => ?_⟩
    · show Value.int .u64 ((SE.bin .sub .u64 (.int .u64 0) (.conv .u64 (.ivar .i64 0))).num _) = _
      rw [n_sub, n_conv, n_int, e0, w_u64, w_u64]
      unfold ab
      rw [if_pos hc]
      congr 1
      omega
    · show Value.int .u64 ((SE.conv .u64 (.ivar .i64 0)).num _) = _
      rw [n_conv, e0, w_u64]
      unfold ab
      rw [if_neg (by omega)]
      congr 1
      omega)
  have e : ([iv 0].map (V.at1 (fun _ => Value.int .i64 a))).toArray = #[.int .i64 a] := by
    show #[Value.int .i64 ((SE.ivar .i64 0).num (fun _ => .int .i64 a))] = _
    rw [e0]
  rwa [e] at this

theorem entries_F {a b : Int} (h : InF a b) (k : Nat) : ∀ e, e ∈ [eAbsA, eAbsB] → EntryOk Tryd.prog tb.glob (rhoF a b k) e := by
  rw [all_cons, all_cons]
  refine ⟨⟨known35, rfl, rfl, fun q hq => by simp [eAbsA] at hq, ?_⟩, ⟨known35, rfl, rfl, ?_, ?_⟩, fun _ h => by simp at h⟩
  · have := abs_fnc (.inl rfl) h.al h.ah
    show Fnc _ _ 35 #[Value.int .i64 ((SE.ivar .i64 0).num (rhoF a b k))] (Value.int .u64 ((SE.ivar .u64 2).num (rhoF a b k)))
    rw [nF0 h, nF2 h]
    exact this
  · intro q hq
    rw [List.mem_singleton.1 hq, t_eql, n_int, nF3 h]
    simp only [Bool.false_eq_true, if_false]
    have := h.abB
    omega
  · have := abs_fnc (.inl rfl) h.bl h.bh
    show Fnc _ _ 35 #[Value.int .i64 ((SE.ivar .i64 1).num (rhoF a b k))] (Value.int .u64 ((SE.ivar .u64 3).num (rhoF a b k)))
    rw [nF1 h, nF3 h]
    exact this
theorem spec_F {a b : Int} (h : InF a b) (k : Nat) : SpecOk Tryd.prog (tbF.atS (rhoF a b k) spF noLp) := spOf_ok (tb := tbF) (entries_F h k)

theorem fn21 : ∃ fn c, tb.func 21 = some fn ∧ fn.body = some c ∧ fn.ntmps = 56 ∧ loopsOf c = [bodyF] := ⟨Tryd.f21, _, by kernel_rfl, rfl, by kernel_rfl, by kernel_rfl⟩
theorem fn38 : ∃ fn c, tb.func 38 = some fn ∧ fn.body = some c ∧ loopsOf c = [] := ⟨Tryd.f38, _, by kernel_rfl, rfl, by kernel_rfl⟩
theorem code_F : codeOk 56 bodyF = true := by kernel_rfl
theorem loops_F : loopsOf bodyF = [] := by kernel_rfl
theorem known_F {a b : Int} (h : InF a b) {k : Nat} (hk : InvF a b k) : SoundAt Tryd.prog (tbF.atS (rhoF a b k) spF noLp) 56 (.code (.loop bodyF)) hdF [(.exit 0, { env := exF, h := hdF.h })] :=
  loop_known (D := DF) (out := fun _ => 0) tbF_ok tbF_wf (fun x => spec_F h x) (by omega) code_F (fun x d hd => by rw [loops_F] at hd; simp at hd) (by kernel_rfl) (by kernel_rfl) (by kernel_rfl)
    (kn := kn0) (n0 := 300) (n1 := 300) (n2 := 300) (fun x => kn_none) (pc := []) (fun x hx => PC.holds_nil _) (fun r => run_F r) (fun x hx => rounds_F h hx) (fun x hx => by show 0 < 1; omega) k hk

/-- What the loop starts with. -/
def startF : List (Nat × STy × SE) := [(4, .int .u64, .bin .quo .u64 (.ivar .u64 2) (.ivar .u64 3)), (5, .int .u64, .bin .rem .u64 (.ivar .u64 2) (.ivar .u64 3)), (6, .int .i64, .int .i64 0)]
def updIs (l : List (Nat × STy × SE)) : Option (List (Nat × STy × SE)) → Bool
  | some m => sameL (fun x y => Nat.beq x.1 y.1 && (x.2.1 == y.2.1 && x.2.2.beq y.2.2)) m l
  | none => false
theorem updIs_eq {l : List (Nat × STy × SE)} {m : Option (List (Nat × STy × SE))} (h : updIs l m = true) : m = some l := by
  unfold updIs at h
  split at h
  · rw [sameL_eq (fun x y hxy => by
      simp only [Bool.and_eq_true] at hxy
      obtain ⟨x1, x2, x3⟩ := x
      obtain ⟨y1, y2, y3⟩ := y
      rw [show x1 = y1 from Nat.eq_of_beq_eq_true hxy.1, show x2 = y2 from eq_of_beq hxy.2.1, show x3 = y3 from SE.beq_eq hxy.2.2]) h]
  · exact absurd h (by simp)
def lpF : Lp := fun k st => if Nat.beq k 576 && (sameH st.h H0 && (leTr SF st.env (topT hdF.env [8, 9, 10]) && (updIs startF (updOf st.env hdF.env [8, 9, 10]) && !inRound st.env))) then some (.leaf (.exit 0) exF) else none
theorem specL_F {a b : Int} (h : InF a b) (hq : ab a / ab b ≤ 16777216) : SpecOk Tryd.prog (tbF.atS (rhoF a b 0) spF lpF) where
  fns := spOf_fns (tb := tbF) (entries_F h 0)
  loops f fn c hfn hc d hd := by
    obtain ⟨rfl | rfl, hfn⟩ := tbF_func (show tbF.func f = some fn from hfn)
    · obtain ⟨fn', c', h1, h2, h3, h4⟩ := fn21
      obtain rfl : fn = fn' := Option.some.inj (hfn.symm.trans h1)
      obtain rfl : c = c' := Option.some.inj (hc.symm.trans h2)
      rw [h4, List.mem_singleton] at hd
      subst hd
      intro st t ht
      have ht : lpF (loopK bodyF) st = some t := ht
      unfold lpF at ht
      split at ht
      · rename_i hcd
        simp only [Bool.and_eq_true, Bool.not_eq_true'] at hcd
        obtain ⟨_, hh, hle, hu, hin⟩ := hcd
        cases ht
        have hh := sameH_eq hh
        have hi := InvF.start hq
        have he : EnvLe (rhoF a b 0) st.env (rhoF a b 0) hdF.env := by
          refine env_le (fun _ _ => rfl) hle (updIs_eq hu) ?_
          unfold UpdOk startF
          rw [all_cons, all_cons, all_cons]
          have hb := h.abB
          have ha := h.abA
          refine ⟨upd_F ?_ (nF4 h hi), upd_F ?_ (nF5 h _), upd_F ?_ (nF6 (by omega)), fun _ h => by simp at h⟩
          · rw [n_quo, nF2 h, nF3 h, if_neg (by omega), Int.tdiv_eq_ediv_of_nonneg ha.1]
            have h1 : 0 ≤ ab a / ab b := Int.ediv_nonneg ha.1 (by omega)
            rw [wid_u64 _ h1 (by omega)]
            show _ = ab a * 1 / ab b
            rw [Int.mul_one]
          · rw [n_rem, nF2 h, nF3 h, if_neg (by omega), Int.tmod_eq_emod_of_nonneg ha.1]
            show _ = ab a * 1 % ab b
            rw [Int.mul_one]
          · rfl
        have hs2 := SoundAt.weaken (tb := tbF.atS (rhoF a b 0) spF noLp) (tb' := tbF.atS (rhoF a b 0) spF lpF) rfl rfl hin (hd := hdF) hh he (known_F h hi)
        rw [h3]
        rw [show ({ env := exF, h := hdF.h } : St) = { env := exF, h := st.h } from by rw [hh]; rfl] at hs2
        exact hs2
      · exact absurd ht (by simp)
    · obtain ⟨fn', c', h1, h2, h4⟩ := fn38
      obtain rfl : fn = fn' := Option.some.inj (hfn.symm.trans h1)
      obtain rfl : c = c' := Option.some.inj (hc.symm.trans h2)
      rw [h4] at hd
      simp at hd
def pcF2 (t : Bool) : PC := addPC (.cmp .gtr (.bin .quo .u64 (.ivar .u64 2) (.ivar .u64 3)) (.int .u64 16777216)) t pcF
def runFa (r : Nat → Value) := outsF (callF kn0 Tryd.prog (tbF.atS r spF noLp) 300 300 (pcF2 true) 21 [iv 0, iv 1] H0)
def runFb (r : Nat → Value) := outsF (callF kn0 Tryd.prog (tbF.atS r spF lpF) 300 300 (pcF2 false) 21 [iv 0, iv 1] H0)
end
end Go.Proofs.YtkjfpjammlihpaaDoor
