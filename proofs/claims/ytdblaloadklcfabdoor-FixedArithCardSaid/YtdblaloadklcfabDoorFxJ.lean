/- math/bits.Div64, as a contract. -/
import Derived.Test.YtdblaloadklcfabDoorFxI
set_option linter.unusedVariables false
set_option linter.unusedSimpArgs false
namespace Go.Proofs.YtdblaloadklcfabDoor
open Go.Sx Go.ChangeShapes Go.WideShapes Go.ChangeAt Go.RowKit
noncomputable section

def rhoD (hi lo d : Int) (x z : Int × Int) (n : Nat) : Value :=
  match n with
  | 0 => .int .u64 hi
  | 1 => .int .u64 lo
  | 2 => .int .u64 d
  | 3 => .int .i64 (lz d)
  | 4 => .int .u64 x.1
  | 5 => .int .u64 x.2
  | 6 => .int .u64 (vQ1 hi lo d)
  | 7 => .int .u64 z.1
  | 8 => .int .u64 z.2
  | _ => .int .u64 (vQ0 hi lo d)
def x1 (hi lo d : Int) : Int × Int := (vU hi lo d / (vY d / 4294967296), vU hi lo d % (vY d / 4294967296))
def x0 (hi lo d : Int) : Int × Int := (vR hi lo d / (vY d / 4294967296), vR hi lo d % (vY d / 4294967296))

section
variable {hi lo d : Int} (h : InD hi lo d) (x z : Int × Int)
include h
theorem nD0 : (SE.ivar .u64 0).num (rhoD hi lo d x z) = hi := wid_u64 _ (by have := h.hi0; omega) (by have := h.hid; have := h.d64; omega)
theorem nD1 : (SE.ivar .u64 1).num (rhoD hi lo d x z) = lo := wid_u64 _ h.lo0 (by have := h.lo64; omega)
theorem nD2 : (SE.ivar .u64 2).num (rhoD hi lo d x z) = d := wid_u64 _ (by have := h.hi0; have := h.hid; omega) (by have := h.d64; omega)
theorem nD3 : (SE.ivar .i64 3).num (rhoD hi lo d x z) = lz d := wid_i64 _ (by omega) (by have := lz63 h; omega)
theorem nS : eS.num (rhoD hi lo d x z) = lz d := by
  unfold eS
  rw [n_conv, nD3 h, wid_u64 _ (by omega) (by have := lz63 h; omega)]
theorem nY : eY.num (rhoD hi lo d x z) = vY d := by
  have hb := y_bounds h
  unfold eY
  rw [n_shlv (nS h x z) (by have := lz63 h; show _ ≤ 64; omega), nD2 h]
  exact wid_u64 _ (by show 0 ≤ vY d; omega) (by show vY d ≤ _; omega)
theorem nY1 : eY1.num (rhoD hi lo d x z) = vY d / 4294967296 := by
  unfold eY1
  rw [n_shr, nY h]
  rfl
theorem nY0 : eY0.num (rhoD hi lo d x z) = vY d % 4294967296 := by
  unfold eY0
  rw [n_and, nY h, m_32]
theorem nL : eL.num (rhoD hi lo d x z) = vL lo d := by
  unfold eL
  rw [n_shlv (nS h x z) (by have := lz63 h; show _ ≤ 64; omega), nD1 h, w_u64]
  rfl
theorem nU1 : eU1.num (rhoD hi lo d x z) = vL lo d / 4294967296 := by
  unfold eU1
  rw [n_shr, nL h]
  rfl
theorem nU0 : eU0.num (rhoD hi lo d x z) = vL lo d % 4294967296 := by
  unfold eU0
  rw [n_and, nL h, m_32]
theorem nU : eU.num (rhoD hi lo d x z) = vU hi lo d := by
  have hb := u_bounds h
  have hy := y_bounds h
  have hl := lo_small h
  have h63 := lz63 h
  have hp := p_pos d
  have h64 : (SE.bin .sub .u64 (.int .u64 64) eS).num (rhoD hi lo d x z) = ((64 - lz d : Nat) : Int) := by
    rw [n_sub, n_int, nS h, wid_u64 _ (by omega) (by omega)]
    omega
  have hh : 0 ≤ hi * 2 ^ lz d := Int.mul_nonneg (by have := h.hi0; omega) (by omega)
  have hv : vU hi lo d = hi * 2 ^ lz d + lo * 2 ^ lz d / 18446744073709551616 := rfl
  unfold eU
  rw [n_or, n_shlv (nS h x z) (by show _ ≤ 64; omega), n_shrv h64 (by show _ ≤ 64; omega), nD0 h, nD1 h, wid_u64 _ hh (by omega), ← lo_cut (by omega)]
  have e1 : hi * 2 ^ lz d = ((hi.toNat * 2 ^ lz d : Nat) : Int) := by
    have h0 := h.hi0
    push_cast
    rw [Int.toNat_of_nonneg (by omega)]
  have e2 : lo * 2 ^ lz d / 18446744073709551616 = (((lo * 2 ^ lz d / 18446744073709551616).toNat : Nat) : Int) := by omega
  have e3 : ((2 ^ lz d : Nat) : Int) = 2 ^ lz d := by push_cast; rfl
  rw [e1, e2, or_add (by omega) (by omega)]
  omega
theorem q1_b : 0 ≤ vQ1 hi lo d ∧ vQ1 hi lo d < 4294967296 := ⟨Go.Halves.quot_nonneg (ok1 h), Go.Halves.quot_lt (ok1 h)⟩
theorem q0_b : 0 ≤ vQ0 hi lo d ∧ vQ0 hi lo d < 4294967296 := ⟨Go.Halves.quot_nonneg (ok0 h), Go.Halves.quot_lt (ok0 h)⟩
theorem nD6 : (SE.ivar .u64 6).num (rhoD hi lo d x z) = vQ1 hi lo d := wid_u64 _ (q1_b h).1 (by have := (q1_b h).2; omega)
theorem nD9 : (SE.ivar .u64 9).num (rhoD hi lo d x z) = vQ0 hi lo d := wid_u64 _ (q0_b h).1 (by have := (q0_b h).2; omega)
theorem r_b : 0 ≤ vR hi lo d ∧ vR hi lo d < vY d := by
  have h4 := Go.Halves.rest (ok1 h)
  have e : vR hi lo d = vU hi lo d * 4294967296 + vL lo d / 4294967296 - Go.Halves.quot (vY d / 4294967296) (vY d % 4294967296) (vU hi lo d) (vL lo d / 4294967296) * (vY d / 4294967296 * 4294967296 + vY d % 4294967296) := rfl
  rw [← e] at h4
  omega
theorem nR : eR.num (rhoD hi lo d x z) = vR hi lo d := by
  have hr := r_b h
  have hy := y_bounds h
  have e : eR = .bin .sub .u64 (.bin .add .u64 eU1 (.bin .mul .u64 (.int .u64 4294967296) eU)) (.bin .mul .u64 (.ivar .u64 6) eY) := by rfl
  rw [e, n_sub, n_add, n_mul, n_mul, n_int, nU1 h, nU h, nD6 h, nY h, w_u64, w_u64, w_u64, w_u64]
  have e2 : vR hi lo d = vU hi lo d * 4294967296 + vL lo d / 4294967296 - vQ1 hi lo d * vY d := by
    unfold vR
    rw [show vY d / 4294967296 * 4294967296 + vY d % 4294967296 = vY d by omega]
  generalize vQ1 hi lo d * vY d = m at e2 ⊢
  omega
end

theorem known51 : ∃ fn, Tryd.prog.funcs[51]? = some fn ∧ (fn.name == "runtime.NumGoroutine") = false ∧ fn.body.isNone = false := ⟨Tryd.f51, Tryd.func51, by kernel_rfl, by kernel_rfl⟩
theorem lz_fnc {d : Int} (h1 : 0 < d) (h2 : d < 18446744073709551616) : Fnc Tryd.prog tb.glob 51 #[.int .u64 d] (.int .i64 (lz d)) := by
  intro N φ γ H w _ _
  refine (lz_calls d w (by omega) (by omega)).mono ?_
  rintro e w' ⟨rfl, rfl⟩
  exact ⟨by rw [(lz_spec h1 h2).1], Below.refl _ _⟩
theorem entries_D {hi lo d : Int} (h : InD hi lo d) (x z : Int × Int) : ∀ e, e ∈ [eLz] → EntryOk Tryd.prog tb.glob (rhoD hi lo d x z) e := by
  rw [all_cons]
  refine ⟨⟨known51, rfl, rfl, ?_, ?_⟩, fun _ h => by simp at h⟩
  · intro q hq
    rw [List.mem_singleton.1 hq, t_eql, n_int, nY1 h]
    simp only [Bool.false_eq_true, if_false]
    have := y_bounds h
    omega
  · show Fnc _ _ 51 #[Value.int .u64 ((SE.ivar .u64 2).num (rhoD hi lo d x z))] (Value.int .i64 ((SE.ivar .i64 3).num (rhoD hi lo d x z)))
    rw [nD2 h, nD3 h]
    exact lz_fnc (by have := h.hi0; have := h.hid; omega) h.d64
theorem spec_D {hi lo d : Int} (h : InD hi lo d) (x z : Int × Int) : SpecOk Tryd.prog (tbD.atS (rhoD hi lo d x z) spD noLp) := spOf_ok (tb := tbD) (entries_D h x z)

theorem fn44 : ∃ fn c, tb.func 44 = some fn ∧ fn.body = some c ∧ fn.ntmps = 135 ∧ loopsOf c = [bodyD1, bodyD2] := ⟨Tryd.f44, _, by kernel_rfl, rfl, by kernel_rfl, by kernel_rfl⟩
theorem code_D1 : codeOk 135 bodyD1 = true := by kernel_rfl
theorem code_D2 : codeOk 135 bodyD2 = true := by kernel_rfl
theorem loops_D1 : loopsOf bodyD1 = [] := by kernel_rfl
theorem loops_D2 : loopsOf bodyD2 = [] := by kernel_rfl
theorem same_D (hi lo d : Int) (x x' z z' : Int × Int) (n : Nat) (hn : SD n = true) : rhoD hi lo d x z n = rhoD hi lo d x' z' n := by
  have hn : (Nat.ble n 3 || (Nat.beq n 6 || Nat.beq n 9)) = true := hn
  match n, hn with
  | 0, _ => rfl
  | 1, _ => rfl
  | 2, _ => rfl
  | 3, _ => rfl
  | 6, _ => rfl
  | 9, _ => rfl
open Go.Halves in
theorem rounds_D1 {hi lo d : Int} (h : InD hi lo d) (z : Int × Int) : ∀ x : Int × Int, Trial (vY d / 4294967296) (vY d % 4294967296) (vU hi lo d) (vL lo d / 4294967296) x.1 x.2 → ∀ m, m ∈ MD 4 5 6 eU1 → m.1.holds ((fun x => rhoD hi lo d x z) x) →
    SmOk SD (fun x => rhoD hi lo d x z) (fun x => Trial (vY d / 4294967296) (vY d % 4294967296) (vU hi lo d) (vL lo d / 4294967296) x.1 x.2) (fun x => (x.1 - quot (vY d / 4294967296) (vY d % 4294967296) (vU hi lo d) (vL lo d / 4294967296)).toNat) DD1 (fun _ => 0) x m.2 :=
  rounds_D (ρ := fun x => rhoD hi lo d x z) (DD := DD1) (q := 4) (r := 5) (Q := 6) (eu := eU1) (ok1 h) (fun x h1 h2 => show IntKind.wrap .u64 x.1 = x.1 from wid_u64 _ h1 (by omega)) (fun x h1 h2 => show IntKind.wrap .u64 x.2 = x.2 from wid_u64 _ h1 (by omega))
    (fun x => nD6 h x z) (fun x => nY1 h x z) (fun x => nY0 h x z) (fun x => nU1 h x z) (fun x y n hn => same_D hi lo d x y z z n hn)
open Go.Halves in
set_option maxRecDepth 100000 in
theorem known_D1 {hi lo d : Int} (h : InD hi lo d) (z x : Int × Int) (hx : Trial (vY d / 4294967296) (vY d % 4294967296) (vU hi lo d) (vL lo d / 4294967296) x.1 x.2) : SoundAt Tryd.prog (tbD.atS (rhoD hi lo d x z) spD noLp) 135 (.code (.loop bodyD1)) hdD1 [(.exit 0, { env := exD1, h := hdD1.h })] :=
  loop_known (X := Int × Int) (ρ := fun x => rhoD hi lo d x z) (D := DD1) (out := fun _ => 0) (Inv := fun x => Trial (vY d / 4294967296) (vY d % 4294967296) (vU hi lo d) (vL lo d / 4294967296) x.1 x.2) tbD_ok tbD_wf (fun x => spec_D h x z) (by omega) code_D1 (fun x d hd => by rw [loops_D1] at hd; simp at hd) (by kernel_rfl) (by kernel_rfl) (by kernel_rfl)
    (kn := kn0) (n0 := 300) (n1 := 300) (n2 := 300) (fun x => kn_none) (pc := []) (fun x hx => PC.holds_nil _) (fun r => run_D1 r)
    (fun x hx => rounds_D1 h z x hx) (fun x hx => by show 0 < 1; omega) x hx
open Go.Halves in
theorem rounds_D2 {hi lo d : Int} (h : InD hi lo d) (z : Int × Int) : ∀ x : Int × Int, Trial (vY d / 4294967296) (vY d % 4294967296) (vR hi lo d) (vL lo d % 4294967296) x.1 x.2 → ∀ m, m ∈ MD 7 8 9 eU0 → m.1.holds ((fun x => rhoD hi lo d z x) x) →
    SmOk SD (fun x => rhoD hi lo d z x) (fun x => Trial (vY d / 4294967296) (vY d % 4294967296) (vR hi lo d) (vL lo d % 4294967296) x.1 x.2) (fun x => (x.1 - quot (vY d / 4294967296) (vY d % 4294967296) (vR hi lo d) (vL lo d % 4294967296)).toNat) DD2 (fun _ => 0) x m.2 :=
  rounds_D (ρ := fun x => rhoD hi lo d z x) (DD := DD2) (q := 7) (r := 8) (Q := 9) (eu := eU0) (ok0 h) (fun x h1 h2 => show IntKind.wrap .u64 x.1 = x.1 from wid_u64 _ h1 (by omega)) (fun x h1 h2 => show IntKind.wrap .u64 x.2 = x.2 from wid_u64 _ h1 (by omega))
    (fun x => nD9 h z x) (fun x => nY1 h z x) (fun x => nY0 h z x) (fun x => nU0 h z x) (fun x y n hn => same_D hi lo d z z x y n hn)
open Go.Halves in
set_option maxRecDepth 100000 in
theorem known_D2 {hi lo d : Int} (h : InD hi lo d) (z x : Int × Int) (hx : Trial (vY d / 4294967296) (vY d % 4294967296) (vR hi lo d) (vL lo d % 4294967296) x.1 x.2) : SoundAt Tryd.prog (tbD.atS (rhoD hi lo d z x) spD noLp) 135 (.code (.loop bodyD2)) hdD2 [(.exit 2, { env := exD2, h := hdD2.h })] :=
  loop_known (X := Int × Int) (ρ := fun x => rhoD hi lo d z x) (D := DD2) (out := fun _ => 0) (Inv := fun x => Trial (vY d / 4294967296) (vY d % 4294967296) (vR hi lo d) (vL lo d % 4294967296) x.1 x.2) tbD_ok tbD_wf (fun x => spec_D h z x) (by omega) code_D2 (fun x d hd => by rw [loops_D2] at hd; simp at hd) (by kernel_rfl) (by kernel_rfl) (by kernel_rfl)
    (kn := kn0) (n0 := 300) (n1 := 300) (n2 := 300) (fun x => kn_none) (pc := []) (fun x hx => PC.holds_nil _) (fun r => run_D2 r)
    (fun x hx => rounds_D2 h z x hx) (fun x hx => by show 0 < 1; omega) x hx

def startD1 : List (Nat × STy × SE) := [(4, .int .u64, .bin .quo .u64 eU eY1), (5, .int .u64, .bin .sub .u64 eU (mkBin .mul .u64 (.bin .quo .u64 eU eY1) eY1))]
def startD2 : List (Nat × STy × SE) := [(7, .int .u64, .bin .quo .u64 eR eY1), (8, .int .u64, .bin .sub .u64 eR (mkBin .mul .u64 (.bin .quo .u64 eR eY1) eY1))]
def lpD : Lp := fun k st =>
  if Nat.beq k 1152 && (sameH st.h H0 && (leTr SD st.env (topT hdD1.env [15, 16]) && (updIs startD1 (updOf st.env hdD1.env [15, 16]) && !inRound st.env))) then some (.leaf (.exit 0) exD1)
  else if Nat.beq k 1600 && (sameH st.h H0 && (leTr SD st.env (topT hdD2.env [18, 16]) && (updIs startD2 (updOf st.env hdD2.env [18, 16]) && !inRound st.env))) then some (.leaf (.exit 2) exD2) else none
def runDv (r : Nat → Value) := outsF (callF kn0 Tryd.prog (tbD.atS r spD lpD) 300 300 pcD 44 [uv 0, uv 1, uv 2] H0)
end
end Go.Proofs.YtdblaloadklcfabDoor
