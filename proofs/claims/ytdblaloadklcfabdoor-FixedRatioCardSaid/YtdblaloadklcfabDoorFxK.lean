/- math/bits.Div64, as a contract. -/
import Derived.Test.YtdblaloadklcfabDoorFxJ
set_option linter.unusedVariables false
set_option linter.unusedSimpArgs false
namespace Go.Proofs.YtdblaloadklcfabDoor
open Go.Sx Go.ChangeShapes Go.WideShapes Go.ChangeAt Go.RowKit
noncomputable section

theorem quo_fits {u y : Int} (h0 : 0 ≤ u) (h1 : u ≤ 18446744073709551615) (hy : 0 < y) : IntKind.wrap .u64 (u / y) = u / y :=
  wid_u64 _ (Int.ediv_nonneg h0 (by omega)) (by have := Int.ediv_le_self y h0; omega)
theorem start_D {ρ : Nat → Value} {eu e1 : SE} {u y : Int} (hu : eu.num ρ = u) (he : e1.num ρ = y) (h0 : 0 ≤ u) (h1 : u ≤ 18446744073709551615) (hy : 0 < y) (hb : mkBin .mul .u64 (.bin .quo .u64 eu e1) e1 = .bin .mul .u64 e1 (.bin .quo .u64 eu e1) ∨ mkBin .mul .u64 (.bin .quo .u64 eu e1) e1 = .bin .mul .u64 (.bin .quo .u64 eu e1) e1) :
    (SE.bin .quo .u64 eu e1).num ρ = u / y ∧ (SE.bin .sub .u64 eu (mkBin .mul .u64 (.bin .quo .u64 eu e1) e1)).num ρ = u % y := by
  have e3 : (SE.bin .quo .u64 eu e1).num ρ = u / y := by
    rw [n_quo, hu, he, if_neg (by omega), Int.tdiv_eq_ediv_of_nonneg h0, quo_fits h0 h1 hy]
  refine ⟨e3, ?_⟩
  have e4 : (mkBin .mul .u64 (.bin .quo .u64 eu e1) e1).num ρ = IntKind.wrap .u64 (u / y * y) := by
    rcases hb with hb | hb <;> rw [hb, n_mul, e3, he]
    rw [Int.mul_comm]
  have h4 := Int.ediv_mul_add_emod u y
  have h5 := Int.emod_nonneg u (b := y) (by omega)
  have h6 := Int.emod_lt_of_pos u hy
  have h7 : 0 ≤ u / y * y := Int.mul_nonneg (Int.ediv_nonneg h0 (by omega)) (by omega)
  rw [n_sub, hu, e4]
  generalize u / y * y = m at *
  rw [wid_u64 m (by omega) (by omega), wid_u64 _ (by omega) (by omega)]
  omega

set_option maxRecDepth 100000 in
theorem specL_D {hi lo d : Int} (h : InD hi lo d) : SpecOk Tryd.prog (tbD.atS (rhoD hi lo d (x1 hi lo d) (x0 hi lo d)) spD lpD) where
  fns := spOf_fns (tb := tbD) (entries_D h _ _)
  loops f fn c hfn hc d' hd := by
    obtain ⟨rfl, hfn⟩ := tbD_func (show tbD.func f = some fn from hfn)
    obtain ⟨fn', c', h1, h2, h3, h4⟩ := fn44
    obtain rfl : fn = fn' := Option.some.inj (hfn.symm.trans h1)
    obtain rfl : c = c' := Option.some.inj (hc.symm.trans h2)
    have hy := y_bounds h
    have hu := u_bounds h
    have hr := r_b h
    have t1 := Go.Halves.Trial.start (ok1 h)
    have t0 := Go.Halves.Trial.start (ok0 h)
    have key : ∀ k st t, lpD k st = some t → (inRound st.env = false ∧ st.h = H0) ∧ (t = .leaf (.exit 0) exD1 ∧ EnvLe (rhoD hi lo d (x1 hi lo d) (x0 hi lo d)) st.env (rhoD hi lo d (x1 hi lo d) (x0 hi lo d)) hdD1.env ∧ k = 1152 ∨ t = .leaf (.exit 2) exD2 ∧ EnvLe (rhoD hi lo d (x1 hi lo d) (x0 hi lo d)) st.env (rhoD hi lo d (x1 hi lo d) (x0 hi lo d)) hdD2.env ∧ k = 1600) := by
      intro k st t ht
      unfold lpD at ht
      split at ht
      · rename_i hcd
        simp only [Bool.and_eq_true, Bool.not_eq_true'] at hcd
        obtain ⟨hk, hh, hle, hup, hin⟩ := hcd
        cases ht
        refine ⟨⟨hin, sameH_eq hh⟩, .inl ⟨rfl, ?_, Nat.eq_of_beq_eq_true hk⟩⟩
        refine env_le (fun _ _ => rfl) hle (updIs_eq hup) ?_
        unfold UpdOk startD1
        rw [all_cons, all_cons]
        obtain ⟨g1, g2⟩ := start_D (nU h (x1 hi lo d) (x0 hi lo d)) (nY1 h (x1 hi lo d) (x0 hi lo d)) hu.1 (by omega) (by omega) (by first | exact .inl rfl | exact .inr rfl)
        exact ⟨upd_F g1 (show IntKind.wrap .u64 (vU hi lo d / (vY d / 4294967296)) = _ from wid_u64 _ (Int.ediv_nonneg hu.1 (by omega)) (by have := t1.le; omega)), upd_F g2 (show IntKind.wrap .u64 (vU hi lo d % (vY d / 4294967296)) = _ from wid_u64 _ t1.rl (by have := t1.rh; omega)), fun _ h => by simp at h⟩
      · split at ht
        · rename_i hcd
          simp only [Bool.and_eq_true, Bool.not_eq_true'] at hcd
          obtain ⟨hk, hh, hle, hup, hin⟩ := hcd
          cases ht
          refine ⟨⟨hin, sameH_eq hh⟩, .inr ⟨rfl, ?_, Nat.eq_of_beq_eq_true hk⟩⟩
          refine env_le (fun _ _ => rfl) hle (updIs_eq hup) ?_
          unfold UpdOk startD2
          rw [all_cons, all_cons]
          obtain ⟨g1, g2⟩ := start_D (nR h (x1 hi lo d) (x0 hi lo d)) (nY1 h (x1 hi lo d) (x0 hi lo d)) hr.1 (by omega) (by omega) (by first | exact .inl rfl | exact .inr rfl)
          exact ⟨upd_F g1 (show IntKind.wrap .u64 (vR hi lo d / (vY d / 4294967296)) = _ from wid_u64 _ (Int.ediv_nonneg hr.1 (by omega)) (by have := t0.le; omega)), upd_F g2 (show IntKind.wrap .u64 (vR hi lo d % (vY d / 4294967296)) = _ from wid_u64 _ t0.rl (by have := t0.rh; omega)), fun _ h => by simp at h⟩
        · exact absurd ht (by simp)
    have k1 : loopK bodyD1 = 1152 := by kernel_rfl
    have k2 : loopK bodyD2 = 1600 := by kernel_rfl
    rw [h4] at hd
    intro st t ht
    obtain ⟨⟨hin, hh⟩, hcase⟩ := key _ st t ht
    rw [h3]
    rcases List.mem_cons.1 hd with rfl | hd
    · rcases hcase with ⟨rfl, he, _⟩ | ⟨_, _, hk⟩
      · have hs2 := SoundAt.weaken (tb := tbD.atS (rhoD hi lo d (x1 hi lo d) (x0 hi lo d)) spD noLp) (tb' := tbD.atS (rhoD hi lo d (x1 hi lo d) (x0 hi lo d)) spD lpD) rfl rfl hin (hd := hdD1) hh he (known_D1 h (x0 hi lo d) (x1 hi lo d) t1)
        rw [show ({ env := exD1, h := hdD1.h } : St) = { env := exD1, h := st.h } from by rw [hh]; rfl] at hs2
        exact hs2
      · exact absurd (k1.symm.trans hk) (by decide)
    · rw [List.mem_singleton.1 hd] at ht hcase ⊢
      rcases hcase with ⟨_, _, hk⟩ | ⟨rfl, he, _⟩
      · exact absurd (k2.symm.trans hk) (by decide)
      · have hs2 := SoundAt.weaken (tb := tbD.atS (rhoD hi lo d (x1 hi lo d) (x0 hi lo d)) spD noLp) (tb' := tbD.atS (rhoD hi lo d (x1 hi lo d) (x0 hi lo d)) spD lpD) rfl rfl hin (hd := hdD2) hh he (known_D2 h (x1 hi lo d) (x0 hi lo d) t0)
        rw [show ({ env := exD2, h := hdD2.h } : St) = { env := exD2, h := st.h } from by rw [hh]; rfl] at hs2
        exact hs2

def MDv : List (PC × Bool × List (STy × SE)) := [([(.cmp .eql eY1 (.int .u64 0), false), (.cmp .lss (.ivar .u64 0) (.ivar .u64 2), true), (.cmp .eql (.ivar .u64 0) (.int .u64 0), false), (.cmp .eql (.ivar .u64 2) (.int .u64 0), false)], true,
  [(.int .u64, .bin .add .u64 (.ivar .u64 9) (.bin .mul .u64 (.ivar .u64 6) (.int .u64 4294967296))), (.int .u64, .bin .shr .u64 (.bin .sub .u64 (.bin .add .u64 eU0 (.bin .mul .u64 (.int .u64 4294967296) eR)) (.bin .mul .u64 (.ivar .u64 9) eY)) eS)])]
theorem run_Dv (r : Nat → Value) : runDv r = some MDv := by kernel_rfl
theorem args3 (ρ : Nat → Value) {a b c : Int} (h0 : (SE.ivar .u64 0).num ρ = a) (h1 : (SE.ivar .u64 1).num ρ = b) (h2 : (SE.ivar .u64 2).num ρ = c) : ([uv 0, uv 1, uv 2].map (V.at1 ρ)).toArray = #[.int .u64 a, .int .u64 b, .int .u64 c] := by
  show #[Value.int .u64 ((SE.ivar .u64 0).num ρ), Value.int .u64 ((SE.ivar .u64 1).num ρ), Value.int .u64 ((SE.ivar .u64 2).num ρ)] = _
  rw [h0, h1, h2]
def wordsV (q r : Int) : Value := .tuple #[.int .u64 q, .int .u64 r]
theorem retU2 (ρ : Nat → Value) (x y : SE) : retOf true (valsOf ρ [(.int .u64, x), (.int .u64, y)]) = wordsV (x.num ρ) (y.num ρ) := rfl

theorem div_hi {hi lo d : Int} (h : InD hi lo d) : Fnc Tryd.prog tb.glob 44 #[.int .u64 hi, .int .u64 lo, .int .u64 d] (wordsV ((hi * 18446744073709551616 + lo) / d) ((hi * 18446744073709551616 + lo) % d)) := by
  have hy := y_bounds h
  have hr := r_b h
  have hp : pcD.holds (rhoD hi lo d (x1 hi lo d) (x0 hi lo d)) := addPC_ok (addPC_ok (addPC_ok (PC.holds_nil _) (by
      rw [t_eql, nD2 h, n_int]; have := h.hi0; have := h.hid; simp; omega)) (by
      rw [t_eql, nD0 h, n_int]; have := h.hi0; simp; omega)) (by
      rw [t_leq, nD0 h, nD2 h]; have := h.hid; simpa using this)
  have := fnc_run (tb := tbD) tbD_ok tbD_wf (specL_D h) (kn := kn0) (n0 := 300) (n1 := 300) kn_none hp (f := 44) (args := [uv 0, uv 1, uv 2]) (by rfl) (run_Dv _) (res := wordsV ((hi * 18446744073709551616 + lo) / d) ((hi * 18446744073709551616 + lo) % d)) (by
    have e := div_eq h
    have q1 := q1_b h
    have q0 := q0_b h
    have h0 := Go.Halves.rest (ok0 h)
    have hv : vQ0 hi lo d = Go.Halves.quot (vY d / 4294967296) (vY d % 4294967296) (vR hi lo d) (vL lo d % 4294967296) := rfl
    rw [← hv] at h0
    have hyy : vY d / 4294967296 * 4294967296 + vY d % 4294967296 = vY d := by omega
    rw [hyy] at h0 e
    unfold MDv
    simp only [all_cons, all_nil, and_true, retU2]
    intro _
    have e1 : (SE.bin .add .u64 (.ivar .u64 9) (.bin .mul .u64 (.ivar .u64 6) (.int .u64 4294967296))).num (rhoD hi lo d (x1 hi lo d) (x0 hi lo d)) = (hi * 18446744073709551616 + lo) / d := by
      rw [n_add, n_mul, nD9 h, nD6 h, n_int, wid_u64 (_ * 4294967296) (by omega) (by omega), wid_u64 _ (by omega) (by omega), ← e.1]
      omega
    have e2 : (SE.bin .shr .u64 (.bin .sub .u64 (.bin .add .u64 eU0 (.bin .mul .u64 (.int .u64 4294967296) eR)) (.bin .mul .u64 (.ivar .u64 9) eY)) eS).num (rhoD hi lo d (x1 hi lo d) (x0 hi lo d)) = (hi * 18446744073709551616 + lo) % d := by
      rw [n_shrv (nS h _ _) (by have := lz63 h; show _ ≤ 64; omega), n_sub, n_add, n_mul, n_mul, n_int, nU0 h, nR h, nD9 h, nY h, ← e.2]
      congr 1
      generalize vQ0 hi lo d * vY d = m at h0 ⊢
      rw [w_u64, w_u64, w_u64, w_u64]
      omega
    rw [e1, e2])
  rw [args3 _ (nD0 h _ _) (nD1 h _ _) (nD2 h _ _)] at this
  exact this

def pcD0 : PC := addPC (.cmp .leq (.ivar .u64 2) (.ivar .u64 0)) false (addPC (.cmp .eql (.ivar .u64 0) (.int .u64 0)) true (addPC (.cmp .eql (.ivar .u64 2) (.int .u64 0)) false []))
def runD0 (r : Nat → Value) := outsF (callF kn0 Tryd.prog (tb.atS r noSp noLp) 300 300 pcD0 44 [uv 0, uv 1, uv 2] H0)

def MD0 : List (PC × Bool × List (STy × SE)) := [([(.cmp .lss (.ivar .u64 0) (.ivar .u64 2), true), (.cmp .eql (.ivar .u64 0) (.int .u64 0), true), (.cmp .eql (.ivar .u64 2) (.int .u64 0), false)], true, [(.int .u64, .bin .quo .u64 (.ivar .u64 1) (.ivar .u64 2)), (.int .u64, .bin .rem .u64 (.ivar .u64 1) (.ivar .u64 2))])]
theorem run_D0 (r : Nat → Value) : runD0 r = some MD0 := by kernel_rfl
def rho3 (a b c : Int) (n : Nat) : Value :=
  match n with
  | 0 => .int .u64 a
  | 1 => .int .u64 b
  | _ => .int .u64 c
/-- **math/bits.Div64.** -/
theorem div_fnc {hi lo d : Int} (h0 : 0 ≤ hi) (h1 : hi < d) (h2 : d < 18446744073709551616) (h3 : 0 ≤ lo) (h4 : lo < 18446744073709551616) : Fnc Tryd.prog tb.glob 44 #[.int .u64 hi, .int .u64 lo, .int .u64 d] (wordsV ((hi * 18446744073709551616 + lo) / d) ((hi * 18446744073709551616 + lo) % d)) := by
  by_cases hh : hi = 0
  · subst hh
    have n0 : (SE.ivar .u64 0).num (rho3 0 lo d) = 0 := wid_u64 _ (by omega) (by omega)
    have n1 : (SE.ivar .u64 1).num (rho3 0 lo d) = lo := wid_u64 _ (by omega) (by omega)
    have n2 : (SE.ivar .u64 2).num (rho3 0 lo d) = d := wid_u64 _ (by omega) (by omega)
    have hp : pcD0.holds (rho3 0 lo d) := addPC_ok (addPC_ok (addPC_ok (PC.holds_nil _) (by
        rw [t_eql, n2, n_int]; simp; omega)) (by rw [t_eql, n0, n_int]; simp)) (by rw [t_leq, n0, n2]; simpa using h1)
    have := fnc_run tb_ok tb_wf (base_ok (rho3 0 lo d)) (kn := kn0) (n0 := 300) (n1 := 300) kn_none hp (f := 44) (args := [uv 0, uv 1, uv 2]) (by rfl) (run_D0 _) (res := wordsV ((0 * 18446744073709551616 + lo) / d) ((0 * 18446744073709551616 + lo) % d)) (by
      unfold MD0
      simp only [all_cons, all_nil, and_true, retU2]
      intro _
      rw [n_quo, n_rem, n1, n2, if_neg (by omega), if_neg (by omega), Int.tdiv_eq_ediv_of_nonneg h3, Int.tmod_eq_emod_of_nonneg h3, quo_fits h3 (by omega) (by omega), Int.zero_mul, Int.zero_add])
    rw [args3 _ n0 n1 n2] at this
    exact this
  · exact div_hi ⟨by omega, h1, h2, h3, h4⟩
end
end Go.Proofs.YtdblaloadklcfabDoor
