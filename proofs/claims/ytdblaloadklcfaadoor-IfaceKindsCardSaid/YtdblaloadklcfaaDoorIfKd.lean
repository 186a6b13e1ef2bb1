/- IfaceKinds: whatever the arguments, the law returns true. No further conditions. -/
import Derived.Test.YtdblaloadklcfaaDoorIfKL
import Derived.Test.YtdblaloadklcfaaDoorIfKdR1
import Derived.Test.YtdblaloadklcfaaDoorIfKdR2
import Derived.Test.YtdblaloadklcfaaDoorIfKdR3
import Derived.Test.YtdblaloadklcfaaDoorIfKdR4
import Derived.Test.YtdblaloadklcfaaDoorIfKdR5
import Derived.Test.YtdblaloadklcfaaDoorIfKdR6
import Derived.Test.YtdblaloadklcfaaDoorCards
import Derived.Test.YtdblaloadklcfaaDoorTie
import Derived.SevenTiedAt
set_option linter.unusedVariables false
namespace Go.Proofs.YtdblaloadklcfaaDoor
open Go.Sx Go.ChangeShapes Go.WideShapes Go.ChangeAt Go.RowKit

/-! ### What the unknowns are -/
theorem rhoK0 (s t : ByteArray) : rhoK s t 0 = .string s := rfl
theorem rhoK1 (s t : ByteArray) : rhoK s t 1 = .string t := rfl
theorem rhoKs (s t : ByteArray) {j : Nat} (h : j < 100) : rhoK s t (100 + j) = .int .i64 (kindN (byteAt s (Int.ofNat j))) := by
  unfold rhoK
  rw [if_neg (by simp <;> omega), if_neg (by simp <;> omega), if_pos (by simp; omega), show 100 + j - 100 = j by omega]
theorem rhoKt (s t : ByteArray) (j : Nat) : rhoK s t (200 + j) = .int .i64 (kindN (byteAt t (Int.ofNat j))) := by
  unfold rhoK
  rw [if_neg (by simp <;> omega), if_neg (by simp <;> omega), if_neg (by simp), show 200 + j - 200 = j by omega]

/-! ### Texts joined -/
theorem getElem?_cat_left {s t : ByteArray} {j : Nat} (h : j < s.size) : (s ++ t)[j]? = s[j]? := by
  have h2 : j < (s ++ t).size := by rw [ByteArray.size_append]; omega
  rw [getElem?_pos (s ++ t) j h2, getElem?_pos s j h, ByteArray.getElem_append_left h]
theorem getElem?_cat_right {s t : ByteArray} {j : Nat} (h : ¬ j < s.size) : (s ++ t)[j]? = t[j - s.size]? := by
  by_cases h2 : j < (s ++ t).size
  · have h3 := h2
    rw [ByteArray.size_append] at h3
    rw [getElem?_pos (s ++ t) j h2, getElem?_pos t (j - s.size) (by omega), ByteArray.getElem_append_right (by omega)]
  · have h3 := h2
    rw [ByteArray.size_append] at h3
    rw [getElem?_neg (s ++ t) j h2, getElem?_neg t (j - s.size) (by omega)]
theorem byteAt_nat (u : ByteArray) (k : Nat) : byteAt u (Int.ofNat k) = (match u[k]? with | some b => (b.toNat : Int) | none => 0) := by
  unfold byteAt
  rw [if_pos (show (0 : Int) ≤ Int.ofNat k from Int.natCast_nonneg k)]
  rfl
theorem byteAt_cat (s t : ByteArray) (j : Nat) : byteAt (s ++ t) (Int.ofNat j) = if j < s.size then byteAt s (Int.ofNat j) else byteAt t (Int.ofNat (j - s.size)) := by
  rw [byteAt_nat, byteAt_nat, byteAt_nat]
  by_cases h : j < s.size
  · rw [if_pos h, getElem?_cat_left h]
  · rw [if_neg h, getElem?_cat_right h]
theorem allOk_cat (s t : ByteArray) (hs : allOk s = true) (ht : allOk t = true) : allOk (s ++ t) = true := by
  rw [allOk_iff] at *
  intro j hj
  rw [byteAt_cat]
  rw [ByteArray.size_append] at hj
  split
  · rename_i h; exact hs j h
  · exact ht _ (by omega)

/-! ### The tables -/
theorem one_arg {φ : Froz} {γ : Go.Sx.Place} {T : STy} {e : SE} {args' : Array Value} (ha : ArgsRel φ γ [.sym T e] args') : args' = #[e.val φ.rho T] := by
  have h1 := ha.2 0 _ rfl
  cases h1 with
  | sym h2 =>
    have hs : args'.size = 1 := ha.1
    have : args' = #[args'.getD 0 undef] := by
      apply Array.ext
      · simpa using hs
      · intro i hi1 hi2
        obtain rfl : i = 0 := by omega
        simp [Array.getD_eq_getD_getElem?, hs]
    rw [this, h2]
theorem known1819 {f : Nat} (hf : f = 18 ∨ f = 19) : ∃ fn, Tryd.prog.funcs[f]? = some fn ∧ (fn.name == "runtime.NumGoroutine") = false ∧ fn.body.isNone = false := by
  rcases hf with rfl | rfl
  · exact ⟨Tryd.f18, Tryd.func18, by kernel_rfl, by kernel_rfl⟩
  · exact ⟨Tryd.f19, Tryd.func19, by kernel_rfl, by kernel_rfl⟩
theorem valid_spec {f : Nat} (hf : f = 18 ∨ f = 19) {e : SE} {b : Bool} {N : Nat} {φ : Froz} {γ : Go.Sx.Place} {H : Heap} {w : World} {args' : Array Value} (hr : Rel N φ γ H w) (hg : ∀ g l, tb.glob g = some l → ∀ j v, l[j]? = some v → φ g j = some v)
    (hsz : (e.text φ.rho).size ≤ 16) (hb : allOk (e.text φ.rho) = b) (ha : ArgsRel φ γ [.sym .str e] args') :
    Calls Tryd.prog f args' w (fun e w' => ∃ cv, e = .returned cv ∧ Below w.heap.size w w' ∧ VRel φ γ (.val (.bool b)) cv) := by
  rw [one_arg ha]
  refine (valid_calls hf hsz hr hg).mono ?_
  rintro x w' ⟨rfl, hbl⟩
  rw [hb]
  exact ⟨_, rfl, hbl, .val rfl⟩
theorem kind_spec {f : Nat} (hf : f = 35 ∨ f = 36) {e ie : SE} {n : Nat} {N : Nat} {φ : Froz} {γ : Go.Sx.Place} {H : Heap} {w : World} {args' : Array Value} (hr : Rel N φ γ H w) (hg : ∀ g l, tb.glob g = some l → ∀ j v, l[j]? = some v → φ g j = some v)
    (hn : φ.rho n = .int .i64 (kindN (byteAt (e.text φ.rho) (ie.num φ.rho)))) (ha : ArgsRel φ γ [.sym (.int .u8) (.byte e ie)] args') :
    Calls Tryd.prog f args' w (fun x w' => ∃ cv, x = .returned cv ∧ Below w.heap.size w w' ∧ VRel φ γ (.sym (.int .i64) (.ivar .i64 n)) cv) := by
  have hb := byteAt_range (e.text φ.rho) (ie.num φ.rho)
  refine (kind_calls (ρ := φ.rho) hf hb.1 hb.2 hr rfl hg (one_arg ha)).mono ?_
  rintro x w' ⟨rfl, hbl⟩
  refine ⟨_, rfl, hbl, .sym ?_⟩
  simp only [SE.val, SE.num, SE.all, hn]
  rw [kindN_wrap]
theorem or_nat {f a b : Nat} (h : (Nat.beq f a || Nat.beq f b) = true) : f = a ∨ f = b := by
  rw [Bool.or_eq_true] at h
  exact h.imp Nat.eq_of_beq_eq_true Nat.eq_of_beq_eq_true
theorem known3536 {f : Nat} (hf : f = 35 ∨ f = 36) : ∃ fn, Tryd.prog.funcs[f]? = some fn ∧ (fn.name == "runtime.NumGoroutine") = false ∧ fn.body.isNone = false := by
  rcases hf with rfl | rfl
  · exact known35
  · exact known36

theorem specB {s t : ByteArray} (hs : s.size ≤ 16) (ht : t.size ≤ 16) : SpecOk Tryd.prog (tb.atS (rhoK s t) (spB (allOk s) (allOk t)) noLp) where
  fns f args r h := by
    have h2 : spB (allOk s) (allOk t) f args = some r := h
    unfold spB at h2
    split at h2
    · rename_i hf
      have hf := or_nat hf
      split at h2
      · cases h2
        exact ⟨known1819 hf, fun q hq => by simp at hq, fun N φ γ H w args' hr hg ha => by
          have hρ : φ.rho = rhoK s t := hg.rho
          exact valid_spec hf hr hg.at_ (by rw [hρ]; exact hs) (by rw [hρ]; rfl) ha⟩
      · cases h2
        exact ⟨known1819 hf, fun q hq => by simp at hq, fun N φ γ H w args' hr hg ha => by
          have hρ : φ.rho = rhoK s t := hg.rho
          exact valid_spec hf hr hg.at_ (by rw [hρ]; exact ht) (by rw [hρ]; rfl) ha⟩
      · exact absurd h2 (by simp)
    · exact absurd h2 (by simp)
  loops _ _ _ _ _ _ _ := LoopGood.none (fun _ _ => rfl)

theorem specK {s t : ByteArray} (h : s.size + t.size ≤ 16) (hs : allOk s = true) (ht : allOk t = true) : SpecOk Tryd.prog (tb.atS (rhoK s t) (spK s.size) noLp) where
  fns f args r h' := by
    have h2 : spK s.size f args = some r := h'
    unfold spK at h2
    split at h2
    · rename_i hf
      have hf := or_nat hf
      split at h2
      · rename_i j
        split at h2
        · rename_i hj
          cases h2
          exact ⟨known3536 hf, fun q hq => by simp at hq, fun N φ γ H w args' hr hg ha => by
            have hρ : φ.rho = rhoK s t := hg.rho
            exact kind_spec hf hr hg.at_ (by rw [hρ]; exact rhoKs s t (by simpa using hj)) ha⟩
        · exact absurd h2 (by simp)
      · rename_i j
        cases h2
        exact ⟨known3536 hf, fun q hq => by simp at hq, fun N φ γ H w args' hr hg ha => by
          have hρ : φ.rho = rhoK s t := hg.rho
          exact kind_spec hf hr hg.at_ (by rw [hρ]; exact rhoKt s t j) ha⟩
      · rename_i j
        split at h2
        · rename_i hjn
          have hjn : j < s.size := by simpa using hjn
          split at h2
          · rename_i hj
            cases h2
            exact ⟨known3536 hf, fun q hq => by simp at hq, fun N φ γ H w args' hr hg ha => by
              have hρ : φ.rho = rhoK s t := hg.rho
              refine kind_spec hf hr hg.at_ ?_ ha
              rw [hρ]
              show rhoK s t (100 + j) = .int .i64 (kindN (byteAt (s ++ t) (Int.ofNat j)))
              rw [byteAt_cat, if_pos hjn]
              exact rhoKs s t (by simpa using hj)⟩
          · exact absurd h2 (by simp)
        · rename_i hjn
          have hjn : ¬ j < s.size := by simpa using hjn
          cases h2
          exact ⟨known3536 hf, fun q hq => by simp at hq, fun N φ γ H w args' hr hg ha => by
            have hρ : φ.rho = rhoK s t := hg.rho
            refine kind_spec hf hr hg.at_ ?_ ha
            rw [hρ]
            show rhoK s t (200 + (j - s.size)) = .int .i64 (kindN (byteAt (s ++ t) (Int.ofNat j)))
            rw [byteAt_cat, if_neg hjn]
            exact rhoKt s t (j - s.size)⟩
      · exact absurd h2 (by simp)
    split at h2
    · rename_i hf
      have hf := or_nat hf
      split at h2
      · cases h2
        exact ⟨known1819 hf, fun q hq => by simp at hq, fun N φ γ H w args' hr hg ha => by
          have hρ : φ.rho = rhoK s t := hg.rho
          exact valid_spec hf hr hg.at_ (by rw [hρ]; show s.size ≤ 16; omega) (by rw [hρ]; exact hs) ha⟩
      · cases h2
        exact ⟨known1819 hf, fun q hq => by simp at hq, fun N φ γ H w args' hr hg ha => by
          have hρ : φ.rho = rhoK s t := hg.rho
          exact valid_spec hf hr hg.at_ (by rw [hρ]; show t.size ≤ 16; omega) (by rw [hρ]; exact ht) ha⟩
      · cases h2
        exact ⟨known1819 hf, fun q hq => by simp at hq, fun N φ γ H w args' hr hg ha => by
          have hρ : φ.rho = rhoK s t := hg.rho
          exact valid_spec hf hr hg.at_ (by rw [hρ]; show (s ++ t).size ≤ 16; rw [ByteArray.size_append]; exact h) (by rw [hρ]; exact allOk_cat s t hs ht) ha⟩
      · exact absurd h2 (by simp)
    · exact absurd h2 (by simp)
  loops _ _ _ _ _ _ _ := LoopGood.none (fun _ _ => rfl)

/-! ### The law's runs -/
def pcA1 : PC := addPC (.cmp .gtr (.len (.svar 0)) (.int .i64 16)) true []
def pcA2 : PC := addPC (.cmp .gtr (.len (.svar 1)) (.int .i64 16)) true (addPC (.cmp .gtr (.len (.svar 0)) (.int .i64 16)) false [])
def sumLen : SE := .bin .add .i64 (.len (.svar 0)) (.len (.svar 1))
def pcB : PC := addPC (.cmp .gtr (.len (.svar 1)) (.int .i64 16)) false (addPC (.cmp .gtr (.len (.svar 0)) (.int .i64 16)) false [])
def pcA3 : PC := addPC (.cmp .gtr sumLen (.int .i64 16)) true pcB
def pcB3 : PC := addPC (.cmp .gtr sumLen (.int .i64 16)) false pcB
theorem runA1 (ρ : Nat → Value) : allTrue (callF kn Tryd.prog (tb.atS ρ noSp noLp) 300 300 pcA1 7 args2 H0) = true := by kernel_rfl
theorem runA2 (ρ : Nat → Value) : allTrue (callF kn Tryd.prog (tb.atS ρ noSp noLp) 300 300 pcA2 7 args2 H0) = true := by kernel_rfl
theorem runA3 (ρ : Nat → Value) : allTrue (callF kn Tryd.prog (tb.atS ρ noSp noLp) 300 300 pcA3 7 args2 H0) = true := by kernel_rfl
theorem runB1 (ρ : Nat → Value) (b : Bool) : allTrue (callF kn Tryd.prog (tb.atS ρ (spB false b) noLp) 300 300 pcB3 7 args2 H0) = true := by kernel_rfl
theorem runB2 (ρ : Nat → Value) : allTrue (callF kn Tryd.prog (tb.atS ρ (spB true false) noLp) 300 300 pcB3 7 args2 H0) = true := by kernel_rfl
theorem facts_of {tb : Tb} (h : SpecOk Tryd.prog tb) : FactsOk tb := fun f args r hr q hq => (h.fns f args r hr).2.1 q hq
theorem gtr16 {ρ : Nat → Value} {e : SE} {n : Int} {b : Bool} (h : e.num ρ = n) (hb : decide (n > 16) = b) : (SE.cmp .gtr e (.int .i64 16)).truth ρ = b := by
  rw [(truth_cmp _ _ _).2.2.2.2.1, h]
  exact hb
theorem sum_num {s t : ByteArray} (hs : s.size ≤ 16) (ht : t.size ≤ 16) : sumLen.num (rhoK s t) = ((s.size + t.size : Nat) : Int) := by
  unfold sumLen
  rw [n_add, wrap_id .i64]
  · show ((s.size : Int) + (t.size : Int)) = _
    omega
  · show (-9223372036854775808 : Int) ≤ (s.size : Int) + (t.size : Int)
    omega
  · show (s.size : Int) + (t.size : Int) ≤ (9223372036854775807 : Int)
    omega
theorem pcLen_ok {ρ : Nat → Value} {e : SE} {n : Nat} {pc : PC} (h : (e.text ρ).size = n) (hp : pc.holds ρ) : (pcLen e n pc).holds ρ := addPC_ok hp (by
  rw [(truth_cmp _ _ _).1]
  show (((e.text ρ).size : Int) == (n : Int)) = true
  rw [h]
  simp)
theorem pcKinds_ok {ρ : Nat → Value} {base : Nat} {pc : PC} (hp : pc.holds ρ) : ∀ n, (∀ j, j < n → ∃ k, ρ (base + j) = .int .i64 k ∧ 1 ≤ k ∧ k ≤ 7) → (pcKinds base n pc).holds ρ
  | 0, _ => hp
  | n + 1, h => by
    obtain ⟨k, hk, h1, h2⟩ := h n (by omega)
    have hn : (SE.ivar .i64 (base + n)).num ρ = k := by
      simp only [SE.num, SE.all, hk]
      exact wrap_id .i64 _ (by show (-9223372036854775808 : Int) ≤ _; omega) (by show _ ≤ (9223372036854775807 : Int); omega)
    refine addPC_ok (addPC_ok (pcKinds_ok hp n (fun j hj => h j (by omega))) ?_) ?_
    · rw [(truth_cmp _ _ _).2.2.1, hn]
      show decide (k < 1) = false
      simp; omega
    · rw [(truth_cmp _ _ _).2.2.2.2.1, hn]
      show decide (k > 7) = false
      simp; omega
theorem kind_pos {s : ByteArray} (h : allOk s = true) {j : Nat} (hj : j < s.size) : 1 ≤ kindN (byteAt s (Int.ofNat j)) ∧ kindN (byteAt s (Int.ofNat j)) ≤ 7 := by
  have h1 := (allOk_iff s).1 h j hj
  have h2 := kindN_range (byteAt s (Int.ofNat j))
  omega
theorem pcK_ok {s t : ByteArray} (h : s.size + t.size ≤ 16) (hs : allOk s = true) (ht : allOk t = true) : (pcK s.size t.size).holds (rhoK s t) :=
  pcLen_ok rfl (pcLen_ok rfl (pcLen_ok (by show (s ++ t).size = _; rw [ByteArray.size_append]) (pcKinds_ok (pcKinds_ok (PC.holds_nil _) _ (fun j hj => ⟨_, rhoKt s t j, kind_pos ht hj⟩)) _ (fun j hj => ⟨_, rhoKs s t (by omega), kind_pos hs hj⟩))))

theorem run_all (ρ : Nat → Value) (n m : Nat) (h : n + m ≤ 16) : runK ρ n m = true := by
  match n with
  | 0 =>
    match m with
    | 0 => exact runK_0_0 ρ
    | 1 => exact runK_0_1 ρ
    | 2 => exact runK_0_2 ρ
    | 3 => exact runK_0_3 ρ
    | 4 => exact runK_0_4 ρ
    | 5 => exact runK_0_5 ρ
    | 6 => exact runK_0_6 ρ
    | 7 => exact runK_0_7 ρ
    | 8 => exact runK_0_8 ρ
    | 9 => exact runK_0_9 ρ
    | 10 => exact runK_0_10 ρ
    | 11 => exact runK_0_11 ρ
    | 12 => exact runK_0_12 ρ
    | 13 => exact runK_0_13 ρ
    | 14 => exact runK_0_14 ρ
    | 15 => exact runK_0_15 ρ
    | 16 => exact runK_0_16 ρ
    | k + 17 => exact absurd h (by omega)
  | 1 =>
    match m with
    | 0 => exact runK_1_0 ρ
    | 1 => exact runK_1_1 ρ
    | 2 => exact runK_1_2 ρ
    | 3 => exact runK_1_3 ρ
    | 4 => exact runK_1_4 ρ
    | 5 => exact runK_1_5 ρ
    | 6 => exact runK_1_6 ρ
    | 7 => exact runK_1_7 ρ
    | 8 => exact runK_1_8 ρ
    | 9 => exact runK_1_9 ρ
    | 10 => exact runK_1_10 ρ
    | 11 => exact runK_1_11 ρ
    | 12 => exact runK_1_12 ρ
    | 13 => exact runK_1_13 ρ
    | 14 => exact runK_1_14 ρ
    | 15 => exact runK_1_15 ρ
    | k + 16 => exact absurd h (by omega)
  | 2 =>
    match m with
    | 0 => exact runK_2_0 ρ
    | 1 => exact runK_2_1 ρ
    | 2 => exact runK_2_2 ρ
    | 3 => exact runK_2_3 ρ
    | 4 => exact runK_2_4 ρ
    | 5 => exact runK_2_5 ρ
    | 6 => exact runK_2_6 ρ
    | 7 => exact runK_2_7 ρ
    | 8 => exact runK_2_8 ρ
    | 9 => exact runK_2_9 ρ
    | 10 => exact runK_2_10 ρ
    | 11 => exact runK_2_11 ρ
    | 12 => exact runK_2_12 ρ
    | 13 => exact runK_2_13 ρ
    | 14 => exact runK_2_14 ρ
    | k + 15 => exact absurd h (by omega)
  | 3 =>
    match m with
    | 0 => exact runK_3_0 ρ
    | 1 => exact runK_3_1 ρ
    | 2 => exact runK_3_2 ρ
    | 3 => exact runK_3_3 ρ
    | 4 => exact runK_3_4 ρ
    | 5 => exact runK_3_5 ρ
    | 6 => exact runK_3_6 ρ
    | 7 => exact runK_3_7 ρ
    | 8 => exact runK_3_8 ρ
    | 9 => exact runK_3_9 ρ
    | 10 => exact runK_3_10 ρ
    | 11 => exact runK_3_11 ρ
    | 12 => exact runK_3_12 ρ
    | 13 => exact runK_3_13 ρ
    | k + 14 => exact absurd h (by omega)
  | 4 =>
    match m with
    | 0 => exact runK_4_0 ρ
    | 1 => exact runK_4_1 ρ
    | 2 => exact runK_4_2 ρ
    | 3 => exact runK_4_3 ρ
    | 4 => exact runK_4_4 ρ
    | 5 => exact runK_4_5 ρ
    | 6 => exact runK_4_6 ρ
    | 7 => exact runK_4_7 ρ
    | 8 => exact runK_4_8 ρ
    | 9 => exact runK_4_9 ρ
    | 10 => exact runK_4_10 ρ
    | 11 => exact runK_4_11 ρ
    | 12 => exact runK_4_12 ρ
    | k + 13 => exact absurd h (by omega)
  | 5 =>
    match m with
    | 0 => exact runK_5_0 ρ
    | 1 => exact runK_5_1 ρ
    | 2 => exact runK_5_2 ρ
    | 3 => exact runK_5_3 ρ
    | 4 => exact runK_5_4 ρ
    | 5 => exact runK_5_5 ρ
    | 6 => exact runK_5_6 ρ
    | 7 => exact runK_5_7 ρ
    | 8 => exact runK_5_8 ρ
    | 9 => exact runK_5_9 ρ
    | 10 => exact runK_5_10 ρ
    | 11 => exact runK_5_11 ρ
    | k + 12 => exact absurd h (by omega)
  | 6 =>
    match m with
    | 0 => exact runK_6_0 ρ
    | 1 => exact runK_6_1 ρ
    | 2 => exact runK_6_2 ρ
    | 3 => exact runK_6_3 ρ
    | 4 => exact runK_6_4 ρ
    | 5 => exact runK_6_5 ρ
    | 6 => exact runK_6_6 ρ
    | 7 => exact runK_6_7 ρ
    | 8 => exact runK_6_8 ρ
    | 9 => exact runK_6_9 ρ
    | 10 => exact runK_6_10 ρ
    | k + 11 => exact absurd h (by omega)
  | 7 =>
    match m with
    | 0 => exact runK_7_0 ρ
    | 1 => exact runK_7_1 ρ
    | 2 => exact runK_7_2 ρ
    | 3 => exact runK_7_3 ρ
    | 4 => exact runK_7_4 ρ
    | 5 => exact runK_7_5 ρ
    | 6 => exact runK_7_6 ρ
    | 7 => exact runK_7_7 ρ
    | 8 => exact runK_7_8 ρ
    | 9 => exact runK_7_9 ρ
    | k + 10 => exact absurd h (by omega)
  | 8 =>
    match m with
    | 0 => exact runK_8_0 ρ
    | 1 => exact runK_8_1 ρ
    | 2 => exact runK_8_2 ρ
    | 3 => exact runK_8_3 ρ
    | 4 => exact runK_8_4 ρ
    | 5 => exact runK_8_5 ρ
    | 6 => exact runK_8_6 ρ
    | 7 => exact runK_8_7 ρ
    | 8 => exact runK_8_8 ρ
    | k + 9 => exact absurd h (by omega)
  | 9 =>
    match m with
    | 0 => exact runK_9_0 ρ
    | 1 => exact runK_9_1 ρ
    | 2 => exact runK_9_2 ρ
    | 3 => exact runK_9_3 ρ
    | 4 => exact runK_9_4 ρ
    | 5 => exact runK_9_5 ρ
    | 6 => exact runK_9_6 ρ
    | 7 => exact runK_9_7 ρ
    | k + 8 => exact absurd h (by omega)
  | 10 =>
    match m with
    | 0 => exact runK_10_0 ρ
    | 1 => exact runK_10_1 ρ
    | 2 => exact runK_10_2 ρ
    | 3 => exact runK_10_3 ρ
    | 4 => exact runK_10_4 ρ
    | 5 => exact runK_10_5 ρ
    | 6 => exact runK_10_6 ρ
    | k + 7 => exact absurd h (by omega)
  | 11 =>
    match m with
    | 0 => exact runK_11_0 ρ
    | 1 => exact runK_11_1 ρ
    | 2 => exact runK_11_2 ρ
    | 3 => exact runK_11_3 ρ
    | 4 => exact runK_11_4 ρ
    | 5 => exact runK_11_5 ρ
    | k + 6 => exact absurd h (by omega)
  | 12 =>
    match m with
    | 0 => exact runK_12_0 ρ
    | 1 => exact runK_12_1 ρ
    | 2 => exact runK_12_2 ρ
    | 3 => exact runK_12_3 ρ
    | 4 => exact runK_12_4 ρ
    | k + 5 => exact absurd h (by omega)
  | 13 =>
    match m with
    | 0 => exact runK_13_0 ρ
    | 1 => exact runK_13_1 ρ
    | 2 => exact runK_13_2 ρ
    | 3 => exact runK_13_3 ρ
    | k + 4 => exact absurd h (by omega)
  | 14 =>
    match m with
    | 0 => exact runK_14_0 ρ
    | 1 => exact runK_14_1 ρ
    | 2 => exact runK_14_2 ρ
    | k + 3 => exact absurd h (by omega)
  | 15 =>
    match m with
    | 0 => exact runK_15_0 ρ
    | 1 => exact runK_15_1 ρ
    | k + 2 => exact absurd h (by omega)
  | 16 =>
    match m with
    | 0 => exact runK_16_0 ρ
    | k + 1 => exact absurd h (by omega)
  | k + 17 => exact absurd h (by omega)

theorem lawful (xs : List V) (h : TyArgs tb 8 Tryd.f7.params.toList xs) : ∃ ρ sp lp ys m L, SpecOk Tryd.prog (tb.atS ρ sp lp) ∧ SymAll ρ xs ys ∧ call Tryd.prog (tb.atS ρ sp lp) m 7 ys H0 = some L ∧ ∀ r, r ∈ L → TrueV ρ r.1 := by
  obtain ⟨x, _, rfl, hx, y, _, rfl, hy, rfl⟩ := h
  obtain ⟨s, ex, h0⟩ := Ty.string (by kernel_rfl) (TyV.cell (by kernel_rfl) hx)
  obtain ⟨t, ey, h1⟩ := Ty.string (by kernel_rfl) (TyV.cell (by kernel_rfl) hy)
  cases ex
  cases ey
  have hsym : SymAll (rhoK s t) [.val (.string s), .val (.string t)] args2 := ⟨⟨SymOf.str rfl, id⟩, ⟨SymOf.str rfl, id⟩, trivial⟩
  have n0 : (SE.len (.svar 0)).num (rhoK s t) = (s.size : Int) := rfl
  have n1 : (SE.len (.svar 1)).num (rhoK s t) = (t.size : Int) := rfl
  have hbase := base_ok (rhoK s t)
  have hkn := kn_ok (rhoK s t) noSp noLp (example_run _)
  by_cases hs : s.size ≤ 16
  · by_cases ht : t.size ≤ 16
    · have hB : pcB.holds (rhoK s t) := addPC_ok (addPC_ok (PC.holds_nil _) (gtr16 n0 (by simp; omega))) (gtr16 n1 (by simp; omega))
      have hsum := sum_num hs ht
      by_cases hst : s.size + t.size ≤ 16
      · have hB3 : pcB3.holds (rhoK s t) := addPC_ok hB (gtr16 hsum (by simp; omega))
        have hspB := specB hs ht
        cases ha : allOk s with
        | false =>
          rw [ha] at hspB
          obtain ⟨m, L, e1, e2⟩ := all_true (facts_of hspB) (kn_ok (rhoK s t) _ noLp (exampleB _ _ _)) hB3 (runB1 (rhoK s t) _)
          exact ⟨rhoK s t, _, noLp, _, m, L, hspB, hsym, e1, e2⟩
        | true =>
          cases hb : allOk t with
          | false =>
            rw [ha, hb] at hspB
            obtain ⟨m, L, e1, e2⟩ := all_true (facts_of hspB) (kn_ok (rhoK s t) _ noLp (exampleB _ _ _)) hB3 (runB2 (rhoK s t))
            exact ⟨rhoK s t, _, noLp, _, m, L, hspB, hsym, e1, e2⟩
          | true =>
            have hsp := specK hst ha hb
            obtain ⟨m, L, e1, e2⟩ := all_true (facts_of hsp) (kn_ok (rhoK s t) _ noLp (exampleK _ _)) (pcK_ok hst ha hb) (run_all (rhoK s t) s.size t.size hst)
            exact ⟨rhoK s t, _, noLp, _, m, L, hsp, hsym, e1, e2⟩
      · obtain ⟨m, L, e1, e2⟩ := all_true (facts_of hbase) hkn (addPC_ok hB (gtr16 hsum (by simp; omega))) (runA3 (rhoK s t))
        exact ⟨rhoK s t, noSp, noLp, _, m, L, hbase, hsym, e1, e2⟩
    · obtain ⟨m, L, e1, e2⟩ := all_true (facts_of hbase) hkn (addPC_ok (addPC_ok (PC.holds_nil _) (gtr16 n0 (by simp; omega))) (gtr16 n1 (by simp; omega))) (runA2 (rhoK s t))
      exact ⟨rhoK s t, noSp, noLp, _, m, L, hbase, hsym, e1, e2⟩
  · obtain ⟨m, L, e1, e2⟩ := all_true (facts_of hbase) hkn (addPC_ok (PC.holds_nil _) (gtr16 n0 (by simp; omega))) (runA1 (rhoK s t))
    exact ⟨rhoK s t, noSp, noLp, _, m, L, hbase, hsym, e1, e2⟩

set_option maxRecDepth 100000 in
theorem lifted (os : Os) (started : os.Started) (H : Type) (enc : TypeId × Value → H) :
    ReturnsInHanded {} Tryd.checked os 7 .any (fun w args => (Rows.ifaceKindsSpec.pre enc Tryd.prog Tryd.f7 Rows.ifaceKindsRow.domain false w args ∧ laidMetH Tryd.prog laid w) ∧ sizedMet enc Tryd.prog Tryd.f7 (OpenSpec.ofChange Rows.ifaceKindsSpec) false w args)
      (Rows.ifaceKindsSpec.post enc Tryd.prog Tryd.f7 false true false false) :=
  law_lift_laid (C := Tryd.checked) (tb := tb) (n := 8) (t := 4) tb_ok tb_wf laid_plain glob_ok own started (by kernel_rfl) Tryd.func7
    (ChangeSpec.witness_shaped (enc := enc) (C := Tryd.checked) (os := os) (X := fun w _ => laidMetH Tryd.prog laid w) false (World.laidAll Tryd.prog os laid) #[.string .empty, .string .empty] 8 (World.laidAll_os _ _ _)
      (World.shaped_of_ZipB (by kernel_rfl) (by kernel_rfl)) (by kernel_rfl) (by kernel_rfl) (by kernel_rfl)
      (by rw [MakeChecks.laidMetH_plain _ _ _ laid_plain]; exact laidMet_laidAll _ (by kernel_rfl) (by kernel_rfl)))
    kids full (by rw [Tryd.params7]; decide +kernel) rfl Tryd.underlying4 rfl (fun ds hds => by
      match ds, hds with
      | [d0, d1], _ => rfl) (by kernel_rfl) lawful

theorem row_holds : Rows.IfaceKindsSaid :=
  OpenClaim.holds_of_wide 7 Tryd.f7 rfl rfl rfl rfl rfl rfl rfl ⟨rfl, rfl, rfl, rfl, rfl⟩ rfl rfl rfl rfl rfl (by kernel_rfl) Tryd.func7 (by kernel_rfl)
    (of_decide_eq_true (by kernel_rfl)) (by unfold Func.isWrapper; first | (rw [if_pos (by decide +kernel)]; kernel_rfl) | (rw [if_neg (by decide +kernel)]; exact ⟨rfl, rfl⟩))
    (fun os started H enc _ => lifted os started H enc)

theorem kinds_holds : Rows.IfaceKindsCardSaid :=
  Claim7.holds_tied_plain_at .later [] [.data, .data, .pinned] true (true, "dcc831f57f73089cd710b1992176d1a6b682de6f82427575c8c19fc73d6bfa77") false
    row_holds (fun _ h => by cases h) (by kernel_rfl) (fun _ h => by cases h) ifaceKinds_row_tie rfl ⟨rfl, rfl⟩ (by kernel_rfl) rfl
    (fun f fn hf hfn => by
      obtain rfl : f = 7 := Option.some.inj ((show Tryd.prog.funcNamed "compositor/compositorlaw12.IfaceKinds" = some 7 by kernel_rfl).symm.trans hf) |>.symm
      obtain rfl : fn = Tryd.f7 := (Option.some.inj (Tryd.func7.symm.trans hfn)).symm
      refine ⟨by kernel_rfl, fun j t ht => ?_⟩
      rw [Tryd.params7] at ht
      have hm := Array.mem_of_getElem? ht
      simp at hm
      have hw : ∀ u, u = 3 ∨ u = 5 ∨ u = 9 → Tryd.prog.wantsStandIn u = false := by
        rintro u (rfl | rfl | rfl)
        · exact (show Tryd.prog.wantsStandIn 3 = false by kernel_rfl)
        · exact (show Tryd.prog.wantsStandIn 5 = false by kernel_rfl)
        · exact (show Tryd.prog.wantsStandIn 9 = false by kernel_rfl)
      exact hw t (by first | (rcases hm with h | h | h <;> simp [h]) | (rcases hm with h | h <;> simp [h]) | simp [hm]))
    (by kernel_rfl)
#print axioms kinds_holds
end Go.Proofs.YtdblaloadklcfaaDoor
