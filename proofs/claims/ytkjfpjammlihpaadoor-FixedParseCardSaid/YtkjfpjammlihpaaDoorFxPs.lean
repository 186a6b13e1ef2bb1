/- FixedParse: whatever the text, the law returns true. No further conditions. -/
import Derived.Test.YtkjfpjammlihpaaDoorFxPc
import Derived.Test.YtkjfpjammlihpaaDoorCards
import Derived.Test.YtkjfpjammlihpaaDoorTie
import Derived.SevenTiedAt
set_option linter.unusedVariables false
namespace Go.Proofs.YtkjfpjammlihpaaDoor
open Go.Sx Go.ChangeShapes Go.WideShapes Go.ChangeAt Go.RowKit Go.Dec

/-! ### What is read is written again -/
theorem parse_range (l : List UInt8) : (-2147483648 ≤ (parseL l).1 ∧ (parseL l).1 ≤ 2147483647) ∧ (0 ≤ (parseL l).2 ∧ (parseL l).2 ≤ 6) := by
  unfold parseL
  split
  · decide
  · exact fitN_range _ _
theorem text_parse {l : List UInt8} (h : (parseL l).2 = 0) : textF (parseL l).1 = l := by
  cases hr : readL l with
  | none =>
    unfold parseL at h
    rw [hr] at h
    exact absurd h (by decide)
  | some q =>
    obtain ⟨neg, n, r⟩ := q
    obtain ⟨h1, h2, h3⟩ := text_read hr
    have e : parseL l = fitN neg (n * 256 + r) := by unfold parseL; rw [hr]
    rw [e] at h ⊢
    unfold fitN at h ⊢
    cases neg with
    | true =>
      simp only [if_true] at h ⊢
      have hq : ¬ 2147483648 < n * 256 + r := fun hc => by rw [if_pos hc] at h; exact absurd h (by decide)
      rw [if_neg hq]
      have hpos : 0 < n * 256 + r := by have := h3 rfl; omega
      have hab : ab (-((n * 256 + r : Nat) : Int)) = ((n * 256 + r : Nat) : Int) := by unfold ab; rw [if_pos (by omega)]; omega
      show textF (-((n * 256 + r : Nat) : Int)) = l
      unfold textF
      rw [hab, decide_eq_true (show -((n * 256 + r : Nat) : Int) < 0 by omega), show (((n * 256 + r : Nat) : Int) / 256).toNat = n by omega, show (((n * 256 + r : Nat) : Int) % 256).toNat = r by omega]
      exact h1
    | false =>
      simp only [Bool.false_eq_true, if_false] at h ⊢
      have hq : ¬ 2147483647 < n * 256 + r := fun hc => by rw [if_pos hc] at h; exact absurd h (by decide)
      rw [if_neg hq]
      have hab : ab (((n * 256 + r : Nat) : Int)) = ((n * 256 + r : Nat) : Int) := by unfold ab; rw [if_neg (by omega)]
      show textF (((n * 256 + r : Nat) : Int)) = l
      unfold textF
      rw [hab, decide_eq_false (show ¬ ((n * 256 + r : Nat) : Int) < 0 by omega), show (((n * 256 + r : Nat) : Int) / 256).toNat = n by omega, show (((n * 256 + r : Nat) : Int) % 256).toNat = r by omega]
      exact h1

/-! ### The law -/
def pP : V := .tuple [jv 1, iv 2]
def ePp : Entry := { f := 12, args := [xv 0], res := pP }
def eRp : Entry := { f := 15, args := [xv 0], res := pP }
def eFo : Entry := { f := 11, args := [jv 1], res := xv 0 }
def rhoZ (l : List UInt8) (n : Nat) : Value := if Nat.beq n 0 then .string (tx l) else if Nat.beq n 1 then .int .i32 (parseL l).1 else .int .i64 (parseL l).2
theorem z1 (l : List UInt8) : (SE.ivar .i32 1).num (rhoZ l) = (parseL l).1 := wid_i32 _ (parse_range l).1.1 (parse_range l).1.2
theorem z2 (l : List UInt8) : (SE.ivar .i64 2).num (rhoZ l) = (parseL l).2 := wid_i64 _ (by have := (parse_range l).2; omega) (by have := (parse_range l).2; omega)
theorem zL (l : List UInt8) : (SE.len (.svar 0)).num (rhoZ l) = (l.length : Int) := by
  show ((tx l).size : Int) = _
  rw [size_tx]
theorem entP {l : List UInt8} (hl : l.length ≤ 1000) : EntryOk Tryd.prog tb.glob (rhoZ l) ePp := ⟨⟨Tryd.f12, Tryd.func12, by kernel_rfl, by kernel_rfl⟩, rfl, rfl, fun q hq => by simp [ePp] at hq, by
  show Fnc _ _ 12 #[.string (tx l)] (pairV ((SE.ivar .i32 1).num (rhoZ l), (SE.ivar .i64 2).num (rhoZ l)))
  rw [z1, z2]
  exact parse_fnc hl⟩
theorem entR {l : List UInt8} (hl : l.length ≤ 1000) : EntryOk Tryd.prog tb.glob (rhoZ l) eRp := ⟨⟨Tryd.f15, Tryd.func15, by kernel_rfl, by kernel_rfl⟩, rfl, rfl, fun q hq => by simp [eRp] at hq, by
  show Fnc _ _ 15 #[.string (tx l)] (pairV ((SE.ivar .i32 1).num (rhoZ l), (SE.ivar .i64 2).num (rhoZ l)))
  rw [z1, z2]
  exact rparse_fnc hl⟩
theorem entF {l : List UInt8} (h : (parseL l).2 = 0) : EntryOk Tryd.prog tb.glob (rhoZ l) eFo := ⟨⟨Tryd.f11, Tryd.func11, by kernel_rfl, by kernel_rfl⟩, rfl, rfl, fun q hq => by simp [eFo] at hq, by
  show Fnc _ _ 11 #[.int .i32 ((SE.ivar .i32 1).num (rhoZ l))] (.string (tx l))
  rw [z1]
  have := format_fnc (f := (parseL l).1) (parse_range l).1.1 (parse_range l).1.2
  rwa [text_parse h] at this⟩
noncomputable def spZ : Sp := spOf [ePp, eRp, eFo]
noncomputable def spY2 : Sp := spOf [ePp, eRp]
noncomputable def pcLong : PC := addPC (.cmp .gtr (.len (.svar 0)) (.int .i64 1000)) true []
noncomputable def pcPs (b : Bool) : PC := addPC (.cmp .gtr (.len (.svar 0)) (.int .i64 1000)) false (addPC (.cmp .eql (.ivar .i64 2) (.int .i64 0)) b [])
theorem exampleZ (ρ : Nat → Value) : isTrue (callX Tryd.prog (tb.atS ρ spZ noLp) 300 14 [] H0) = true := by kernel_rfl
theorem exampleY (ρ : Nat → Value) : isTrue (callX Tryd.prog (tb.atS ρ spY2 noLp) 300 14 [] H0) = true := by kernel_rfl
theorem run_long (ρ : Nat → Value) : allTrue (callF kn Tryd.prog (tb.atS ρ noSp noLp) 300 300 pcLong 4 [xv 0] H0) = true := by kernel_rfl
theorem run_good (ρ : Nat → Value) : allTrue (callF kn Tryd.prog (tb.atS ρ spZ noLp) 300 300 (pcPs true) 4 [xv 0] H0) = true := by kernel_rfl
theorem run_bad (ρ : Nat → Value) : allTrue (callF kn Tryd.prog (tb.atS ρ spY2 noLp) 300 300 (pcPs false) 4 [xv 0] H0) = true := by kernel_rfl
theorem facts_of {tb : Tb} (h : SpecOk Tryd.prog tb) : FactsOk tb := fun f args r hr q hq => (h.fns f args r hr).2.1 q hq
theorem tx_of (s : ByteArray) : tx s.data.toList = s := by
  have e : ∀ x y : ByteArray, x.data = y.data → x = y := fun x y h => by cases x; cases y; exact congrArg _ h
  exact e _ _ (by show s.data.toList.toArray = s.data; simp)
theorem lawful (xs : List V) (h : TyArgs tb 8 Tryd.f4.params.toList xs) : ∃ ρ sp lp ys m L, SpecOk Tryd.prog (tb.atS ρ sp lp) ∧ SymAll ρ xs ys ∧ call Tryd.prog (tb.atS ρ sp lp) m 4 ys H0 = some L ∧ ∀ r, r ∈ L → TrueV ρ r.1 := by
  obtain ⟨x, _, rfl, hx, rfl⟩ := h
  obtain ⟨s, ex, _⟩ := Ty.string (by kernel_rfl) (TyV.cell (by kernel_rfl) hx)
  cases ex
  obtain ⟨l, rfl⟩ : ∃ l : List UInt8, s = tx l := ⟨s.data.toList, (tx_of s).symm⟩
  have hsym : SymAll (rhoZ l) [.val (.string (tx l))] [xv 0] := ⟨⟨SymOf.str rfl, id⟩, trivial⟩
  by_cases hl : l.length ≤ 1000
  · have hlen : (SE.cmp .gtr (.len (.svar 0)) (.int .i64 1000)).truth (rhoZ l) = false := by
      rw [t_gtr, zL, n_int]
      simp only [Bool.false_eq_true, if_false]
      omega
    by_cases h0 : (parseL l).2 = 0
    · have hp : (pcPs true).holds (rhoZ l) := addPC_ok (addPC_ok (PC.holds_nil _) (by rw [t_eql, z2, n_int]; simpa using h0)) hlen
      have hsp : SpecOk Tryd.prog (tb.atS (rhoZ l) spZ noLp) := spOf_ok (by
        rw [all_cons, all_cons, all_cons]
        exact ⟨entP hl, entR hl, entF h0, fun _ h => by simp at h⟩)
      obtain ⟨m, L, g1, g2⟩ := all_true (facts_of hsp) (kn_ok (rhoZ l) spZ noLp (exampleZ _)) hp (run_good (rhoZ l))
      exact ⟨rhoZ l, spZ, noLp, _, m, L, hsp, hsym, g1, g2⟩
    · have hp : (pcPs false).holds (rhoZ l) := addPC_ok (addPC_ok (PC.holds_nil _) (by rw [t_eql, z2, n_int]; simpa using h0)) hlen
      have hsp : SpecOk Tryd.prog (tb.atS (rhoZ l) spY2 noLp) := spOf_ok (by
        rw [all_cons, all_cons]
        exact ⟨entP hl, entR hl, fun _ h => by simp at h⟩)
      obtain ⟨m, L, g1, g2⟩ := all_true (facts_of hsp) (kn_ok (rhoZ l) spY2 noLp (exampleY _)) hp (run_bad (rhoZ l))
      exact ⟨rhoZ l, spY2, noLp, _, m, L, hsp, hsym, g1, g2⟩
  · have hp : pcLong.holds (rhoZ l) := addPC_ok (PC.holds_nil _) (by
      rw [t_gtr, zL, n_int]
      simp only [if_true]
      omega)
    have hsp := base_ok (rhoZ l)
    obtain ⟨m, L, g1, g2⟩ := all_true (facts_of hsp) (kn_ok (rhoZ l) noSp noLp (example_run _)) hp (run_long (rhoZ l))
    exact ⟨rhoZ l, noSp, noLp, _, m, L, hsp, hsym, g1, g2⟩

set_option maxRecDepth 100000 in
theorem lifted (os : Os) (started : os.Started) (H : Type) (enc : TypeId × Value → H) :
    ReturnsInHanded {} Tryd.checked os 4 .any (fun w args => (Rows.fixedParseSpec.pre enc Tryd.prog Tryd.f4 Rows.fixedParseRow.domain false w args ∧ laidMetH Tryd.prog laid w) ∧ sizedMet enc Tryd.prog Tryd.f4 (OpenSpec.ofChange Rows.fixedParseSpec) false w args)
      (Rows.fixedParseSpec.post enc Tryd.prog Tryd.f4 false true false false) :=
  law_lift_laid (C := Tryd.checked) (tb := tb) (n := 8) (t := 4) tb_ok tb_wf laid_plain glob_ok own started (by kernel_rfl) Tryd.func4
    (ChangeSpec.witness_shaped (enc := enc) (C := Tryd.checked) (os := os) (X := fun w _ => laidMetH Tryd.prog laid w) false (World.laidAll Tryd.prog os laid) #[.string .empty] 8 (World.laidAll_os _ _ _)
      (World.shaped_of_ZipB (by kernel_rfl) (by kernel_rfl)) (by kernel_rfl) (by kernel_rfl) (by kernel_rfl)
      (by rw [MakeChecks.laidMetH_plain _ _ _ laid_plain]; exact laidMet_laidAll _ (by kernel_rfl) (by kernel_rfl)))
    kids full (by rw [Tryd.params4]; decide +kernel) rfl Tryd.underlying4 rfl (fun ds hds => by
      match ds, hds with
      | [d0], _ => rfl) (by kernel_rfl) lawful

theorem row_holds : Rows.FixedParseSaid :=
  OpenClaim.holds_of_wide 4 Tryd.f4 rfl rfl rfl rfl rfl rfl rfl ⟨rfl, rfl, rfl, rfl, rfl⟩ rfl rfl rfl rfl rfl (by kernel_rfl) Tryd.func4 (by kernel_rfl)
    (of_decide_eq_true (by kernel_rfl)) (by unfold Func.isWrapper; first | (rw [if_pos (by decide +kernel)]; kernel_rfl) | (rw [if_neg (by decide +kernel)]; exact ⟨rfl, rfl⟩))
    (fun os started H enc _ => lifted os started H enc)

theorem parse_holds : Rows.FixedParseCardSaid :=
  Claim7.holds_tied_plain_at .later [] [.data, .data, .data] true (true, "d9d01e5c4a8ccec2b3bceb91c29d98b74046b18b82bbb703c71f2fc6c95313d5") false
    row_holds (fun _ h => by cases h) (by kernel_rfl) (fun _ h => by cases h) fixedParse_row_tie rfl ⟨rfl, rfl⟩ (by kernel_rfl) rfl
    (fun f fn hf hfn => by
      obtain rfl : f = 4 := Option.some.inj ((show Tryd.prog.funcNamed "compositor/compositorlaw06.FixedParse" = some 4 by kernel_rfl).symm.trans hf) |>.symm
      obtain rfl : fn = Tryd.f4 := (Option.some.inj (Tryd.func4.symm.trans hfn)).symm
      refine ⟨by kernel_rfl, fun j t ht => ?_⟩
      rw [Tryd.params4] at ht
      have hm := Array.mem_of_getElem? ht
      simp at hm
      have hw : ∀ u, u = 3 ∨ u = 9 ∨ u = 21 ∨ u = 35 → Tryd.prog.wantsStandIn u = false := by
        rintro u (rfl | rfl | rfl | rfl)
        · exact (show Tryd.prog.wantsStandIn 3 = false by kernel_rfl)
        · exact (show Tryd.prog.wantsStandIn 9 = false by kernel_rfl)
        · exact (show Tryd.prog.wantsStandIn 21 = false by kernel_rfl)
        · exact (show Tryd.prog.wantsStandIn 35 = false by kernel_rfl)
      exact hw t (by first | (rcases hm with h | h | h <;> simp [h]) | (rcases hm with h | h <;> simp [h]) | simp [hm]))
    (by kernel_rfl)
#print axioms parse_holds
end Go.Proofs.YtkjfpjammlihpaaDoor
