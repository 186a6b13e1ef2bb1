/- Loops that count: families of unknowns by the round's number. -/
import Derived.Test.YtaidiaiedhbaoaaSxR
/- Loops that count: families of unknowns by the round's number. -/
set_option linter.unusedVariables false
set_option linter.unusedSimpArgs false
namespace Go.Sx
noncomputable section
section
variable (ρ : Nat → Value)
theorem n_dlen (e : SE) : (SE.dlen e).num ρ = ((elsD (e.data ρ)).length : Int) := rfl
theorem d_dvar (n : Nat) : (SE.dvar n).data ρ = ρ n := rfl
theorem d_cell (e i : SE) (j : Nat) : (SE.dcell e i j).data ρ = cellD ((elsD (e.data ρ)).getD (i.num ρ).toNat .nilFunc) j := rfl
theorem n_leaf (e : SE) : (SE.dleaf (.int .i64) e).num ρ = IntKind.wrap .i64 (numOf (e.data ρ)) := rfl
theorem d_cut (e a b : SE) : elsD ((SE.dcut e a b).data ρ) = ((elsD (e.data ρ)).take (b.num ρ).toNat).drop (a.num ρ).toNat := rfl
theorem d_snoc (e r : SE) : elsD ((SE.dsnoc e r).data ρ) = elsD (e.data ρ) ++ [r.data ρ] := rfl
theorem d_cat (e f : SE) : elsD ((SE.dcat e f).data ρ) = elsD (e.data ρ) ++ elsD (f.data ρ) := rfl
theorem t_bvar (n : Nat) (t : Bool) : ((SE.bvar n).truth ρ = t) = (truthOf (ρ n) = t) := rfl
end
theorem i64_id {x : Int} (h1 : -9223372036854775808 ≤ x) (h2 : x ≤ 9223372036854775807) : IntKind.wrap .i64 x = x := wrap_id .i64 x h1 h2
theorem getD_drop {l : List Value} {i : Nat} (h : i < l.length) : (l.drop i) = l.getD i .nilFunc :: l.drop (i + 1) := by
  rw [List.drop_eq_getElem_cons h, List.getD_eq_getElem?_getD, List.getElem?_eq_getElem h]
  rfl
theorem drop_end {l : List Value} {i : Nat} (h : l.length ≤ i) : l.drop i = [] := List.drop_of_length_le h

/-- Unknowns of the round x: the count, what depends on it, the others. -/
def fam (ρ : Nat → Value) (m : Nat) (ms : List Nat) (g : Nat → Nat → Value) (x : Nat) : Nat → Value := fun n => if Nat.beq n m then .int .i64 x else if ms.any (fun k => Nat.beq n k) then g x n else ρ n
def famPat (m : Nat) (ms : List Nat) (n : Nat) : Bool := Nat.beq n m || ms.any (fun k => Nat.beq n k)
theorem fam_self {ρ : Nat → Value} {m : Nat} {ms : List Nat} {g : Nat → Nat → Value} (h : ρ m = .int .i64 0) (hg : ∀ k, k ∈ ms → ρ k = g 0 k) : fam ρ m ms g 0 = ρ := by
  funext n
  unfold fam
  split
  · rename_i hn
    have := Nat.eq_of_beq_eq_true hn
    subst this
    exact h.symm
  · split
    · rename_i hn
      obtain ⟨k, hk, hb⟩ := List.any_eq_true.1 hn
      have := Nat.eq_of_beq_eq_true hb
      subst this
      exact (hg n hk).symm
    · rfl
theorem fam_const {ρ : Nat → Value} {m : Nat} {ms : List Nat} {g : Nat → Nat → Value} {x y n : Nat} (h : famPat m ms n = false) : fam ρ m ms g x n = fam ρ m ms g y n := by
  unfold famPat at h
  rw [Bool.or_eq_false_iff] at h
  unfold fam
  rw [h.1, h.2]
  rfl
theorem n_fam {ρ : Nat → Value} {m : Nat} {ms : List Nat} {g : Nat → Nat → Value} {x : Nat} (h : x ≤ 9223372036854775807) : (SE.ivar .i64 m).num (fam ρ m ms g x) = x := by
  show (match fam ρ m ms g x m with | .int _ i => IntKind.wrap .i64 i | _ => 0) = _
  have : fam ρ m ms g x m = .int .i64 x := by
    unfold fam
    rw [if_pos (Nat.beq_refl m)]
  rw [this]
  exact i64_id (by omega) (by omega)
theorem pc_fam {ρ : Nat → Value} {m : Nat} {ms : List Nat} {g : Nat → Nat → Value} {x : Nat} (h : x ≤ 9223372036854775807) {pc : PC} (hp : pc.holds (fam ρ m ms g x)) : (addPC (.cmp .leq (.int .i64 0) (.ivar .i64 m)) true pc).holds (fam ρ m ms g x) := by
  refine addPC_ok hp ?_
  rw [t_leq, if_pos rfl, n_fam h, n_int]
  omega
theorem way_lt (ρ : Nat → Value) : ∀ cs : List SE, wayOf ρ cs < cs.length + 1
  | [] => by simp [wayOf]
  | c :: cs => by
    have := way_lt ρ cs
    unfold wayOf
    split
    · omega
    · rw [List.length_cons]; omega
theorem way_not (ρ : Nat → Value) (n : Nat) : wayOf ρ [.not (.bvar n)] = if truthOf (ρ n) then 1 else 0 := by
  show (if (!truthOf (ρ n)) = true then 0 else 0 + 1) = _
  cases truthOf (ρ n) <;> rfl
theorem UpdOk.nil {ρ ρ' : Nat → Value} : UpdOk ρ ρ' [] := fun u hu => by simp at hu
theorem UpdOk.cons {ρ ρ' : Nat → Value} {u : Upd} {us : List Upd} (h : u.2.1.val ρ u.2.2 = u.2.1.val ρ' (varU u.1 u.2.1)) (k : UpdOk ρ ρ' us) : UpdOk ρ ρ' (u :: us) := fun v hv => (List.mem_cons.1 hv).elim (fun e => e ▸ h) (k v)
theorem UpdOk.int {ρ ρ' : Nat → Value} {n : Nat} {k : IntKind} {e : SE} {us : List Upd} (h : e.num ρ = (SE.ivar k n).num ρ') (r : UpdOk ρ ρ' us) : UpdOk ρ ρ' ((n, .sc (.int k), e) :: us) := UpdOk.cons (show Value.int k _ = Value.int k _ by rw [h]; rfl) r
theorem UpdOk.bool {ρ ρ' : Nat → Value} {n : Nat} {e : SE} {us : List Upd} (h : e.truth ρ = truthOf (ρ' n)) (r : UpdOk ρ ρ' us) : UpdOk ρ ρ' ((n, .sc .bool, e) :: us) := UpdOk.cons (show Value.bool _ = Value.bool _ by rw [h]; rfl) r
theorem UpdOk.dat {ρ ρ' : Nat → Value} {n : Nat} {e : SE} {us : List Upd} (h : e.data ρ = ρ' n) (r : UpdOk ρ ρ' us) : UpdOk ρ ρ' ((n, .dat, e) :: us) := UpdOk.cons h r
/-- The next round's number. -/
theorem next_fam {ρ : Nat → Value} {m : Nat} {ms : List Nat} {g : Nat → Nat → Value} {x : Nat} (h : x < 9223372036854775807) : (SE.bin .add .i64 (.ivar .i64 m) (.int .i64 1)).num (fam ρ m ms g x) = (SE.ivar .i64 m).num (fam ρ m ms g (x + 1)) := by
  rw [n_add, n_fam (by omega), n_fam (by omega), n_int, i64_id (by omega) (by omega)]
  rfl
theorem start_fam {ρ : Nat → Value} {m : Nat} {ms : List Nat} {g : Nat → Nat → Value} : (SE.int .i64 0).num (fam ρ m ms g 0) = (SE.ivar .i64 m).num (fam ρ m ms g 0) := by
  rw [n_fam (by omega)]
  rfl
/-- What is asked of a round's summary. -/
def RdOk (r : Nat → Nat → Value) (n : Nat) (Q : Nat → Prop) (j0 x : Nat) : Sm → Prop
  | .out j us => j = j0 ∧ UpdOk (r x) (r x) us
  | .next us => x < n ∧ Q (x + 1) ∧ UpdOk (r x) (r (x + 1)) us
section
variable {P : Program} {tb : Tb} (hok : tb.Ok P) (hwf : tb.Wf)
include hok hwf
/-- **A loop that counts.** -/
theorem fam_loop {ρ : Nat → Value} {m : Nat} {ms : List Nat} {g : Nat → Nat → Value} {sp : Nat → List V → Heap → Option (V × List (SE × Bool))} {lp : Nat → St → Option OTree} {l : LoopP} {n : Nat} {Q : Nat → Prop} (hm : ρ m = .int .i64 0) (hg : ∀ k, k ∈ ms → ρ k = g 0 k)
    (hsp : ∀ x, x ≤ n → Q x → SpecOk P (tb.atS (fam ρ m ms g x) sp lp)) (hil : (Nat.blt l.i (loopsAt tb l.f).length && fewTmps tb l.f) = true) (hpat : l.D.pat = famPat m ms) (hout : l.D.outs.length = l.cs.length + 1)
    (hQ : Q 0) {us0 : List Upd} (hstart : startOf l.D = some us0) (hus0 : UpdOk ρ ρ us0) (hcs : ∀ x, wayOf (fam ρ m ms g x) l.cs = wayOf ρ l.cs)
    {kn : Nat → Option V} {n0 n1 n2 : Nat} (hk : ∀ x, KnOk kn (call P (tb.atS (fam ρ m ms g x) sp lp) n0)) {pc : PC} (hpc : ∀ x, x ≤ n → Q x → pc.holds (fam ρ m ms g x)) {M : List (PC × Sm)}
    (hrun : ∀ r : Nat → Value, sums l.D (execF kn (callF kn P (tb.atS r sp lp) n0 n1) P (tb.atS r sp lp) n2 (.code (loopAt tb l.f l.i)) pc l.D.hd) = some M)
    (hM : ∀ x, x ≤ n → Q x → ∀ q, q ∈ M → q.1.holds (fam ρ m ms g x) → RdOk (fam ρ m ms g) n Q (wayOf ρ l.cs) x q.2) : LoopPOk P (tb.atS ρ sp lp) l := by
  have e0 : fam ρ m ms g 0 = ρ := fam_self hm hg
  have key : LoopPOk P (tb.atS (fam ρ m ms g 0) sp lp) l := by
    refine loopAt_ok hok hwf (X := { x : Nat // x ≤ n ∧ Q x }) (fun _ => ()) (sp := fun _ => sp) (lp := fun _ => lp) (ρ := fun x => fam ρ m ms g x.1) (Inv := fun _ => True) (μ := fun x => n - x.1) (fun x => hsp x.1 x.2.1 x.2.2) hil (fun x y k h => fam_const (by rw [hpat] at h; exact h)) (x0 := ⟨0, Nat.zero_le _, hQ⟩) trivial hstart
      (by rw [e0]; exact hus0) (by rw [hout]; exact way_lt _ _) (fun x => hk x.1) (pc := fun _ => pc) (fun x _ => hpc x.1 x.2.1 x.2.2) (M := fun _ => M) (fun _ r => hrun r) ?_
    intro x _ q hq hp
    have h := hM x.1 x.2.1 x.2.2 q hq hp
    rw [show wayOf (fam ρ m ms g 0) l.cs = wayOf ρ l.cs from hcs 0]
    cases hs : q.2 with
    | out j us => rw [hs] at h; exact h
    | next us =>
      rw [hs] at h
      obtain ⟨h1, h2, h3⟩ := h
      exact ⟨⟨x.1 + 1, h1, h2⟩, trivial, by show n - (x.1 + 1) < n - x.1; omega, h3⟩
  rwa [e0] at key
/-- **A loop that counts**, whose last round is looked at by itself. -/
theorem fam_loopE {ρ : Nat → Value} {m : Nat} {ms : List Nat} {g : Nat → Nat → Value} {sp : Nat → List V → Heap → Option (V × List (SE × Bool))} {lp : Nat → St → Option OTree} {l : LoopP} {n : Nat} {Q : Nat → Prop} (hm : ρ m = .int .i64 0) (hg : ∀ k, k ∈ ms → ρ k = g 0 k)
    (hsp : ∀ x, x < n → Q x → SpecOk P (tb.atS (fam ρ m ms g x) sp lp)) (hil : (Nat.blt l.i (loopsAt tb l.f).length && fewTmps tb l.f) = true) (hpat : l.D.pat = famPat m ms) (hout : l.D.outs.length = l.cs.length + 1)
    (hQ : Q 0) {us0 : List Upd} (hstart : startOf l.D = some us0) (hus0 : UpdOk ρ ρ us0) (hcs : ∀ x, wayOf (fam ρ m ms g x) l.cs = wayOf ρ l.cs)
    {kn : Nat → Option V} {n0 n1 n2 : Nat} (hk : ∀ x, KnOk kn (call P (tb.atS (fam ρ m ms g x) sp lp) n0)) (hkE : ∀ x, KnOk kn (call P (tb.atS (fam ρ m ms g x) (fun _ _ _ => none) (fun _ _ => none)) n0)) {pc pcE : PC} (hpc : ∀ x, x < n → Q x → pc.holds (fam ρ m ms g x)) (hpcE : Q n → pcE.holds (fam ρ m ms g n)) {M ME : List (PC × Sm)}
    (hrun : ∀ r : Nat → Value, sums l.D (execF kn (callF kn P (tb.atS r sp lp) n0 n1) P (tb.atS r sp lp) n2 (.code (loopAt tb l.f l.i)) pc l.D.hd) = some M)
    (hrunE : ∀ r : Nat → Value, sums l.D (execF kn (callF kn P (tb.atS r (fun _ _ _ => none) (fun _ _ => none)) n0 n1) P (tb.atS r (fun _ _ _ => none) (fun _ _ => none)) n2 (.code (loopAt tb l.f l.i)) pcE l.D.hd) = some ME)
    (hM : ∀ x, x < n → Q x → ∀ q, q ∈ M → q.1.holds (fam ρ m ms g x) → RdOk (fam ρ m ms g) n Q (wayOf ρ l.cs) x q.2) (hME : Q n → ∀ q, q ∈ ME → q.1.holds (fam ρ m ms g n) → RdOk (fam ρ m ms g) n Q (wayOf ρ l.cs) n q.2) : LoopPOk P (tb.atS ρ sp lp) l := by
  have e0 : fam ρ m ms g 0 = ρ := fam_self hm hg
  have key : LoopPOk P (tb.atS (fam ρ m ms g 0) (if decide (0 < n) then sp else fun _ _ _ => none) (if decide (0 < n) then lp else fun _ _ => none)) l := by
    refine loopAt_ok hok hwf (X := { x : Nat // x ≤ n ∧ Q x }) (fun x => decide (x.1 < n)) (sp := fun b => if b then sp else fun _ _ _ => none) (lp := fun b => if b then lp else fun _ _ => none) (ρ := fun x => fam ρ m ms g x.1) (Inv := fun _ => True) (μ := fun x => n - x.1) (fun x => ?_) hil (fun x y k h => fam_const (by rw [hpat] at h; exact h)) (x0 := ⟨0, Nat.zero_le _, hQ⟩) trivial hstart
      (by rw [e0]; exact hus0) (by rw [hout]; exact way_lt _ _) (kn := kn) (n0 := n0) (n1 := n1) (n2 := n2) (fun x => ?_) (pc := fun b => if b then pc else pcE) (fun x _ => ?_) (M := fun b => if b then M else ME) (fun b r => ?_) ?_
    · by_cases h : x.1 < n
      · simp only [h, decide_true, if_true]
        exact hsp x.1 h x.2.2
      · simp only [h, decide_false, Bool.false_eq_true, if_false]
        exact SpecOk.none (fun _ _ _ => rfl) (fun _ _ => rfl)
    · by_cases h : x.1 < n
      · simp only [h, decide_true, if_true]
        exact hk x.1
      · simp only [h, decide_false, Bool.false_eq_true, if_false]
        exact hkE x.1
    · by_cases h : x.1 < n
      · simp only [h, decide_true, if_true]
        exact hpc x.1 h x.2.2
      · have hxn : x.1 = n := by have := x.2.1; omega
        simp only [h, decide_false, Bool.false_eq_true, if_false]
        rw [hxn]
        exact hpcE (hxn ▸ x.2.2)
    · cases b with
      | true => exact hrun r
      | false => exact hrunE r
    · intro x _ q hq hp
      have h : RdOk (fam ρ m ms g) n Q (wayOf ρ l.cs) x.1 q.2 := by
        by_cases h : x.1 < n
        · simp only [h, decide_true, if_true] at hq
          exact hM x.1 h x.2.2 q hq hp
        · have hxn : x.1 = n := by have := x.2.1; omega
          simp only [h, decide_false, Bool.false_eq_true, if_false] at hq
          rw [hxn]
          exact hME (hxn ▸ x.2.2) q hq (hxn ▸ hp)
      rw [show wayOf (fam ρ m ms g 0) l.cs = wayOf ρ l.cs from hcs 0]
      cases hs : q.2 with
      | out j us => rw [hs] at h; exact h
      | next us =>
        rw [hs] at h
        obtain ⟨h1, h2, h3⟩ := h
        exact ⟨⟨x.1 + 1, h1, h2⟩, trivial, by show n - (x.1 + 1) < n - x.1; omega, h3⟩
  rw [e0] at key
  exact LoopPOk.tb (tb := tb.atS ρ (if decide (0 < n) then sp else fun _ _ _ => none) (if decide (0 < n) then lp else fun _ _ => none)) (tb' := tb.atS ρ sp lp) rfl rfl rfl key
end
end
end Go.Sx
