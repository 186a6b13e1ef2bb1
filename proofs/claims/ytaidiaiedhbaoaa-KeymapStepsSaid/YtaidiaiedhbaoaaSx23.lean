/- What is known of the unknown scalars on a path: facts, ranges, decisions. -/
import Derived.Test.YtaidiaiedhbaoaaSxE
/- What is known of the unknown scalars on a path: facts, ranges, decisions. -/
set_option linter.unusedVariables false
set_option linter.unusedSimpArgs false
namespace Go.Sx
noncomputable section

/-- Facts on a path. -/
abbrev PC := List (SE × Bool)
def PC.holds (ρ : Nat → Value) (pc : PC) : Prop := ∀ q, q ∈ pc → q.1.truth ρ = q.2

theorem PC.holds_nil (ρ : Nat → Value) : PC.holds ρ [] := fun q h => by simp at h
theorem PC.holds_cons {ρ : Nat → Value} {e : SE} {b : Bool} {pc : PC} (h : e.truth ρ = b) (hp : PC.holds ρ pc) : PC.holds ρ ((e, b) :: pc) := fun q hq => by
  rcases List.mem_cons.1 hq with rfl | hq
  · exact h
  · exact hp q hq

theorem truth_cmp (ρ : Nat → Value) (a b : SE) : (SE.cmp .eql a b).truth ρ = (a.num ρ == b.num ρ) ∧ (SE.cmp .neq a b).truth ρ = (a.num ρ != b.num ρ) ∧ (SE.cmp .lss a b).truth ρ = decide (a.num ρ < b.num ρ) ∧
    (SE.cmp .leq a b).truth ρ = decide (a.num ρ ≤ b.num ρ) ∧ (SE.cmp .gtr a b).truth ρ = decide (a.num ρ > b.num ρ) ∧ (SE.cmp .geq a b).truth ρ = decide (a.num ρ ≥ b.num ρ) := by
  refine ⟨?_, ?_, ?_, ?_, ?_, ?_⟩ <;> simp [SE.truth, SE.num, SE.all, intBin, truthOf] <;> rfl

theorem num_bin {ρ : Nat → Value} {op : BinOp} {k : IntKind} {a b : SE} {n : Int} (h : intBin op k (a.num ρ) k (b.num ρ) = some (.int k n)) : (SE.bin op k a b).num ρ = n := by
  simp only [SE.num] at h
  simp only [SE.num, SE.all]
  rw [h]
  rfl

/-! ### Ranges -/
structure Rng where
  lo : Option Int
  hi : Option Int
def Rng.top : Rng := ⟨none, none⟩
def Rng.has (r : Rng) (i : Int) : Prop := (∀ l, r.lo = some l → l ≤ i) ∧ (∀ h, r.hi = some h → i ≤ h)
theorem Rng.has_top (i : Int) : Rng.top.has i := ⟨fun l h => by simp [Rng.top] at h, fun l h => by simp [Rng.top] at h⟩
def maxO : Option Int → Option Int → Option Int
  | some a, some b => some (if a ≤ b then b else a)
  | some a, none => some a
  | none, b => b
def minO : Option Int → Option Int → Option Int
  | some a, some b => some (if a ≤ b then a else b)
  | some a, none => some a
  | none, b => b
def Rng.meet (r s : Rng) : Rng := ⟨maxO r.lo s.lo, minO r.hi s.hi⟩
theorem Rng.meet_has {r s : Rng} {i : Int} (h : r.has i) (k : s.has i) : (r.meet s).has i := by
  obtain ⟨rl, rh⟩ := r
  obtain ⟨sl, sh⟩ := s
  constructor
  · intro l hl
    cases rl <;> cases sl <;> simp only [Rng.meet, maxO] at hl
    · exact absurd hl (by simp)
    · exact k.1 l hl
    · exact h.1 l hl
    · rename_i a b
      have h1 := h.1 a rfl
      have h2 := k.1 b rfl
      cases hl
      split <;> omega
  · intro l hl
    cases rh <;> cases sh <;> simp only [Rng.meet, minO] at hl
    · exact absurd hl (by simp)
    · exact k.2 l hl
    · exact h.2 l hl
    · rename_i a b
      have h1 := h.2 a rfl
      have h2 := k.2 b rfl
      cases hl
      split <;> omega

/-- Facts in one shape: '==' and '<', told or denied. -/
def SE.canon : SE → SE × Bool
  | .not a => (a.canon.1, !a.canon.2)
  | .cmp .neq a b => (.cmp .eql a b, true)
  | .cmp .geq a b => (.cmp .lss a b, true)
  | .cmp .gtr a b => (.cmp .lss b a, false)
  | .cmp .leq a b => (.cmp .lss b a, true)
  | e => (e, false)

theorem SE.canon_truth (ρ : Nat → Value) : ∀ (e : SE), e.canon.1.truth ρ = (e.truth ρ != e.canon.2) := by
  intro e
  induction e with
  | not a ih =>
    simp only [SE.canon]
    rw [ih]
    show _ = ((!a.truth ρ) != _)
    cases a.truth ρ <;> cases a.canon.2 <;> rfl
  | cmp op a b _ _ =>
    have h := truth_cmp ρ a b
    have h' := truth_cmp ρ b a
    cases op <;> simp only [SE.canon, Bool.bne_false]
    · rw [h.1, h.2.1]; simp [bne]
    · rw [h'.2.2.1, h.2.2.2.1]
      by_cases hh : a.num ρ ≤ b.num ρ
      · simp [hh]
      · simp [hh]; omega
    · rw [h'.2.2.1, h.2.2.2.2.1]
    · rw [h.2.2.1, h.2.2.2.2.2]
      by_cases hh : b.num ρ ≤ a.num ρ
      · simp [hh]
      · simp [hh]; omega
  | _ => simp [SE.canon]

/-- What one fact says of a number. -/
def factR (e : SE) : SE × Bool → Rng
  | (.cmp .eql a b, true) => (match a, b with
    | a, .int _ c => if a.beq e then ⟨some c, some c⟩ else .top
    | .int _ c, b => if b.beq e then ⟨some c, some c⟩ else .top
    | _, _ => .top)
  | (.cmp .lss a b, t) => (match a, b with
    | a, .int _ c => if a.beq e then (if t then ⟨none, some (c - 1)⟩ else ⟨some c, none⟩) else .top
    | .int _ c, b => if b.beq e then (if t then ⟨some (c + 1), none⟩ else ⟨none, some c⟩) else .top
    | _, _ => .top)
  | _ => .top

def factsR (pc : PC) (e : SE) : Rng := pc.foldr (fun q r => r.meet (factR e q)) .top

theorem factR_ok {ρ : Nat → Value} {e : SE} {q : SE × Bool} (h : q.1.truth ρ = q.2) : (factR e q).has (e.num ρ) := by
  obtain ⟨f, t⟩ := q
  simp only at h
  have lit : ∀ (k : IntKind) (c : Int), (SE.int k c).num ρ = c := fun _ _ => rfl
  unfold factR
  split
  · rename_i a b heq
    cases heq
    rw [(truth_cmp ρ a b).1, beq_iff_eq] at h
    split
    · rename_i c
      split
      · rename_i hb
        rw [SE.beq_eq hb, lit] at h
        rw [h]
        exact ⟨fun l hl => by cases hl; exact Int.le_refl _, fun l hl => by cases hl; exact Int.le_refl _⟩
      · exact Rng.has_top _
    · rename_i c _ _
      split
      · rename_i hb
        rw [SE.beq_eq hb, lit] at h
        rw [← h]
        exact ⟨fun l hl => by cases hl; exact Int.le_refl _, fun l hl => by cases hl; exact Int.le_refl _⟩
      · exact Rng.has_top _
    · exact Rng.has_top _
  · rename_i a b t heq
    cases heq
    rw [(truth_cmp ρ a b).2.2.1] at h
    split
    · rename_i c
      split
      · rename_i hb
        rw [SE.beq_eq hb, lit] at h
        subst h
        split
        · rename_i ht
          simp only [decide_eq_true_eq] at ht
          exact ⟨fun l hl => (by cases hl), fun l hl => by cases hl; omega⟩
        · rename_i ht
          simp only [decide_eq_true_eq] at ht
          exact ⟨fun l hl => by cases hl; omega, fun l hl => by cases hl⟩
      · exact Rng.has_top _
    · rename_i c _ _
      split
      · rename_i hb
        rw [SE.beq_eq hb, lit] at h
        subst h
        split
        · rename_i ht
          simp only [decide_eq_true_eq] at ht
          exact ⟨fun l hl => by cases hl; omega, fun l hl => by cases hl⟩
        · rename_i ht
          simp only [decide_eq_true_eq] at ht
          exact ⟨fun l hl => (by cases hl), fun l hl => by cases hl; omega⟩
      · exact Rng.has_top _
    · exact Rng.has_top _
  · exact Rng.has_top _

theorem factsR_ok {ρ : Nat → Value} {e : SE} : ∀ {pc : PC}, pc.holds ρ → (factsR pc e).has (e.num ρ)
  | [], _ => Rng.has_top _
  | q :: pc, h => Rng.meet_has (factsR_ok (pc := pc) (fun x hx => h x (List.mem_cons_of_mem _ hx))) (factR_ok (h q List.mem_cons_self))

def kindR (k : IntKind) : Rng := ⟨some k.min, some k.max⟩

/-- A range, if it fits a kind; or that kind's. -/
def fitR (k : IntKind) (r : Rng) : Rng :=
  match r.lo, r.hi with
  | some l, some h => if k.min ≤ l ∧ h ≤ k.max then r else kindR k
  | _, _ => kindR k

def addO : Option Int → Option Int → Option Int
  | some a, some b => some (a + b)
  | _, _ => none
def subO : Option Int → Option Int → Option Int
  | some a, some b => some (a - b)
  | _, _ => none

/-- An end that is denied is no end. -/
def trimF (e : SE) (q : SE × Bool) (r : Rng) : Rng :=
  match q with
  | (.cmp .eql a (.int _ c), false) => if a.beq e then ⟨r.lo.map fun l => if l = c then l + 1 else l, r.hi.map fun h => if h = c then h - 1 else h⟩ else r
  | (.cmp .eql (.int _ c) b, false) => if b.beq e then ⟨r.lo.map fun l => if l = c then l + 1 else l, r.hi.map fun h => if h = c then h - 1 else h⟩ else r
  | _ => r
def trimR (pc : PC) (e : SE) (r : Rng) : Rng := pc.foldr (fun q r => trimF e q r) r

theorem trimF_ok {ρ : Nat → Value} {e : SE} {q : SE × Bool} {r : Rng} (h : q.1.truth ρ = q.2) (hr : r.has (e.num ρ)) : (trimF e q r).has (e.num ρ) := by
  have gen : ∀ c : Int, e.num ρ ≠ c → (⟨r.lo.map fun l => if l = c then l + 1 else l, r.hi.map fun h => if h = c then h - 1 else h⟩ : Rng).has (e.num ρ) := by
    intro c hc
    refine ⟨fun x hx => ?_, fun x hx => ?_⟩
    · obtain ⟨l, hl, rfl⟩ := Option.map_eq_some_iff.1 hx
      have := hr.1 _ hl
      split <;> omega
    · obtain ⟨l, hl, rfl⟩ := Option.map_eq_some_iff.1 hx
      have := hr.2 _ hl
      split <;> omega
  unfold trimF
  split
  · rename_i a k c
    simp only at h
    rw [(truth_cmp ρ a _).1] at h
    split
    · rename_i hb
      rw [SE.beq_eq hb] at h
      exact gen c (by have e1 : (SE.int k c).num ρ = c := rfl
                      rw [e1] at h; simpa using h)
    · exact hr
  · rename_i k c b _
    simp only at h
    rw [(truth_cmp ρ _ b).1] at h
    split
    · rename_i hb
      rw [SE.beq_eq hb] at h
      exact gen c (by have e1 : (SE.int k c).num ρ = c := rfl
                      rw [e1] at h
                      have : ¬ c = e.num ρ := by simpa using h
                      exact fun h => this h.symm)
    · exact hr
  · exact hr

theorem trimR_ok {ρ : Nat → Value} {e : SE} {r : Rng} : ∀ {pc : PC}, pc.holds ρ → r.has (e.num ρ) → (trimR pc e r).has (e.num ρ)
  | [], _, h => h
  | q :: pc, h, hr => trimF_ok (h q List.mem_cons_self) (trimR_ok (pc := pc) (fun x hx => h x (List.mem_cons_of_mem _ hx)) hr)

/-- A range, with what the facts say. -/
def meetT (pc : PC) (e : SE) (r : Rng) : Rng := trimR pc e ((factsR pc e).meet r)
theorem meetT_ok {ρ : Nat → Value} {pc : PC} {e : SE} {r : Rng} (hp : pc.holds ρ) (h : r.has (e.num ρ)) : (meetT pc e r).has (e.num ρ) := trimR_ok hp (Rng.meet_has (factsR_ok hp) h)

/-- The least and the greatest of four products. -/
def mulR (a b : Rng) : Rng :=
  match a.lo, a.hi, b.lo, b.hi with
  | some l, some h, some c, some d => ⟨minO (minO (some (l * c)) (some (l * d))) (minO (some (h * c)) (some (h * d))), maxO (maxO (some (l * c)) (some (l * d))) (maxO (some (h * c)) (some (h * d)))⟩
  | _, _, _, _ => .top

def addR (a b : Rng) : Rng := ⟨addO a.lo b.lo, addO a.hi b.hi⟩
def subR (a b : Rng) : Rng := ⟨subO a.lo b.hi, subO a.hi b.lo⟩

def remR (a b : Rng) : Rng :=
  match b.lo, b.hi with
  | some c, some d => if 0 < c then (match a.lo with
      | some l => if 0 ≤ l then (match a.hi with
          | some h => if h < c then a else ⟨some 0, some (if h ≤ d - 1 then h else d - 1)⟩
          | none => ⟨some 0, some (d - 1)⟩) else (match a.hi with
            | some h => if h ≤ 0 then (if -c < l then a else ⟨some (-(d - 1)), some 0⟩) else ⟨some (-(d - 1)), some (d - 1)⟩
            | none => ⟨some (-(d - 1)), some (d - 1)⟩)
      | none => ⟨some (-(d - 1)), some (d - 1)⟩) else .top
  | _, _ => .top

def quoR (k : IntKind) (a b : Rng) : Rng :=
  match a.lo, a.hi, b.lo with
  | some l, some h, some c => if 0 ≤ l ∧ 0 < c ∧ h ≤ k.max then (match b.hi with
      | some d => if 0 < d then ⟨some (l / d), some (h / c)⟩ else ⟨some 0, some (h / c)⟩
      | none => ⟨some 0, some (h / c)⟩) else kindR k
  | _, _, _ => kindR k

def pow2 (n : Nat) : Int := Int.ofNat (Nat.pow 2 n)

def shrR (k : IntKind) (a b : Rng) : Rng :=
  match b.lo, b.hi with
  | some c, some d => if c = d ∧ 0 ≤ c then ⟨a.lo.map fun l => l.fdiv (pow2 (min c.toNat k.bits)), a.hi.map fun h => h.fdiv (pow2 (min c.toNat k.bits))⟩ else .top
  | _, _ => .top

def shlR (k : IntKind) (a b : Rng) : Rng :=
  match b.lo, b.hi with
  | some c, some d => if c = d ∧ 0 ≤ c then fitR k ⟨a.lo.map fun l => l * pow2 (min c.toNat k.bits), a.hi.map fun h => h * pow2 (min c.toNat k.bits)⟩ else .top
  | _, _ => .top

def binR (op : BinOp) (k : IntKind) (a b : Rng) : Rng :=
  match op with
  | .add => fitR k (addR a b)
  | .sub => fitR k (subR a b)
  | .mul => fitR k (mulR a b)
  | .rem => remR a b
  | .quo => quoR k a b
  | .shr => shrR k a b
  | .shl => shlR k a b
  | .and => (match b.lo, b.hi with
    | some c, some c' => if c = c' ∧ 0 ≤ c ∧ c ≤ k.max then ⟨some 0, some c⟩ else kindR k
    | _, _ => kindR k)
  | .or | .xor | .andNot => kindR k
  | _ => .top

def Rng.sing (r : Rng) : Option Int :=
  match r.lo, r.hi with
  | some l, some h => if l = h then some l else none
  | _, _ => none

/-- Two numbers that are known give one. -/
def binRx (op : BinOp) (k : IntKind) (a b : Rng) : Rng :=
  match a.sing, b.sing with
  | some x, some y => (match intBin op k x k y with
    | some (.int _ n) => ⟨some n, some n⟩
    | _ => binR op k a b)
  | _, _ => binR op k a b

/-- Is a number a multiple of c (a power of two)? -/
def mulOf (c : Nat) : SE → Bool
  | .int _ i => i % (c : Int) == 0
  | .bin op k a b => Nat.beq ((2 ^ k.bits) % c) 0 && (match op with
    | .add | .sub => mulOf c a && mulOf c b
    | .mul => mulOf c a || mulOf c b
    | _ => false)
  | .conv k a => Nat.beq ((2 ^ k.bits) % c) 0 && mulOf c a
  | _ => false

def isLin : BinOp → Bool
  | .add | .sub | .mul => true
  | _ => false
def linR (op : BinOp) (a b : Rng) : Rng :=
  match op with
  | .add => addR a b
  | .sub => subR a b
  | .mul => mulR a b
  | _ => .top

/-- Is the number of a rest 0 for sure? -/
def remZ (op : BinOp) (a : SE) (b : Rng) : Bool :=
  match op, b.sing with
  | .rem, some (.ofNat c) => !Nat.beq c 0 && mulOf c a
  | _, _ => false

def fitted (k : IntKind) (r : Rng) : Bool :=
  match r.lo, r.hi with
  | some l, some h => decide (k.min ≤ l ∧ h ≤ k.max)
  | _, _ => false

/-- The range of a text's length. -/
def lenR (pc : PC) : SE → Rng
  | .str s => ⟨some s.size, some s.size⟩
  | .chr _ => ⟨some 1, some 1⟩
  | .cat a b => (factsR pc (.len (.cat a b))).meet (addR (lenR pc a) (lenR pc b))
  | e => meetT pc (.len e) ⟨some 0, none⟩

/-- The range of a list's length. -/
def dlenR (pc : PC) : SE → Rng
  | .dlst => ⟨some 0, some 0⟩
  | .dsnoc e r => meetT pc (.dlen (.dsnoc e r)) (addR (dlenR pc e) ⟨some 1, some 1⟩)
  | .dcat e f => meetT pc (.dlen (.dcat e f)) (addR (dlenR pc e) (dlenR pc f))
  | e => meetT pc (.dlen e) ⟨some 0, none⟩
/-- The range of a number; or of a number that is the same but for multiples of a kind's whole. -/
def rm (pc : PC) : SE → Option IntKind → Rng
  | .int k i, _ => ⟨some i, some i⟩
  | .ivar k n, _ => meetT pc (.ivar k n) (kindR k)
  | .bin op k a b, o => (match o, isLin op with
      | some m, true => if fitted k (linR op (rm pc a none) (rm pc b none)) then meetT pc (.bin op k a b) (linR op (rm pc a none) (rm pc b none)) else if m.bits ≤ k.bits then linR op (rm pc a (some m)) (rm pc b (some m)) else .top
      | some _, false => meetT pc (.bin op k a b) (binRx op k (rm pc a none) (rm pc b none))
      | none, true => meetT pc (.bin op k a b) (if fitted k (linR op (rm pc a none) (rm pc b none)) then linR op (rm pc a none) (rm pc b none) else fitR k (linR op (rm pc a (some k)) (rm pc b (some k))))
      | none, false => if remZ op a (rm pc b none) then ⟨some 0, some 0⟩ else meetT pc (.bin op k a b) (binRx op k (rm pc a none) (rm pc b none)))
  | .conv k a, o => (match o with
      | some m => if fitted k (rm pc a none) then meetT pc (.conv k a) (rm pc a none) else if m.bits ≤ k.bits then rm pc a (some m) else .top
      | none => meetT pc (.conv k a) (if fitted k (rm pc a none) then rm pc a none else fitR k (rm pc a (some k))))
  | .len a, _ => lenR pc a
  | .dlen a, _ => dlenR pc a
  | .dleaf (.int k) a, _ => meetT pc (.dleaf (.int k) a) (kindR k)
  | .byte a i, _ => (factsR pc (.byte a i)).meet ⟨some 0, some 255⟩
  | .max true a b, _ => (factsR pc (.max true a b)).meet ⟨maxO (rm pc a none).lo (rm pc b none).lo, (match (rm pc a none).hi, (rm pc b none).hi with | some x, some y => some (if x ≤ y then y else x) | _, _ => none)⟩
  | e, _ => factsR pc e

def range (pc : PC) (e : SE) : Rng := rm pc e none

theorem wrap_range (k : IntKind) (n : Int) : (kindR k).has (k.wrap n) := by
  constructor
  · intro l hl
    cases hl
    cases k <;> simp only [IntKind.wrap, IntKind.bits, IntKind.signed, IntKind.min] <;> simp <;> (try split) <;> omega
  · intro l hl
    cases hl
    cases k <;> simp only [IntKind.wrap, IntKind.bits, IntKind.signed, IntKind.max] <;> simp <;> (try split) <;> omega

theorem wrap_id (k : IntKind) (n : Int) (h1 : k.min ≤ n) (h2 : n ≤ k.max) : k.wrap n = n := by
  cases k <;> simp only [IntKind.wrap, IntKind.bits, IntKind.signed, IntKind.min, IntKind.max] at * <;> simp at * <;> (try split) <;> omega

theorem fitR_ok {k : IntKind} {r : Rng} {n : Int} (h : r.has n) : (fitR k r).has (k.wrap n) := by
  unfold fitR
  split
  · rename_i l hh hl hr
    split
    · rename_i hc
      have h1 := h.1 l hl
      have h2 := h.2 hh hr
      rw [wrap_id k n (by omega) (by omega)]
      exact h
    · exact wrap_range k n
  · exact wrap_range k n

theorem bits_and_le (k : IntKind) (x c : Int) (h0 : 0 ≤ c) (h1 : c ≤ k.max) : 0 ≤ bits .and k x c ∧ bits .and k x c ≤ c := by
  have hn : ((BitVec.ofInt k.bits x &&& BitVec.ofInt k.bits c).toNat : Int) ≤ c := by
    have h2 : (BitVec.ofInt k.bits x &&& BitVec.ofInt k.bits c).toNat ≤ (BitVec.ofInt k.bits c).toNat := by
      rw [BitVec.toNat_and]; exact Nat.and_le_right
    have h3 : ((BitVec.ofInt k.bits c).toNat : Int) ≤ c := by
      obtain ⟨m, rfl⟩ := Int.eq_ofNat_of_zero_le h0
      rw [BitVec.ofInt_natCast, BitVec.toNat_ofNat]
      exact_mod_cast Nat.mod_le _ _
    omega
  unfold bits
  simp only
  rw [wrap_id k _ (by have : k.min ≤ 0 := by cases k <;> decide
                      omega) (by omega)]
  omega

theorem mulR_ok {a b : Rng} {i j : Int} (ha : a.has i) (hb : b.has j) : (mulR a b).has (i * j) := by
  unfold mulR
  split
  · rename_i l h c d h1 h2 h3 h4
    have e1 := ha.1 _ h1
    have e2 := ha.2 _ h2
    have e3 := hb.1 _ h3
    have e4 := hb.2 _ h4
    -- on a line between two ends
    have line : ∀ (x y u v z : Int), u ≤ z → z ≤ v → (x ≤ y * u ∧ x ≤ y * v → x ≤ y * z) ∧ (y * u ≤ x ∧ y * v ≤ x → y * z ≤ x) := by
      intro x y u v z h1 h2
      by_cases hy : 0 ≤ y
      · have := Int.mul_le_mul_of_nonneg_left h1 hy
        have := Int.mul_le_mul_of_nonneg_left h2 hy
        omega
      · have q1 := Int.mul_le_mul_of_nonneg_left h1 (show 0 ≤ -y by omega)
        have q2 := Int.mul_le_mul_of_nonneg_left h2 (show 0 ≤ -y by omega)
        rw [Int.neg_mul, Int.neg_mul] at q1 q2
        omega
    refine ⟨fun x hx => ?_, fun x hx => ?_⟩
    · simp only [minO, Option.some.injEq] at hx
      have q : x ≤ l * c ∧ x ≤ l * d ∧ x ≤ h * c ∧ x ≤ h * d := by
        refine ⟨?_, ?_, ?_, ?_⟩ <;> (rw [← hx]; split <;> split <;> (try split) <;> omega)
      have q1 := (line x l c d j e3 e4).1 ⟨q.1, q.2.1⟩
      have q2 := (line x h c d j e3 e4).1 ⟨q.2.2.1, q.2.2.2⟩
      have := (line x j l h i e1 e2).1 ⟨by rw [Int.mul_comm]; exact q1, by rw [Int.mul_comm]; exact q2⟩
      rwa [Int.mul_comm]
    · simp only [maxO, Option.some.injEq] at hx
      have q : l * c ≤ x ∧ l * d ≤ x ∧ h * c ≤ x ∧ h * d ≤ x := by
        refine ⟨?_, ?_, ?_, ?_⟩ <;> (rw [← hx]; split <;> split <;> (try split) <;> omega)
      have q1 := (line x l c d j e3 e4).2 ⟨q.1, q.2.1⟩
      have q2 := (line x h c d j e3 e4).2 ⟨q.2.2.1, q.2.2.2⟩
      have := (line x j l h i e1 e2).2 ⟨by rw [Int.mul_comm]; exact q1, by rw [Int.mul_comm]; exact q2⟩
      rwa [Int.mul_comm]
  · exact Rng.has_top _

theorem addR_ok {a b : Rng} {i j : Int} (ha : a.has i) (hb : b.has j) : (addR a b).has (i + j) := by
  refine ⟨fun l hl => ?_, fun l hl => ?_⟩
  · simp only [addR] at hl
    cases h1 : a.lo <;> cases h2 : b.lo <;> simp only [h1, h2, addO] at hl <;> first | (cases hl; done) | skip
    cases hl
    have := ha.1 _ h1
    have := hb.1 _ h2
    omega
  · simp only [addR] at hl
    cases h1 : a.hi <;> cases h2 : b.hi <;> simp only [h1, h2, addO] at hl <;> first | (cases hl; done) | skip
    cases hl
    have := ha.2 _ h1
    have := hb.2 _ h2
    omega
theorem subR_ok {a b : Rng} {i j : Int} (ha : a.has i) (hb : b.has j) : (subR a b).has (i - j) := by
  refine ⟨fun l hl => ?_, fun l hl => ?_⟩
  · simp only [subR] at hl
    cases h1 : a.lo <;> cases h2 : b.hi <;> simp only [h1, h2, subO] at hl <;> first | (cases hl; done) | skip
    cases hl
    have := ha.1 _ h1
    have := hb.2 _ h2
    omega
  · simp only [subR] at hl
    cases h1 : a.hi <;> cases h2 : b.lo <;> simp only [h1, h2, subO] at hl <;> first | (cases hl; done) | skip
    cases hl
    have := ha.2 _ h1
    have := hb.1 _ h2
    omega

theorem remR_ok {a b : Rng} {i j : Int} (ha : a.has i) (hb : b.has j) : (remR a b).has (i.tmod j) := by
  unfold remR
  split
  · rename_i c d hc hc'
    split
    · rename_i hpos
      have h1 := hb.1 c hc
      have h2 := hb.2 d hc'
      have hpos : 0 < j := by omega
      have hlt : i.tmod j < j := Int.tmod_lt_of_pos i hpos
      have hgt : -j < i.tmod j := by
        by_cases h0 : 0 ≤ i
        · have := Int.tmod_nonneg j h0; omega
        · have e := Int.tmod_lt_of_pos (-i) hpos
          rw [Int.neg_tmod] at e
          omega
      have pos : 0 ≤ i → 0 ≤ i.tmod j := fun h => Int.tmod_nonneg j h
      have all : (⟨some (-(d - 1)), some (d - 1)⟩ : Rng).has (i.tmod j) := ⟨fun l hl => by cases hl; omega, fun l hl => by cases hl; omega⟩
      split
      · rename_i l hl
        have h3 := ha.1 l hl
        split
        · have hp := pos (by omega)
          split
          · rename_i h hh
            have h4 := ha.2 h hh
            split
            · rw [Int.tmod_eq_of_lt (by omega) (by omega)]
              exact ha
            · have hle : i.tmod j ≤ i := by 
                have e := Int.emod_add_mul_ediv i j
                have e2 := Int.mul_nonneg (show 0 ≤ j by omega) (Int.ediv_nonneg (show 0 ≤ i by omega) (show 0 ≤ j by omega))
                rw [Int.tmod_eq_emod_of_nonneg (by omega)]
                omega
              exact ⟨fun l hl => by cases hl; omega, fun l hl => by cases hl; split <;> omega⟩
          · exact ⟨fun l hl => by cases hl; omega, fun l hl => by cases hl; omega⟩
        · split
          · rename_i h hh
            have h4 := ha.2 h hh
            split
            · have hneg : i.tmod j ≤ 0 := by
                have := Int.tmod_nonneg j (a := -i) (by omega)
                rw [Int.neg_tmod] at this
                omega
              split
              · have : i.tmod j = i := by
                  have e := Int.tmod_eq_of_lt (a := -i) (b := j) (by omega) (by omega)
                  rw [Int.neg_tmod] at e
                  omega
                rw [this]
                exact ha
              · exact ⟨fun l hl => by cases hl; omega, fun l hl => by cases hl; omega⟩
            · exact all
          · exact all
      · exact all
    · exact Rng.has_top _
  · exact Rng.has_top _

theorem quoR_ok {k : IntKind} {a b : Rng} {i j : Int} (ha : a.has i) (hb : b.has j) (hj : j ≠ 0) : (quoR k a b).has (k.wrap (i.tdiv j)) := by
  unfold quoR
  split
  · rename_i l h c h1 h2 h3
    split
    · rename_i hc
      have e1 := ha.1 _ h1
      have e2 := ha.2 _ h2
      have e3 := hb.1 _ h3
      have hd : i.tdiv j = i / j := Int.tdiv_eq_ediv_of_nonneg (by omega)
      have q0 : 0 ≤ i / j := Int.ediv_nonneg (by omega) (by omega)
      have q1 : i / j ≤ i := Int.ediv_le_self j (by omega)
      have kmin : k.min ≤ 0 := by cases k <;> decide
      rw [hd, wrap_id k _ (by omega) (by omega)]
      have q2 : i / j ≤ h / c := by
        have f1 : i / j ≤ h / j := Int.ediv_le_ediv (by omega) e2
        have f2 : h / j ≤ h / c := by
          rw [Int.le_ediv_iff_mul_le (by omega)]
          have f3 : h / j * c ≤ h / j * j := Int.mul_le_mul_of_nonneg_left e3 (Int.ediv_nonneg (by omega) (by omega))
          have f4 : h / j * j ≤ h := Int.ediv_mul_le h (by omega)
          omega
        omega
      split
      · rename_i d h4
        have e4 := hb.2 _ h4
        split
        · refine ⟨fun x hx => ?_, fun x hx => by cases hx; exact q2⟩
          cases hx
          have f1 : l / d ≤ i / d := Int.ediv_le_ediv (by omega) e1
          have f2 : i / d ≤ i / j := by
            rw [Int.le_ediv_iff_mul_le (by omega)]
            have f3 : i / d * j ≤ i / d * d := Int.mul_le_mul_of_nonneg_left e4 (Int.ediv_nonneg (by omega) (by omega))
            have f4 : i / d * d ≤ i := Int.ediv_mul_le i (by omega)
            omega
          omega
        · exact ⟨fun x hx => by cases hx; omega, fun x hx => by cases hx; exact q2⟩
      · exact ⟨fun x hx => by cases hx; omega, fun x hx => by cases hx; exact q2⟩
    · exact wrap_range _ _
  · exact wrap_range _ _

theorem pow2_eq (n : Nat) : pow2 n = 2 ^ n := by
  have : pow2 n = ((2 ^ n : Nat) : Int) := rfl
  rw [this]; push_cast; rfl
theorem pow2_pos (n : Nat) : 0 < pow2 n := by
  have h : pow2 n = ((2 ^ n : Nat) : Int) := rfl
  have := Nat.two_pow_pos n
  rw [h]; omega

theorem fdiv_mono {a b c : Int} (hc : 0 < c) (h : a ≤ b) : a.fdiv c ≤ b.fdiv c := by
  rw [Int.fdiv_eq_ediv_of_nonneg _ (by omega), Int.fdiv_eq_ediv_of_nonneg _ (by omega)]
  exact Int.ediv_le_ediv hc h

theorem shrR_ok {k : IntKind} {a b : Rng} {i j : Int} (ha : a.has i) (hb : b.has j) : (shrR k a b).has (i.fdiv (2 ^ (min j.toNat k.bits))) := by
  unfold shrR
  split
  · rename_i c d h1 h2
    split
    · rename_i hc
      have e1 := hb.1 _ h1
      have e2 := hb.2 _ h2
      have ej : j = c := by omega
      subst ej
      rw [← pow2_eq]
      have hp := pow2_pos (min j.toNat k.bits)
      refine ⟨fun x hx => ?_, fun x hx => ?_⟩
      · obtain ⟨l, hl, rfl⟩ := Option.map_eq_some_iff.1 hx
        exact fdiv_mono hp (ha.1 _ hl)
      · obtain ⟨l, hl, rfl⟩ := Option.map_eq_some_iff.1 hx
        exact fdiv_mono hp (ha.2 _ hl)
    · exact Rng.has_top _
  · exact Rng.has_top _

theorem shlR_ok {k : IntKind} {a b : Rng} {i j : Int} (ha : a.has i) (hb : b.has j) : (shlR k a b).has (k.wrap (i * 2 ^ (min j.toNat k.bits))) := by
  unfold shlR
  split
  · rename_i c d h1 h2
    split
    · rename_i hc
      have e1 := hb.1 _ h1
      have e2 := hb.2 _ h2
      have ej : j = c := by omega
      subst ej
      rw [← pow2_eq]
      have hp := pow2_pos (min j.toNat k.bits)
      refine fitR_ok ⟨fun x hx => ?_, fun x hx => ?_⟩
      · obtain ⟨l, hl, rfl⟩ := Option.map_eq_some_iff.1 hx
        exact Int.mul_le_mul_of_nonneg_right (ha.1 _ hl) (by omega)
      · obtain ⟨l, hl, rfl⟩ := Option.map_eq_some_iff.1 hx
        exact Int.mul_le_mul_of_nonneg_right (ha.2 _ hl) (by omega)
    · exact Rng.has_top _
  · exact Rng.has_top _

theorem binR_ok {op : BinOp} {k : IntKind} {a b : Rng} {i j : Int} (ha : a.has i) (hb : b.has j) : (binR op k a b).has (match intBin op k i k j with | some v => numOf v | none => 0) := by
  unfold binR
  have wr : ∀ (m : Int), (kindR k).has (k.wrap m) := fun m => wrap_range _ _
  have wr0 : (kindR k).has 0 := by
    have := wr 0
    rwa [wrap_id k 0 (by cases k <;> decide) (by cases k <;> decide)] at this
  split
  · simp only [intBin, if_true, numOf]
    exact fitR_ok (addR_ok ha hb)
  · simp only [intBin, if_true, numOf]
    exact fitR_ok (subR_ok ha hb)
  · simp only [intBin, if_true, numOf]
    exact fitR_ok (mulR_ok ha hb)
  · simp only [intBin, if_true]
    by_cases hj : j = 0
    · subst hj
      simp only [if_true]
      unfold remR
      split
      · rename_i c c' hc hc'
        have h1 := hb.1 c hc
        have h2 := hb.2 c' hc'
        rw [if_neg (by omega)]
        exact Rng.has_top _
      · exact Rng.has_top _
    · simp only [if_neg hj, numOf]
      exact remR_ok ha hb
  · simp only [intBin, if_true]
    by_cases hj : j = 0
    · subst hj
      simp only [if_true]
      unfold quoR
      split
      · rename_i l h c h1 h2 h3
        have h3 := hb.1 _ h3
        rw [if_neg (by omega)]
        exact wr0
      · exact wr0
    · simp only [if_neg hj, numOf]
      exact quoR_ok ha hb hj
  · simp only [intBin]
    by_cases hj : j < 0
    · simp only [if_pos hj]
      unfold shrR
      split
      · rename_i c d h1 h2
        have h1 := hb.1 _ h1
        rw [if_neg (by omega)]
        exact Rng.has_top _
      · exact Rng.has_top _
    · simp only [if_neg hj, numOf]
      exact shrR_ok ha hb
  · simp only [intBin]
    by_cases hj : j < 0
    · simp only [if_pos hj]
      unfold shlR
      split
      · rename_i c d h1 h2
        have h1 := hb.1 _ h1
        rw [if_neg (by omega)]
        exact Rng.has_top _
      · exact Rng.has_top _
    · simp only [if_neg hj, numOf]
      exact shlR_ok ha hb
  · simp only [intBin, if_true, numOf]
    split
    · rename_i c c' h3 h4
      split
      · rename_i hc
        obtain ⟨rfl, hc0, hc1⟩ := hc
        have e1 := hb.1 _ h3
        have e2 := hb.2 _ h4
        have ej : j = c := by omega
        subst ej
        have := bits_and_le k i j hc0 hc1
        exact ⟨fun l hl => by cases hl; omega, fun l hl => by cases hl; omega⟩
      · exact wr _
    · exact wr _
  · simp only [intBin, if_true, numOf]; exact wr _
  · simp only [intBin, if_true, numOf]; exact wr _
  · simp only [intBin, if_true, numOf]; exact wr _
  · exact Rng.has_top _

theorem sing_eq {r : Rng} {i x : Int} (h : r.has i) (hs : r.sing = some x) : i = x := by
  unfold Rng.sing at hs
  split at hs
  · rename_i l u hl hu
    split at hs
    · cases hs
      have := h.1 _ hl
      have := h.2 _ hu
      omega
    · exact absurd hs (by simp)
  · exact absurd hs (by simp)

theorem binRx_ok {op : BinOp} {k : IntKind} {a b : Rng} {i j : Int} (ha : a.has i) (hb : b.has j) : (binRx op k a b).has (match intBin op k i k j with | some v => numOf v | none => 0) := by
  unfold binRx
  split
  · rename_i x y hx hy
    rw [sing_eq ha hx, sing_eq hb hy]
    split
    · rename_i n hn
      rw [hn]
      exact ⟨fun l hl => by cases hl; exact Int.le_refl _, fun l hl => by cases hl; exact Int.le_refl _⟩
    · rw [← sing_eq ha hx, ← sing_eq hb hy]
      exact binR_ok ha hb
  · exact binR_ok ha hb

/-- Numbers that are the same but for multiples of a kind's whole. -/
def SameMod (m : IntKind) (x y : Int) : Prop := (2 ^ m.bits : Int) ∣ x - y
theorem wrap_same (m k : IntKind) (n : Int) (h : m.bits ≤ k.bits) : SameMod m n (k.wrap n) := by
  have hd : (2 ^ m.bits : Int) ∣ 2 ^ k.bits := by
    obtain ⟨t, ht⟩ := Nat.exists_eq_add_of_le h
    rw [ht, Int.pow_add]
    exact Int.dvd_mul_right _ _
  refine Int.dvd_trans hd ?_
  have hm := Int.emod_add_mul_ediv n (2 ^ k.bits)
  simp only [IntKind.wrap]
  split
  · exact ⟨n / 2 ^ k.bits + 1, by rw [Int.mul_add]; omega⟩
  · exact ⟨n / 2 ^ k.bits, by omega⟩
theorem wrap_congr (k : IntKind) {x y : Int} (h : SameMod k x y) : k.wrap x = k.wrap y := by
  have : x % 2 ^ k.bits = y % 2 ^ k.bits := Int.emod_eq_emod_iff_emod_sub_eq_zero.2 (Int.emod_eq_zero_of_dvd h)
  simp only [IntKind.wrap, this]
theorem SameMod.refl (m : IntKind) (x : Int) : SameMod m x x := by
  unfold SameMod; rw [Int.sub_self]; exact Int.dvd_zero _
theorem SameMod.trans {m : IntKind} {x y z : Int} (h : SameMod m x y) (h' : SameMod m y z) : SameMod m x z := by
  unfold SameMod at *
  have := Int.dvd_add h h'
  rwa [show x - y + (y - z) = x - z by omega] at this
theorem SameMod.symm {m : IntKind} {x y : Int} (h : SameMod m x y) : SameMod m y x := by
  unfold SameMod at *
  rw [show y - x = -(x - y) by omega]
  exact Int.dvd_neg.2 h

theorem lin_same {m : IntKind} {op : BinOp} {x y a b : Int} (hx : SameMod m x a) (hy : SameMod m y b) : SameMod m (x + y) (a + b) ∧ SameMod m (x - y) (a - b) ∧ SameMod m (x * y) (a * b) := by
  obtain ⟨u, hu⟩ := hx
  obtain ⟨v, hv⟩ := hy
  refine ⟨⟨u + v, ?_⟩, ⟨u - v, ?_⟩, ⟨u * y + a * v, ?_⟩⟩
  · rw [Int.mul_add]; omega
  · rw [Int.mul_sub]; omega
  · have hx : x = a + 2 ^ m.bits * u := by omega
    have e1 : x * y = a * y + 2 ^ m.bits * u * y := by rw [hx, Int.add_mul]
    have e2 : a * y = a * b + a * (2 ^ m.bits * v) := by rw [← hv, ← Int.mul_add]; congr 1; omega
    rw [e1, e2, Int.mul_add, ← Int.mul_assoc (2 ^ m.bits) u y, ← Int.mul_assoc (2 ^ m.bits) a v, Int.mul_comm (2 ^ m.bits) a, Int.mul_assoc a (2 ^ m.bits) v]
    omega

def linI (op : BinOp) (a b : Int) : Int :=
  match op with
  | .add => a + b
  | .sub => a - b
  | .mul => a * b
  | _ => 0
theorem lin_num {ρ : Nat → Value} {op : BinOp} {k : IntKind} {a b : SE} (h : isLin op = true) : (SE.bin op k a b).num ρ = k.wrap (linI op (a.num ρ) (b.num ρ)) := by
  cases op <;> simp [isLin] at h <;> simp [SE.num, SE.all, intBin, linI, numOf]
theorem linR_ok {op : BinOp} {a b : Rng} {i j : Int} (ha : a.has i) (hb : b.has j) : (linR op a b).has (linI op i j) := by
  cases op <;> first | exact addR_ok ha hb | exact subR_ok ha hb | exact mulR_ok ha hb | exact Rng.has_top _
theorem linI_same {m : IntKind} {op : BinOp} {x y a b : Int} (hx : SameMod m x a) (hy : SameMod m y b) : SameMod m (linI op x y) (linI op a b) := by
  have := lin_same (op := op) hx hy
  cases op <;> first | exact this.1 | exact this.2.1 | exact this.2.2 | exact SameMod.refl _ _

theorem mulOf_ok {ρ : Nat → Value} {c : Nat} : ∀ {e : SE}, mulOf c e = true → (c : Int) ∣ e.num ρ := by
  have wr : ∀ (k : IntKind) (n : Int), Nat.beq ((2 ^ k.bits) % c) 0 = true → (c : Int) ∣ n → (c : Int) ∣ k.wrap n := by
    intro k n h hn
    have h1 : c ∣ 2 ^ k.bits := Nat.dvd_of_mod_eq_zero (Nat.eq_of_beq_eq_true h)
    have h2 : (c : Int) ∣ 2 ^ k.bits := by have := Int.natCast_dvd_natCast.2 h1; push_cast at this; exact this
    have h3 := Int.dvd_trans h2 (wrap_same k k n (Nat.le_refl _))
    have := Int.dvd_sub hn h3
    rwa [show n - (n - k.wrap n) = k.wrap n by omega] at this
  intro e
  induction e with
  | int k i => intro h; simp only [mulOf, beq_iff_eq] at h; exact Int.dvd_of_emod_eq_zero h
  | conv k a ih =>
    intro h
    simp only [mulOf, Bool.and_eq_true] at h
    exact wr k _ h.1 (ih h.2)
  | bin op k a b ih1 ih2 =>
    intro h
    simp only [mulOf, Bool.and_eq_true] at h
    obtain ⟨h0, h⟩ := h
    cases op <;> simp only [Bool.false_eq_true, Bool.and_eq_true, Bool.or_eq_true] at h
    · rw [lin_num (by rfl)]; exact wr k _ h0 (Int.dvd_add (ih1 h.1) (ih2 h.2))
    · rw [lin_num (by rfl)]; exact wr k _ h0 (Int.dvd_sub (ih1 h.1) (ih2 h.2))
    · rw [lin_num (by rfl)]
      exact wr k _ h0 (h.elim (fun h => Int.dvd_trans (ih1 h) (Int.dvd_mul_right _ _)) (fun h => Int.dvd_trans (ih2 h) (Int.dvd_mul_left _ _)))
  | _ => intro h; simp [mulOf] at h

theorem fitted_ok {k : IntKind} {r : Rng} {n : Int} (h : fitted k r = true) (hr : r.has n) : k.wrap n = n := by
  unfold fitted at h
  split at h
  · rename_i l u h1 h2
    simp only [decide_eq_true_eq] at h
    have := hr.1 _ h1
    have := hr.2 _ h2
    exact wrap_id k n (by omega) (by omega)
  · exact absurd h (by simp)

theorem lenR_ok {ρ : Nat → Value} {pc : PC} (hp : pc.holds ρ) : ∀ e : SE, (lenR pc e).has ((SE.len e).num ρ) := by
  intro e
  have plain : (meetT pc (.len e) ⟨some 0, none⟩).has ((SE.len e).num ρ) := by
    refine meetT_ok hp ⟨fun l hl => ?_, fun l hl => by cases hl⟩
    cases hl
    exact Int.natCast_nonneg _
  induction e with
  | str s => exact ⟨fun l hl => by cases hl; exact Int.le_refl _, fun l hl => by cases hl; exact Int.le_refl _⟩
  | chr a _ => exact ⟨fun l hl => by cases hl; exact Int.le_refl _, fun l hl => by cases hl; exact Int.le_refl _⟩
  | cat a b iha ihb =>
    refine Rng.meet_has (factsR_ok hp) ?_
    have ha := iha (meetT_ok hp ⟨fun l hl => by cases hl; exact Int.natCast_nonneg _, fun l hl => by cases hl⟩)
    have hb := ihb (meetT_ok hp ⟨fun l hl => by cases hl; exact Int.natCast_nonneg _, fun l hl => by cases hl⟩)
    have e : (SE.len (.cat a b)).num ρ = (SE.len a).num ρ + (SE.len b).num ρ := by
      show (((a.text ρ ++ b.text ρ).size : Nat) : Int) = ((a.text ρ).size : Int) + ((b.text ρ).size : Int)
      rw [ByteArray.size_append]
      push_cast
      rfl
    rw [e]
    exact addR_ok ha hb
  | _ => exact plain
theorem dlenR_ok {ρ : Nat → Value} {pc : PC} (hp : pc.holds ρ) : ∀ e : SE, (dlenR pc e).has ((SE.dlen e).num ρ) := by
  intro e
  have plain : (meetT pc (.dlen e) ⟨some 0, none⟩).has ((SE.dlen e).num ρ) := meetT_ok hp ⟨fun l hl => by cases hl; exact Int.natCast_nonneg _, fun l hl => by cases hl⟩
  induction e with
  | dlst => exact ⟨fun l hl => by cases hl; exact Int.le_refl _, fun l hl => by cases hl; exact Int.le_refl _⟩
  | dsnoc e r ih _ =>
    have h := ih (meetT_ok hp ⟨fun l hl => by cases hl; exact Int.natCast_nonneg _, fun l hl => by cases hl⟩)
    refine meetT_ok hp ?_
    have e1 : (SE.dlen (.dsnoc e r)).num ρ = (SE.dlen e).num ρ + 1 := by
      show (((elsD (e.data ρ) ++ [r.data ρ]).length : Nat) : Int) = ((elsD (e.data ρ)).length : Int) + 1
      rw [List.length_append]
      rfl
    rw [e1]
    exact addR_ok h ⟨fun l hl => by cases hl; exact Int.le_refl _, fun l hl => by cases hl; exact Int.le_refl _⟩
  | dcat e f ihe ihf =>
    have h1 := ihe (meetT_ok hp ⟨fun l hl => by cases hl; exact Int.natCast_nonneg _, fun l hl => by cases hl⟩)
    have h2 := ihf (meetT_ok hp ⟨fun l hl => by cases hl; exact Int.natCast_nonneg _, fun l hl => by cases hl⟩)
    refine meetT_ok hp ?_
    have e1 : (SE.dlen (.dcat e f)).num ρ = (SE.dlen e).num ρ + (SE.dlen f).num ρ := by
      show (((elsD (e.data ρ) ++ elsD (f.data ρ)).length : Nat) : Int) = ((elsD (e.data ρ)).length : Int) + ((elsD (f.data ρ)).length : Int)
      rw [List.length_append]
      push_cast
      rfl
    rw [e1]
    exact addR_ok h1 h2
  | _ => exact plain
theorem rm_ok {ρ : Nat → Value} {pc : PC} (hp : pc.holds ρ) : ∀ (e : SE), (rm pc e none).has (e.num ρ) ∧ ∀ m, ∃ n, (rm pc e (some m)).has n ∧ SameMod m n (e.num ρ) := by
  intro e
  induction e with
  | int kk n =>
    have h : (⟨some n, some n⟩ : Rng).has n := ⟨fun l hl => by cases hl; exact Int.le_refl _, fun l hl => by cases hl; exact Int.le_refl _⟩
    exact ⟨h, fun m => ⟨n, h, SameMod.refl _ _⟩⟩
  | bin op k a b ih1 ih2 =>
    have plainB := meetT_ok hp (e := .bin op k a b) (binRx_ok (op := op) (k := k) ih1.1 ih2.1)
    refine ⟨?_, fun m => ?_⟩
    · simp only [rm]
      cases hl : isLin op with
      | true =>
        simp only
        refine meetT_ok hp ?_
        rw [lin_num hl]
        split
        · rename_i hf
          have := linR_ok (op := op) ih1.1 ih2.1
          rw [fitted_ok hf this]
          exact this
        · obtain ⟨x, hx, hx2⟩ := ih1.2 k
          obtain ⟨y, hy, hy2⟩ := ih2.2 k
          rw [← wrap_congr k (linI_same (op := op) hx2 hy2)]
          exact fitR_ok (linR_ok hx hy)
      | false =>
        simp only
        split
        · rename_i hz
          unfold remZ at hz
          split at hz
          · rename_i c hc
            simp only [Bool.and_eq_true, Bool.not_eq_true'] at hz
            have hb := sing_eq ih2.1 hc
            have h0 : (SE.bin .rem k a b).num ρ = 0 := by
              have hc0 : (c : Int) ≠ 0 := by
                intro h0
                have : c = 0 := by omega
                subst this
                simp at hz
              refine num_bin ?_
              have hbc : b.num ρ = (c : Int) := hb
              rw [hbc]
              simp only [intBin, if_true, if_neg hc0]
              rw [Int.tmod_eq_zero_of_dvd (mulOf_ok hz.2)]
            rw [h0]
            exact ⟨fun l hl => by cases hl; exact Int.le_refl _, fun l hl => by cases hl; exact Int.le_refl _⟩
          · exact absurd hz (by simp)
        · exact plainB
    · simp only [rm]
      cases hl : isLin op with
      | true =>
        simp only
        split
        · rename_i hf
          refine ⟨_, meetT_ok hp ?_, SameMod.refl _ _⟩
          rw [lin_num hl]
          have := linR_ok (op := op) ih1.1 ih2.1
          rw [fitted_ok hf this]
          exact this
        split
        · rename_i hm
          obtain ⟨x, hx, hx2⟩ := ih1.2 m
          obtain ⟨y, hy, hy2⟩ := ih2.2 m
          exact ⟨_, linR_ok hx hy, (linI_same hx2 hy2).trans (by rw [lin_num hl]; exact wrap_same m k _ hm)⟩
        · exact ⟨_, Rng.has_top _, SameMod.refl _ _⟩
      | false => exact ⟨_, plainB, SameMod.refl _ _⟩
  | conv kk a ih =>
    refine ⟨?_, fun m => ?_⟩
    · simp only [rm]
      refine meetT_ok hp ?_
      have e : (SE.conv kk a).num ρ = kk.wrap (a.num ρ) := rfl
      rw [e]
      split
      · rename_i hf
        rw [fitted_ok hf ih.1]
        exact ih.1
      · obtain ⟨x, hx, hx2⟩ := ih.2 kk
        rw [← wrap_congr kk hx2]
        exact fitR_ok hx
    · simp only [rm]
      split
      · rename_i hf
        refine ⟨_, meetT_ok hp ?_, SameMod.refl _ _⟩
        have e : (SE.conv kk a).num ρ = kk.wrap (a.num ρ) := rfl
        rw [e, fitted_ok hf ih.1]
        exact ih.1
      split
      · rename_i hm
        obtain ⟨x, hx, hx2⟩ := ih.2 m
        exact ⟨x, hx, hx2.trans (wrap_same m kk _ hm)⟩
      · exact ⟨_, Rng.has_top _, SameMod.refl _ _⟩
  | len a _ =>
    have h : (lenR pc a).has ((SE.len a).num ρ) := lenR_ok hp a
    exact ⟨by simpa only [rm] using h, fun m => ⟨_, by simpa only [rm] using h, SameMod.refl _ _⟩⟩
  | dlen a _ =>
    have h := dlenR_ok hp a
    exact ⟨h, fun m => ⟨_, h, SameMod.refl _ _⟩⟩
  | dleaf t a _ =>
    cases t with
    | int k =>
      have h := meetT_ok hp (e := .dleaf (.int k) a) (r := kindR k) (wrap_range k _)
      exact ⟨h, fun m => ⟨_, h, SameMod.refl _ _⟩⟩
    | bool => exact ⟨factsR_ok hp, fun m => ⟨_, factsR_ok hp, SameMod.refl _ _⟩⟩
    | str => exact ⟨factsR_ok hp, fun m => ⟨_, factsR_ok hp, SameMod.refl _ _⟩⟩
  | byte a i _ _ =>
    have h : ((factsR pc (.byte a i)).meet ⟨some 0, some 255⟩).has ((SE.byte a i).num ρ) := by
      have hb : 0 ≤ (SE.byte a i).num ρ ∧ (SE.byte a i).num ρ ≤ 255 := by
        show 0 ≤ byteAt _ _ ∧ byteAt _ _ ≤ 255
        unfold byteAt
        split
        · split
          · rename_i b _
            have := b.toNat_lt
            omega
          · omega
        · omega
      refine Rng.meet_has (factsR_ok hp) ⟨fun l hl => ?_, fun l hl => ?_⟩
      · cases hl; exact hb.1
      · cases hl; exact hb.2
    exact ⟨by simpa only [rm] using h, fun m => ⟨_, by simpa only [rm] using h, SameMod.refl _ _⟩⟩
  | max m a b ih1 ih2 =>
    cases m with
    | false => exact ⟨by simpa only [rm] using factsR_ok hp, fun m => ⟨_, by simpa only [rm] using factsR_ok hp, SameMod.refl _ _⟩⟩
    | true =>
      have h : ((factsR pc (.max true a b)).meet ⟨maxO (rm pc a none).lo (rm pc b none).lo, (match (rm pc a none).hi, (rm pc b none).hi with | some x, some y => some (if x ≤ y then y else x) | _, _ => none)⟩).has ((SE.max true a b).num ρ) := by
        have ih1 := ih1.1
        have ih2 := ih2.1
        refine Rng.meet_has (factsR_ok hp) ?_
        have e : (SE.max true a b).num ρ = if b.num ρ > a.num ρ then b.num ρ else a.num ρ := by simp [SE.num, SE.all]
        rw [e]
        refine ⟨fun l hl => ?_, fun l hl => ?_⟩
        · simp only at hl
          cases e1 : (rm pc a none).lo <;> cases e2 : (rm pc b none).lo <;> simp only [e1, e2, maxO] at hl
          · exact absurd hl (by simp)
          · cases hl; have := ih2.1 _ e2; split <;> omega
          · cases hl; have := ih1.1 _ e1; split <;> omega
          · cases hl; have := ih1.1 _ e1; have := ih2.1 _ e2; split <;> split <;> omega
        · simp only at hl
          split at hl
          · rename_i e1 e2
            cases hl
            have := ih1.2 _ e1
            have := ih2.2 _ e2
            split <;> split <;> omega
          · exact absurd hl (by simp)
      exact ⟨by simpa only [rm] using h, fun m => ⟨_, by simpa only [rm] using h, SameMod.refl _ _⟩⟩
  | ivar kk n =>
    have h : (meetT pc (.ivar kk n) (kindR kk)).has ((SE.ivar kk n).num ρ) := by
      refine meetT_ok hp ?_
      simp only [SE.num, SE.all]
      split
      · exact wrap_range _ _
      · have := wrap_range kk 0
        rwa [wrap_id kk 0 (by cases kk <;> decide) (by cases kk <;> decide)] at this
    exact ⟨by simpa only [rm] using h, fun m => ⟨_, by simpa only [rm] using h, SameMod.refl _ _⟩⟩
  | _ => exact ⟨by simpa only [rm] using factsR_ok hp, fun m => ⟨_, by simpa only [rm] using factsR_ok hp, SameMod.refl _ _⟩⟩

theorem rng_ok {ρ : Nat → Value} {pc : PC} (hp : pc.holds ρ) (e : SE) : (range pc e).has (e.num ρ) := (rm_ok hp e).1

/-! ### Decisions -/
def sameSE (a b : SE) : Bool := a.beq b || (match a, b with
  | .cmp .eql x y, .cmp .eql x' y' => x.beq y' && y.beq x'
  | .eqs x y, .eqs x' y' => x.beq y' && y.beq x'
  | _, _ => false)

theorem sameSE_ok {ρ : Nat → Value} {a b : SE} (h : sameSE a b = true) : a.truth ρ = b.truth ρ := by
  unfold sameSE at h
  rw [Bool.or_eq_true] at h
  rcases h with h | h
  · rw [SE.beq_eq h]
  · split at h
    · simp only [Bool.and_eq_true] at h
      rw [SE.beq_eq h.1, SE.beq_eq h.2, (truth_cmp ρ _ _).1, (truth_cmp ρ _ _).1, Bool.eq_iff_iff, beq_iff_eq, beq_iff_eq]
      exact eq_comm
    · simp only [Bool.and_eq_true] at h
      rw [SE.beq_eq h.1, SE.beq_eq h.2]
      show (_ == _) = (_ == _)
      rw [Bool.eq_iff_iff, bytes_beq', bytes_beq']
      exact eq_comm
    · exact absurd h (by simp)

def findPC (e : SE) : PC → Option Bool
  | [] => none
  | q :: pc => if sameSE q.1 e then some q.2 else findPC e pc

theorem findPC_ok {ρ : Nat → Value} {e : SE} {b : Bool} : ∀ {pc : PC}, pc.holds ρ → findPC e pc = some b → e.truth ρ = b
  | [], _, h => by simp [findPC] at h
  | q :: pc, hp, h => by
    simp only [findPC] at h
    split at h
    · rename_i hs
      cases h
      rw [← sameSE_ok hs]
      exact hp q List.mem_cons_self
    · exact findPC_ok (fun x hx => hp x (List.mem_cons_of_mem _ hx)) h

/-- Two unlike texts, one of them equal to the expression. -/
def otherStr (e : SE) (s : ByteArray) : PC → Bool
  | [] => false
  | (.eqs x y, true) :: pc => (match x, y with
    | x, .str t => x.beq e && !(t == s)
    | .str t, y => y.beq e && !(t == s)
    | _, _ => false) || otherStr e s pc
  | _ :: pc => otherStr e s pc

def ltR (a b : Rng) : Option Bool :=
  match a.hi, b.lo with
  | some h, some l => if h < l then some true else (match a.lo, b.hi with
    | some l', some h' => if h' ≤ l' then some false else none
    | _, _ => none)
  | _, _ => (match a.lo, b.hi with
    | some l', some h' => if h' ≤ l' then some false else none
    | _, _ => none)

theorem ltR_ok {a b : Rng} {i j : Int} {p : Bool} (ha : a.has i) (hb : b.has j) (h : ltR a b = some p) : decide (i < j) = p := by
  have second : (match a.lo, b.hi with | some l', some h' => if h' ≤ l' then some false else none | _, _ => none) = some p → decide (i < j) = p := by
    intro h
    split at h
    · rename_i l' h' h1 h2
      split at h
      · cases h
        have := ha.1 _ h1
        have := hb.2 _ h2
        simp only [decide_eq_false_iff_not]; omega
      · exact absurd h (by simp)
    · exact absurd h (by simp)
  unfold ltR at h
  split at h
  · rename_i hh l h1 h2
    split at h
    · cases h
      have := ha.2 _ h1
      have := hb.1 _ h2
      simp only [decide_eq_true_eq]; omega
    · exact second h
  · exact second h

def eqR (a b : Rng) : Option Bool :=
  match ltR a b, ltR b a with
  | some true, _ => some false
  | _, some true => some false
  | some false, some false => some true
  | _, _ => none

/-! ### Equality of bits -/
theorem SE.beq_refl : ∀ a : SE, a.beq a = true := by
  intro a
  induction a <;> simp_all [SE.beq]
  exact (bytes_beq' _ _).2 rfl

def SE.bitKind : SE → Option IntKind
  | .bin op k _ _ => if isBitOp op then some k else none
  | _ => none
def fits (k : IntKind) (r : Rng) : Bool :=
  match r.lo, r.hi with
  | some l, some h => decide (k.min ≤ l) && decide (h ≤ k.max)
  | _, _ => false
def inList (S : List SE) (l : SE) : Bool := S.any fun x => x.beq l

def eqBitsK (pc : PC) (k : IntKind) (a b : SE) : Option Bool :=
  if (leavesB k a ++ leavesB k b).length ≤ 8 && (fits k (range pc a) && fits k (range pc b)) then
    (let xs := (subs (leavesB k a ++ leavesB k b)).map fun S => Nat.xor (evalN k (2 ^ k.bits - 1) (inList S) a) (evalN k (2 ^ k.bits - 1) (inList S) b)
    if xs.all fun x => Nat.beq x 0 then some true else if Nat.beq (xs.foldr Nat.land (2 ^ k.bits - 1)) 0 then none else some false)
  else none

def eqBits (pc : PC) (a b : SE) : Option Bool :=
  match a.bitKind with
  | some k => eqBitsK pc k a b
  | none => match b.bitKind with
    | some k => eqBitsK pc k a b
    | none => none

theorem inList_filter (p : SE → Bool) (L : List SE) (l : SE) (h : l ∈ L) : inList (L.filter p) l = p l := by
  unfold inList
  rw [Bool.eq_iff_iff, List.any_eq_true]
  constructor
  · rintro ⟨x, hx, hb⟩
    rw [← SE.beq_eq hb]
    exact (List.mem_filter.1 hx).2
  · intro hp
    exact ⟨l, List.mem_filter.2 ⟨h, hp⟩, SE.beq_refl l⟩

theorem foldr_land_bit (j : Nat) : ∀ (xs : List Nat) (f : Nat), (xs.foldr Nat.land f).testBit j = true → f.testBit j = true ∧ ∀ x, x ∈ xs → x.testBit j = true
  | [], f, h => ⟨h, fun x hx => by simp at hx⟩
  | x :: xs, f, h => by
    have h : (x &&& xs.foldr Nat.land f).testBit j = true := h
    rw [Nat.testBit_and, Bool.and_eq_true] at h
    obtain ⟨h1, h2⟩ := foldr_land_bit j xs f h.2
    exact ⟨h1, fun y hy => (List.mem_cons.1 hy).elim (fun e => e ▸ h.1) (fun hy => h2 y hy)⟩

theorem fits_ok {k : IntKind} {r : Rng} {n : Int} (h : fits k r = true) (hr : r.has n) : k.min ≤ n ∧ n ≤ k.max := by
  unfold fits at h
  split at h
  · rename_i l u hl hu
    simp only [Bool.and_eq_true, decide_eq_true_eq] at h
    have := hr.1 _ hl
    have := hr.2 _ hu
    omega
  · exact absurd h (by simp)

theorem lit_inj {k : IntKind} {x y : Int} (hx : k.min ≤ x ∧ x ≤ k.max) (hy : k.min ≤ y ∧ y ≤ k.max) (h : numOfLit k x = numOfLit k y) : x = y := by
  unfold numOfLit at h
  cases k <;> simp only [IntKind.bits, IntKind.min, IntKind.max, IntKind.signed] at * <;> simp at * <;> omega

theorem eqBitsK_ok {ρ : Nat → Value} {pc : PC} (hp : pc.holds ρ) {k : IntKind} {a b : SE} {p : Bool} (h : eqBitsK pc k a b = some p) : (a.num ρ == b.num ρ) = p := by
  unfold eqBitsK at h
  split at h
  · rename_i hc
    simp only [Bool.and_eq_true] at hc
    obtain ⟨_, ha, hb⟩ := hc
    have ra := fits_ok ha (rng_ok hp a)
    have rb := fits_ok hb (rng_ok hp b)
    have bit : ∀ j, j < k.bits → ∃ S, S ∈ subs (leavesB k a ++ leavesB k b) ∧ (evalN k (2 ^ k.bits - 1) (inList S) a).testBit j = (numOfLit k (a.num ρ)).testBit j ∧ (evalN k (2 ^ k.bits - 1) (inList S) b).testBit j = (numOfLit k (b.num ρ)).testBit j := by
      intro j hj
      refine ⟨_, filter_subs (fun l => (numOfLit k (l.num ρ)).testBit j) _, ?_, ?_⟩
      · rw [evalN_bit k j hj, num_bit ρ k j hj]
        exact evalBit_congr k j a (fun l hl => inList_filter _ _ l (List.mem_append_left _ hl))
      · rw [evalN_bit k j hj, num_bit ρ k j hj]
        exact evalBit_congr k j b (fun l hl => inList_filter _ _ l (List.mem_append_right _ hl))
    simp only at h
    split at h
    · rename_i hall
      cases h
      rw [beq_iff_eq]
      refine lit_inj ra rb (Nat.eq_of_testBit_eq fun j => ?_)
      by_cases hj : j < k.bits
      · obtain ⟨S, hS, h1, h2⟩ := bit j hj
        have h0 := List.all_eq_true.1 hall _ (List.mem_map.2 ⟨S, hS, rfl⟩)
        have h0 : evalN k (2 ^ k.bits - 1) (inList S) a ^^^ evalN k (2 ^ k.bits - 1) (inList S) b = 0 := Nat.eq_of_beq_eq_true h0
        rw [← h1, ← h2]
        have h3 : (evalN k (2 ^ k.bits - 1) (inList S) a ^^^ evalN k (2 ^ k.bits - 1) (inList S) b).testBit j = false := by rw [h0]; simp
        rw [Nat.testBit_xor] at h3
        simpa using h3
      · have lt : ∀ x : Int, numOfLit k x < 2 ^ k.bits := fun x => by
          unfold numOfLit
          have h1 := Int.emod_lt_of_pos x (show (0 : Int) < 2 ^ k.bits by cases k <;> decide)
          have h2 := Int.emod_nonneg x (show (2 ^ k.bits : Int) ≠ 0 by cases k <;> decide)
          have : ((x % (2 ^ k.bits : Int)).toNat : Int) < ((2 ^ k.bits : Nat) : Int) := by
            rw [Int.toNat_of_nonneg h2]; push_cast; exact h1
          exact_mod_cast this
        have hle : (2 : Nat) ^ k.bits ≤ 2 ^ j := Nat.pow_le_pow_right (by decide) (by omega)
        rw [Nat.testBit_lt_two_pow (Nat.lt_of_lt_of_le (lt _) hle), Nat.testBit_lt_two_pow (Nat.lt_of_lt_of_le (lt _) hle)]
    · split at h
      · exact absurd h (by simp)
      · rename_i hne
        cases h
        have hne : ¬ ((subs (leavesB k a ++ leavesB k b)).map fun S => Nat.xor (evalN k (2 ^ k.bits - 1) (inList S) a) (evalN k (2 ^ k.bits - 1) (inList S) b)).foldr Nat.land (2 ^ k.bits - 1) = 0 := fun e => hne (by rw [e]; rfl)
        obtain ⟨j, hj⟩ := Nat.exists_testBit_of_ne_zero hne
        obtain ⟨h1, h2⟩ := foldr_land_bit j _ _ hj
        rw [Nat.testBit_two_pow_sub_one] at h1
        have hjk : j < k.bits := by simpa using h1
        obtain ⟨S, hS, h3, h4⟩ := bit j hjk
        have h5 := h2 _ (List.mem_map.2 ⟨S, hS, rfl⟩)
        have h5 : (evalN k (2 ^ k.bits - 1) (inList S) a ^^^ evalN k (2 ^ k.bits - 1) (inList S) b).testBit j = true := h5
        rw [Nat.testBit_xor, h3, h4] at h5
        rw [beq_eq_false_iff_ne]
        intro e
        rw [e] at h5
        simp at h5
  · exact absurd h (by simp)

theorem eqBits_ok {ρ : Nat → Value} {pc : PC} (hp : pc.holds ρ) {a b : SE} {p : Bool} (h : eqBits pc a b = some p) : (a.num ρ == b.num ρ) = p := by
  unfold eqBits at h
  split at h
  · exact eqBitsK_ok hp h
  · split at h
    · exact eqBitsK_ok hp h
    · exact absurd h (by simp)

/-- Are two texts of different lengths? -/
def lenNe (pc : PC) (a b : SE) : Bool :=
  match eqR (lenR pc a) (lenR pc b) with
  | some r => !r
  | none => false
/-- A fact in its one shape, from what is known. -/
def decideC (pc : PC) (e : SE) : Option Bool :=
  match findPC e pc with
  | some b => some b
  | none => match e with
    | .bool b => some b
    | .cmp .eql a b => if a.beq b then some true else (match eqR (range pc a) (range pc b) with
      | some r => some r
      | none => eqBits pc a b)
    | .cmp .lss a b => if a.beq b then some false else ltR (range pc a) (range pc b)
    | .eqs a b => if a.beq b then some true else if lenNe pc a b then some false else (match a, b with
      | .str s, .str t => some (s == t)
      | a, .str s => if otherStr a s pc then some false else none
      | .str s, b => if otherStr b s pc then some false else none
      | _, _ => none)
    | .eqb a b => if a.beq b then some true else none
    | _ => none

theorem bytes_ne {s t : ByteArray} (h : (t == s) = false) : (s == t) = false := by
  cases hst : (s == t) with
  | false => rfl
  | true =>
    rw [(bytes_beq' _ _).1 hst, (bytes_beq' t t).2 rfl] at h
    exact absurd h (by simp)

theorem otherStr_ok {ρ : Nat → Value} {e : SE} {s : ByteArray} : ∀ {pc : PC}, pc.holds ρ → otherStr e s pc = true → (e.text ρ == s) = false
  | [], _, h => by simp [otherStr] at h
  | q :: pc, hp, h => by
    have rest : otherStr e s pc = true → (e.text ρ == s) = false := otherStr_ok (fun x hx => hp x (List.mem_cons_of_mem _ hx))
    have hq := hp q List.mem_cons_self
    unfold otherStr at h
    split at h
    · exact absurd h (by simp)
    · rename_i x y pc' heq
      cases heq
      rw [Bool.or_eq_true] at h
      rcases h with h | h
      · have hq : (x.text ρ == y.text ρ) = true := hq
        rw [bytes_beq'] at hq
        split at h
        · simp only [Bool.and_eq_true, Bool.not_eq_true'] at h
          rw [← SE.beq_eq h.1, hq]
          exact h.2
        · simp only [Bool.and_eq_true, Bool.not_eq_true'] at h
          rw [← SE.beq_eq h.1, ← hq]
          exact h.2
        · exact absurd h (by simp)
      · exact rest h
    · rename_i heq
      cases heq
      exact rest h

theorem eqR_ok {a b : Rng} {i j : Int} {p : Bool} (ha : a.has i) (hb : b.has j) (h : eqR a b = some p) : (i == j) = p := by
  unfold eqR at h
  split at h
  · rename_i hl
    cases h
    have := ltR_ok ha hb hl
    simp only [decide_eq_true_eq] at this
    rw [beq_eq_false_iff_ne]; omega
  · rename_i hl _
    cases h
    have := ltR_ok hb ha hl
    simp only [decide_eq_true_eq] at this
    rw [beq_eq_false_iff_ne]; omega
  · rename_i hl1 hl2
    cases h
    have h1 := ltR_ok ha hb hl1
    have h2 := ltR_ok hb ha hl2
    simp only [decide_eq_false_iff_not] at h1 h2
    rw [beq_iff_eq]; omega
  · exact absurd h (by simp)

theorem lenNe_ok {ρ : Nat → Value} {pc : PC} (hp : pc.holds ρ) {a b : SE} (h : lenNe pc a b = true) : (a.text ρ == b.text ρ) = false := by
  unfold lenNe at h
  split at h
  · rename_i r hr
    have := eqR_ok (lenR_ok hp a) (lenR_ok hp b) hr
    have hr0 : r = false := by simpa using h
    subst hr0
    cases he : (a.text ρ == b.text ρ) with
    | false => rfl
    | true =>
      have e := (bytes_beq' _ _).1 he
      have : ((SE.len a).num ρ == (SE.len b).num ρ) = true := by
        show ((((a.text ρ).size : Nat) : Int) == (((b.text ρ).size : Nat) : Int)) = true
        rw [e]
        simp
      simp_all
  · exact absurd h (by simp)
theorem decideC_ok {ρ : Nat → Value} {pc : PC} (hp : pc.holds ρ) {e : SE} {b : Bool} (h : decideC pc e = some b) : e.truth ρ = b := by
  unfold decideC at h
  split at h
  · cases h
    exact findPC_ok hp ‹_›
  · split at h
    · cases h
      rfl
    · rename_i a c _
      rw [(truth_cmp ρ a c).1]
      split at h
      · rename_i hb
        cases h
        rw [SE.beq_eq hb]; simp
      · split at h
        · rename_i hq
          cases h
          exact eqR_ok (rng_ok hp a) (rng_ok hp c) hq
        · exact eqBits_ok hp h
    · rename_i a c _
      rw [(truth_cmp ρ a c).2.2.1]
      split at h
      · rename_i hb
        cases h
        rw [SE.beq_eq hb]; simp
      · exact ltR_ok (rng_ok hp a) (rng_ok hp c) h
    · rename_i a c _
      have ht : (SE.eqs a c).truth ρ = (a.text ρ == c.text ρ) := rfl
      split at h
      · rename_i hb
        cases h
        rw [ht, SE.beq_eq hb, bytes_beq']
      · split at h
        · rename_i hn
          cases h
          rw [ht]
          exact lenNe_ok hp hn
        split at h
        · cases h; rfl
        · split at h
          · rename_i ho
            cases h
            exact otherStr_ok hp ho
          · exact absurd h (by simp)
        · split at h
          · rename_i ho
            cases h
            rw [ht]
            exact bytes_ne (otherStr_ok hp ho)
          · exact absurd h (by simp)
        · exact absurd h (by simp)
    · rename_i a c _
      split at h
      · rename_i hb
        cases h
        show (a.truth ρ == c.truth ρ) = true
        rw [SE.beq_eq hb]; simp
      · exact absurd h (by simp)
    · exact absurd h (by simp)

/-- Is a fact decided by what is known? -/
def decideB (pc : PC) : SE → Option Bool
  | .and a b => (match findPC (.and a b) pc with
    | some r => some r
    | none => (match decideB pc a, decideB pc b with
      | some false, _ => some false
      | _, some false => some false
      | some true, some true => some true
      | _, _ => none))
  | .not a => (decideB pc a).map (!·)
  | .eqb a b => (match decideB pc a, decideB pc b with
    | some x, some y => some (x == y)
    | _, _ => (decideC pc (SE.eqb a b).canon.1).map fun r => r != (SE.eqb a b).canon.2)
  | e => (decideC pc e.canon.1).map fun b => b != e.canon.2

theorem decideB_ok {ρ : Nat → Value} {pc : PC} (hp : pc.holds ρ) : ∀ {e : SE} {b : Bool}, decideB pc e = some b → e.truth ρ = b := by
  intro e
  have base : ∀ {e : SE} {b : Bool}, ((decideC pc e.canon.1).map fun b => b != e.canon.2) = some b → e.truth ρ = b := by
    intro e b h
    obtain ⟨c, hc, rfl⟩ := Option.map_eq_some_iff.1 h
    have := decideC_ok hp hc
    rw [SE.canon_truth] at this
    rw [← this]
    cases e.truth ρ <;> cases e.canon.2 <;> rfl
  induction e with
  | and a b ih1 ih2 =>
    intro r h
    show (a.truth ρ && b.truth ρ) = r
    simp only [decideB] at h
    split at h
    · rename_i h1
      cases h
      exact findPC_ok hp h1
    · split at h
      · rename_i h1
        cases h
        rw [ih1 h1]; rfl
      · rename_i h1 _
        cases h
        rw [ih2 h1]; simp
      · rename_i h1 h2
        cases h
        rw [ih1 h1, ih2 h2]; rfl
      · exact absurd h (by simp)
  | not a ih =>
    intro r h
    simp only [decideB] at h
    obtain ⟨c, hc, rfl⟩ := Option.map_eq_some_iff.1 h
    show (!a.truth ρ) = !c
    rw [ih hc]
  | eqb a b ih1 ih2 =>
    intro r h
    simp only [decideB] at h
    split at h
    · rename_i x y h1 h2
      cases h
      show (a.truth ρ == b.truth ρ) = (x == y)
      rw [ih1 h1, ih2 h2]
    · exact base h
  | _ => intro r h; exact base (by simpa only [decideB] using h)

/-- A fact more. -/
def addPC : SE → Bool → PC → PC
  | .not a, b, pc => addPC a (!b) pc
  | .and x y, true, pc => addPC x true (addPC y true pc)
  | .eqb x (.bool v), b, pc => addPC x (b == v) pc
  | e, b, pc => (e.canon.1, b != e.canon.2) :: pc

theorem addPC_ok {ρ : Nat → Value} : ∀ {e : SE} {b : Bool} {pc : PC}, pc.holds ρ → e.truth ρ = b → (addPC e b pc).holds ρ := by
  intro e
  have base : ∀ {e : SE} {b : Bool} {pc : PC}, pc.holds ρ → e.truth ρ = b → PC.holds ρ ((e.canon.1, b != e.canon.2) :: pc) := fun hp he => PC.holds_cons (by rw [SE.canon_truth, he]) hp
  induction e with
  | not a ih =>
    intro b pc hp he
    simp only [addPC]
    refine ih hp ?_
    rw [← he]
    show _ = !!(a.truth ρ)
    simp
  | and x y ih1 ih2 =>
    intro b pc hp he
    cases b with
    | true =>
      simp only [addPC]
      have he : (x.truth ρ && y.truth ρ) = true := he
      rw [Bool.and_eq_true] at he
      exact ih1 (ih2 hp he.2) he.1
    | false => exact base hp he
  | eqb x y ih1 ih2 =>
    intro b pc hp he
    cases y with
    | bool v =>
      simp only [addPC]
      refine ih1 hp ?_
      have he : (x.truth ρ == v) = b := he
      rw [← he]
      cases x.truth ρ <;> cases v <;> rfl
    | _ => exact base hp he
  | _ => intro b pc hp he; exact base hp he

end
end Go.Sx
