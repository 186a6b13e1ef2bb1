/- The interpreter that follows every branch of an unknown scalar, with what is known on the way; each of its steps has one outcome for given scalars. -/
import Derived.Test.YtaidiaiedhbaoaaSx23
/- The interpreter that follows every branch of an unknown scalar, with what is known on the way; each of its steps has one outcome for given scalars. -/
set_option linter.unusedVariables false
set_option linter.unusedSimpArgs false
namespace Go.Sx
noncomputable section

abbrev CallF := PC → Nat → List V → Heap → Option (List (PC × V × Heap))

/-- The values that an unknown number may have. -/
def splits (pc : PC) (e : SE) : Option (List Int) :=
  match (range pc e).lo, (range pc e).hi with
  | some l, some h => if h - l < 64 then some ((List.range (h - l + 1).toNat).map (fun (n : Nat) => l + (n : Int))) else none
  | _, _ => none

def keeps : Option Bool → Bool
  | some false => false
  | _ => true

/-- A number in its place, each value it may have. -/
def forkV (pc : PC) : V → Option (List (PC × V))
  | .sym (.int k) e => (splits pc e).map fun l => (l.filter fun j => keeps (decideC pc (.cmp .eql e (.int k j)))).map fun j => ((.cmp .eql e (.int k j), true) :: pc, .val (.int k j))
  | v => some [(pc, v)]

def forkO (pc : PC) : Option V → Option (List (PC × Option V))
  | none => some [(pc, none)]
  | some v => (forkV pc v).map fun l => l.map fun q => (q.1, some q.2)

/-- A Bool, or both. -/
def forkB (pc : PC) (e : SE) : List (PC × Bool) :=
  match decideB pc e with
  | some b => [(pc, b)]
  | none => [(addPC e true pc, true), (addPC e false pc, false)]

def forkC (pc : PC) : V → Option (List (PC × Bool))
  | .val (.bool b) => some [(pc, b)]
  | .sym .bool e => some (forkB pc e)
  | _ => none

def forkG (pc : PC) (ops : Array Oper) (env : Env) (o : Oper) : Option (List (PC × Bool)) :=
  match o.guard with
  | none => some [(pc, true)]
  | some (j, want) => match (ops[j]?).bind (·.dst) with
    | some d => (match evT env d with
      | .tuple [] => some [(pc, false)]
      | v => (forkC pc v).map fun l => l.map fun q => (q.1, q.2 == want))
    | none => some [(pc, false)]

/-- A function without arguments that gives a scalar runs in a heap of its own; or what it gives is known. -/
def boxedF (kn : Nat → Option V) (cl : CallF) (tb : Tb) : CallF := fun pc f args H =>
  if args.isEmpty && scalarFn tb f then (match kn f with
    | some v => some [(pc, v, H)]
    | none => (cl [] f [] H0).bind fun L => if L.all fun r => plainV r.2.1 && r.1.isEmpty then some (L.map fun r => (pc, r.2.1, H)) else none)
  else cl pc f args H

def evalCallF (kn : Nat → Option V) (cl : CallF) (tb : Tb) (pc : PC) (env : Env) (H : Heap) (c : Call) : Option (List (PC × V × Heap)) :=
  match c.callee with
  | .value f => (match ev tb env f with
    | .func (.func g) first captured => if Nat.blt g roundBase then (match evalExt tb g (first ++ c.args.toList.map (ev tb env) ++ captured) with
      | some v => some [(pc, v, { H with base := H.next, low := none })]
      | none => boxedF kn cl tb pc g (first ++ c.args.toList.map (ev tb env) ++ captured) { H with base := H.next, low := none }) else none
    | _ => none)
  | _ => none

def one1' {α : Type} : Option (List α) → Option α
  | some [a] => some a
  | _ => none

/-- Two texts joined, where both lengths are known to be small. -/
def catF (pc : PC) (op : BinOp) (a b : SE) : Option V :=
  if op == .add then (match decideB pc (.cmp .lss (.len a) (.int .i64 4611686018427387904)), decideB pc (.cmp .lss (.len b) (.int .i64 4611686018427387904)) with
    | some true, some true => some (.sym .str (.cat a b))
    | _, _ => none) else none
/-- A division by, or a shift by, an unknown number that is known to be allowed. -/
def symDivF (pc : PC) (op : BinOp) (x y : V) : Option V :=
  match y with
  | .sym (.int k') b => (match toSE x with
    | some (.int k, a) => if (op == .quo || op == .rem) && k == k' then (match decideC pc (.cmp .eql b (.int k 0)) with
          | some false => some (.sym (.int k) (.bin op k a b))
          | _ => none)
        else if op == .shl || op == .shr then (match (range pc b).lo with
          | some l => if 0 ≤ l then some (.sym (.int k) (.bin op k a b)) else none
          | none => none)
        else none
    | _ => none)
  | .sym .str b => (match x with
    | .sym .str a => catF pc op a b
    | .val (.string s) => catF pc op (.str s) b
    | _ => none)
  | .val (.string t) => (match x with
    | .sym .str a => catF pc op a (.str t)
    | _ => none)
  | _ => none

def surely : Option Bool → Bool
  | some b => b
  | none => false
/-- The last place of a text that is not empty (and not huge). -/
def lastIx (pc : PC) (e : SE) : SE → Bool
  | .bin .sub .i64 (.len e') (.int .i64 i) => e'.beq e && (i == 1 && (surely (decideB pc (.cmp .lss (.int .i64 0) (.len e))) && surely (decideB pc (.cmp .lss (.len e) (.int .i64 4611686018427387904)))))
  | _ => false
/-- A byte of an unknown text, where it is known to be there. -/
def symIndexF (tb : Tb) (pc : PC) (T : TypeId) (e : SE) (i : V) : Option V :=
  match tb.desc T, toSE i with
  | some .string, some (.int _, ie) => if (surely (decideB pc (.cmp .leq (.int .i64 0) ie)) && surely (decideB pc (.cmp .lss ie (.len e)))) || lastIx pc e ie then some (.sym (.int .u8) (.byte e ie)) else none
  | _, _ => none

/-- x + 1: the x. -/
def succOf : SE → Option SE
  | .bin .add .i64 a (.int .i64 i) => if i = 1 then some a else none
  | .bin .add .i64 (.int .i64 i) a => if i = 1 then some a else none
  | _ => none
/-- Whether a number is surely not above another one. -/
def leqF (pc : PC) (a b : SE) : Bool := a.beq b || (surely (decideB pc (.cmp .leq a b)) || (surely (decideB pc (.cmp .lss a b)) || (surely (decideB pc (.cmp .eql a b)) || (match succOf a with
  | some x => surely (decideB pc (.cmp .lss x b)) && (surely (decideB pc (.cmp .leq (.int .i64 0) x)) && surely (decideB pc (.cmp .lss x (.int .i64 4611686018427387904))))
  | none => false))))
/-- An unknown text cut, where the bounds are known to be good. -/
def symSliceF (tb : Tb) (pc : PC) (T : TypeId) (e : SE) (lo hi mx : Option V) : Option V :=
  match tb.desc T, mx, boundSE lo (.int .i64 0), boundSE hi (.len e) with
  | some .string, none, some a, some b => if leqF pc (.int .i64 0) a && (leqF pc a b && leqF pc b (.len e)) then some (.sym .str (.sub e a b)) else none
  | _, _, _, _ => none

/-! ### Unknown lists -/
def withinF (pc : PC) (i n : SE) : Bool := surely (decideB pc (.cmp .leq (.int .i64 0) i)) && surely (decideB pc (.cmp .lss i n))
def inOrderF (pc : PC) (a b n : SE) : Bool := leqF pc (.int .i64 0) a && (leqF pc a b && leqF pc b n)
def fitsF (pc : PC) (k : IntKind) (a : SE) : Bool := fitted k (range pc a)
def smallF (pc : PC) (n m : SE) (by_ : Nat) : Bool :=
  match (range pc n).hi, (range pc m).hi with
  | some x, some y => decide ((x + y) * (by_ : Int) ≤ 140737488355328)
  | _, _ => false
def fewF (pc : PC) (c : SE) : Bool :=
  match (range pc (.len c)).hi with
  | some x => decide (x ≤ 140737488355328)
  | none => false
def appendF (pc : PC) (tb : Tb) (H : Heap) (T1 T2 : TypeId) (s x : V) : Option (List (PC × V × Heap)) :=
  match kOf s x with
  | some _ => (appendS (fitsF pc) (smallF pc) tb H T1 T2 s x).map fun r => (match r.1 with
    | some n => (forkB pc (.cmp .eql n (.int .i64 0))).map fun b => (b.1, if b.2 then (s, H) else r.2)
    | none => [(pc, r.2)])
  | none => (evalAppend0 tb H T1 T2 s x).map fun r => [(pc, r)]

/-- One operation: for each path one outcome. -/
def evalOpF (kn : Nat → Option V) (cl : CallF) (P : Program) (tb : Tb) (pc : PC) (env : Env) (H : Heap) (o : Op) : Option (List (PC × V × Heap × Bool)) :=
  match o with
  | .call { callee := .value f, args, argTypes } => (evalCallF kn cl tb pc env H { callee := .value f, args, argTypes }).map fun L => L.map fun r => (r.1, r.2.1, back H r.2.2, r.2.2.low.isSome)
  | .index t x i => (match ev tb env x with
    | .sym .str e => (symIndexF tb pc t e (ev tb env i)).map fun v => [(pc, v, H, false)]
    | y => (forkV pc (ev tb env i)).bind fun l => bindL l fun q => (evalIndex0 tb t y q.2).map fun v => [(q.1, v, H, false)])
  | .indexAddr t x i => (match ev tb env x with
    | .sli k _ e _ => (symIndexAddr (withinF pc) tb t k e (ev tb env i)).map fun v => [(pc, v, H, false)]
    | y => (forkV pc (ev tb env i)).bind fun l => bindL l fun q => (evalIndexAddr0 tb t y q.2).map fun v => [(q.1, v, H, false)])
  | .slice t x lo hi mx => (match ev tb env x with
    | .sym .str e => (symSliceF tb pc t e (lo.map (ev tb env)) (hi.map (ev tb env)) (mx.map (ev tb env))).map fun v => [(pc, v, H, false)]
    | .sli k nl e _ => (listSlice (inOrderF pc) tb t k nl e (lo.map (ev tb env)) (hi.map (ev tb env)) (mx.map (ev tb env))).map fun v => [(pc, v, H, false)]
    | y => (forkO pc (lo.map (ev tb env))).bind fun l => bindL l fun q => (forkO q.1 (hi.map (ev tb env))).bind fun l2 => bindL l2 fun q2 => (evalSlice0 tb t y q.2 q2.2 (mx.map (ev tb env))).map fun v => [(q2.1, v, H, false)])
  | .convert s d x => (match ev tb env x with
    | .sym .str c => if isStrT tb s && isBytesT tb d then (bytesOfText (fewF pc) c).map fun v => [(pc, v, H, false)] else (evalConv0 P tb s d (.sym .str c)).map fun v => [(pc, v, H, false)]
    | _ => (one1' (evalOp (fun _ _ _ => none) P tb env H (.convert s d x))).map fun r => [(pc, r)])
  | .call { callee := .builtin .append, args, argTypes } => (match args.toList, argTypes.toList with
    | [s, x], [t1, t2] => (forkV pc (ev tb env x)).bind fun l => bindL l fun q => (appendF q.1 tb H t1 t2 (ev tb env s) q.2).map fun L => L.map fun r => (r.1, r.2.1, r.2.2, !softOp tb env (.call { callee := .builtin .append, args, argTypes }))
    | _, _ => none)
  | .binOp op t x y p => (match symDivF pc op (ev tb env x) (ev tb env y) with
    | some v => some [(pc, v, H, false)]
    | none => (one1' (evalOp (fun _ _ _ => none) P tb env H (.binOp op t x y p))).map fun r => [(pc, r)])
  | .pick c a b => (match ev tb env c with
    | .sym .bool e => some ((forkB pc e).map fun q => (q.1, if q.2 then ev tb env a else ev tb env b, H, false))
    | _ => (one1' (evalOp (fun _ _ _ => none) P tb env H (.pick c a b))).map fun r => [(pc, r)])
  | .lookup t x k ok => (forkV pc (ev tb env k)).bind fun l => bindL l fun q => (evalLookup tb H t (ev tb env x) q.2 ok).map fun v => [(q.1, v, H, false)]
  | .mapUpdate t x k v => (forkV pc (ev tb env k)).bind fun l => bindL l fun q => (evalMapUpdate tb H t (ev tb env x) q.2 (ev tb env v)).map fun H' => [(q.1, V.undef, H', true)]
  | .call { callee := .builtin .delete, args, argTypes } => (match args.toList, argTypes.toList with
    | x :: k :: _, t :: _ => (forkV pc (ev tb env k)).bind fun l => bindL l fun q => (evalDelete tb H t (ev tb env x) q.2).map fun H' => [(q.1, V.tuple [], H', true)]
    | _, _ => none)
  | o => (one1' (evalOp (fun _ _ _ => none) P tb env H o)).map fun r => [(pc, r)]

def execOpsF (kn : Nat → Option V) (cl : CallF) (P : Program) (tb : Tb) (ops : Array Oper) : List Oper → Nat → Marks → PC → St → Option (List (PC × St × Marks))
  | [], _, hard, pc, st => some [(pc, st, hard)]
  | o :: l, i, hard, pc, st => (forkG pc ops st.env o).bind fun gs => bindL gs fun g => match g.2 with
    | false => execOpsF kn cl P tb ops l (i + 1) hard g.1 { st with env := putT st.env o.dst V.undef }
    | true => (evalOpF kn cl P tb g.1 st.env st.h o.op).bind fun L => bindL L fun r =>
        execOpsF kn cl P tb ops l (i + 1) (addMark tb st.env st.h r.2.2.1 o.op r.2.2.2 i hard) r.1 { env := putT st.env o.dst r.2.1, h := r.2.2.1 }

/-! ### Paths that meet again -/
def V.sameS : Nat → V → V → Bool
  | 0, _, _ => false
  | n + 1, a, b => match a, b with
    | .sym t e, .sym t' e' => t == t' && e.beq e'
    | .list i es t, .list i' es' t' => i == i' && (t == t' && sameL (sameL (V.sameS n)) es es')
    | .agg cs, .agg ds => sameL (V.sameS n) cs ds
    | .tuple cs, .tuple ds => sameL (V.sameS n) cs ds
    | a, b => V.same (n + 1) a b
def sameV : Option V → Option V → Bool
  | some x, some y => V.sameS 12 x y
  | none, none => true
  | _, _ => false
def sameTr {α : Type} (f : Option α → Option α → Bool) : Tr α → Tr α → Bool
  | .leaf, .leaf => true
  | .node l v r, .node l' v' r' => sameTr f l l' && (f v v' && sameTr f r r')
  | _, _ => false
def sameSt (a b : St) : Bool := sameTr sameV a.env b.env && (Nat.beq a.h.next b.h.next && (Nat.beq a.h.base b.h.base && (a.h.low == b.h.low && sameTr (sameO Blk.same) a.h.tab b.h.tab)))
def joinPC (p q : PC) : PC := p.filter fun f => q.any fun g => f.1.beq g.1 && f.2 == g.2
def isNormal : Ex → Bool
  | .normal => true
  | _ => false
def insertP (r : PC × Ex × St) : List (PC × Ex × St) → List (PC × Ex × St)
  | [] => [r]
  | q :: l => if isNormal r.2.1 && (isNormal q.2.1 && sameSt r.2.2 q.2.2) then (joinPC r.1 q.1, q.2) :: l else q :: insertP r l
def mergeP : List (PC × Ex × St) → List (PC × Ex × St)
  | [] => []
  | [r] => [r]
  | r :: l => insertP r (mergeP l)
/-- One number under two names. -/
def matchSE (pc : PC) (e : SE) : SE → Bool
  | .ite c a b => e.beq (.ite c a b) || (match decideB pc c with
    | some true => matchSE pc e a
    | some false => matchSE pc e b
    | none => false)
  | d => e.beq d
def provedEq (pc : PC) (kk : IntKind) (m : Nat) (e : SE) : Bool :=
  e.beq (.ivar kk m) || pc.any fun f => f.2 && (match f.1 with
    | .cmp .eql a d => a.beq (.ivar kk m) && matchSE pc e d
    | _ => false)
def renameF (tb : Tb) (pc : PC) (k t : Nat) (v : V) : Option V :=
  match v with
  | .sym (.int kk) e => (match tb.ren k t e with
    | some m => if provedEq pc kk m e then some (.sym (.int kk) (.ivar kk m)) else none
    | none => some v)
  | v => some v
def renEnvF (tb : Tb) (pc : PC) (k : Nat) : List Nat → Env → Option Env
  | [], env => some env
  | t :: l, env => (renameF tb pc k t (evT env t)).bind fun v => renEnvF tb pc k l (env.set t v)
def forgetF (tb : Tb) (pc : PC) (k : Nat) (st : St) : Option St :=
  match tb.dead k with
  | [] => some st
  | l => (renEnvF tb pc k (tb.renT k) (deadEnv l st.env)).map fun env => { env := env, h := st.h.sweep env }
def forgetP (tb : Tb) (k : Nat) (r : PC × Ex × St) : Option (List (PC × Ex × St)) :=
  match r.2.1 with
  | .normal => (forgetF tb r.1 k r.2.2).map fun st => [(r.1, .normal, st)]
  | e => some [(r.1, e, r.2.2)]
def meetP (tb : Tb) (k : Nat) (L : List (PC × Ex × St)) : Option (List (PC × Ex × St)) :=
  match tb.dead k with
  | [] => some L
  | _ => (bindL L (forgetP tb k)).map mergeP
def loopP (tb : Tb) (k : Nat) (L : List (PC × Ex × St)) : Option (List (PC × Ex × St)) := (bindL L (forgetP tb k)).map mergeP

theorem V.sameS_eq : ∀ (n : Nat) (a b : V), V.sameS n a b = true → a = b
  | 0, _, _, h => by simp [V.sameS] at h
  | n + 1, a, b, h => by
    have ih := V.sameS_eq n
    unfold V.sameS at h
    split at h <;> (try simp only [Bool.and_eq_true] at h)
    · rw [eq_of_beq h.1, SE.beq_eq h.2]
    · rw [eq_of_beq h.1, eq_of_beq h.2.1, sameL_eq (fun _ _ => sameL_eq ih) h.2.2]
    · rw [sameL_eq ih h]
    · rw [sameL_eq ih h]
    · exact V.same_eq _ _ _ h
theorem sameV_eq {a b : Option V} (h : sameV a b = true) : a = b := by
  unfold sameV at h
  split at h
  · rw [V.sameS_eq _ _ _ h]
  · rfl
  · exact absurd h (by simp)
theorem sameTr_eq {α : Type} {f : Option α → Option α → Bool} (hf : ∀ a b, f a b = true → a = b) : ∀ {s t : Tr α}, sameTr f s t = true → s = t
  | .leaf, .leaf, _ => rfl
  | .node l v r, .node l' v' r', h => by
    simp only [sameTr, Bool.and_eq_true] at h
    rw [sameTr_eq hf h.1, hf _ _ h.2.1, sameTr_eq hf h.2.2]
  | .leaf, .node .., h => by simp [sameTr] at h
  | .node .., .leaf, h => by simp [sameTr] at h
theorem sameSt_eq {a b : St} (h : sameSt a b = true) : a = b := by
  unfold sameSt at h
  simp only [Bool.and_eq_true] at h
  obtain ⟨h1, h2, h3, h4, h5⟩ := h
  obtain ⟨ea, ⟨ta, na, ba, la⟩⟩ := a
  obtain ⟨eb, ⟨tb, nb, bb, lb⟩⟩ := b
  have e1 : ea = eb := sameTr_eq (fun _ _ => sameV_eq) h1
  have e2 : na = nb := Nat.eq_of_beq_eq_true h2
  have e3 : ba = bb := Nat.eq_of_beq_eq_true h3
  have e4 : la = lb := by simpa using h4
  have e5 : ta = tb := sameTr_eq (fun _ _ => sameO_eq) h5
  subst e1 e2 e3 e4 e5
  rfl
theorem joinPC_ok {ρ : Nat → Value} {p q : PC} (h : p.holds ρ ∨ q.holds ρ) : (joinPC p q).holds ρ := by
  intro f hf
  obtain ⟨h1, h2⟩ := List.mem_filter.1 hf
  rcases h with h | h
  · exact h f h1
  · rw [List.any_eq_true] at h2
    obtain ⟨g, hg, hb⟩ := h2
    simp only [Bool.and_eq_true] at hb
    rw [SE.beq_eq hb.1, eq_of_beq hb.2]
    exact h g hg
theorem insertP_ok {ρ : Nat → Value} {r : PC × Ex × St} : ∀ {l : List (PC × Ex × St)} {x : PC × Ex × St}, (x = r ∨ x ∈ l) → x.1.holds ρ → ∃ q, q ∈ insertP r l ∧ q.2 = x.2 ∧ q.1.holds ρ
  | [], x, hx, hp => by
    rcases hx with rfl | hx
    · exact ⟨_, List.mem_singleton_self _, rfl, hp⟩
    · simp at hx
  | q :: l, x, hx, hp => by
    simp only [insertP]
    split
    · rename_i hc
      simp only [Bool.and_eq_true] at hc
      have e : r.2 = q.2 := by
        obtain ⟨pr, er, sr⟩ := r
        obtain ⟨pq, eq, sq⟩ := q
        simp only at hc
        have h1 : er = .normal := by cases er <;> simp [isNormal] at hc ⊢
        have h2 : eq = .normal := by cases eq <;> simp [isNormal] at hc ⊢
        rw [h1, h2, sameSt_eq hc.2.2]
      rcases hx with rfl | hx
      · exact ⟨_, List.mem_cons_self, e.symm, joinPC_ok (.inl hp)⟩
      · rcases List.mem_cons.1 hx with rfl | hx
        · exact ⟨_, List.mem_cons_self, rfl, joinPC_ok (.inr hp)⟩
        · exact ⟨x, List.mem_cons_of_mem _ hx, rfl, hp⟩
    · rcases hx with rfl | hx
      · obtain ⟨q', h1, h2⟩ := insertP_ok (r := x) (l := l) (.inl rfl) hp
        exact ⟨q', List.mem_cons_of_mem _ h1, h2⟩
      · rcases List.mem_cons.1 hx with rfl | hx
        · exact ⟨x, List.mem_cons_self, rfl, hp⟩
        · obtain ⟨q', h1, h2⟩ := insertP_ok (r := r) (l := l) (.inr hx) hp
          exact ⟨q', List.mem_cons_of_mem _ h1, h2⟩
theorem mergeP_ok {ρ : Nat → Value} : ∀ {l : List (PC × Ex × St)} {x : PC × Ex × St}, x ∈ l → x.1.holds ρ → ∃ q, q ∈ mergeP l ∧ q.2 = x.2 ∧ q.1.holds ρ
  | [], x, hx, _ => by simp at hx
  | [r], x, hx, hp => ⟨x, hx, rfl, hp⟩
  | r :: r2 :: l, x, hx, hp => by
    show ∃ q, q ∈ insertP r (mergeP (r2 :: l)) ∧ _
    rcases List.mem_cons.1 hx with rfl | hx
    · exact insertP_ok (.inl rfl) hp
    · obtain ⟨q, h1, h2, h3⟩ := mergeP_ok hx hp
      obtain ⟨q', h4, h5, h6⟩ := insertP_ok (r := r) (.inr h1) h3
      exact ⟨q', h4, h5.trans h2, h6⟩

/-- The ways out of a known loop, each with its conditions. -/
def OTree.paths (H : Heap) : OTree → PC → List (PC × Ex × St)
  | .leaf e env ds nx, pc => [(pc, e, { env := env, h := H.up ds nx })]
  | .node c a b, pc => (match decideB pc c with
    | some true => a.paths H pc
    | some false => b.paths H pc
    | none => a.paths H (addPC c true pc) ++ b.paths H (addPC c false pc))
theorem OTree.paths_ok {ρ : Nat → Value} {H : Heap} : ∀ (t : OTree) {pc : PC}, pc.holds ρ → ∃ q, q ∈ t.paths H pc ∧ q.1.holds ρ ∧ q.2 = t.eval ρ H
  | .leaf e env ds nx, pc, hp => ⟨_, List.mem_singleton_self _, hp, rfl⟩
  | .node c a b, pc, hp => by
    unfold OTree.paths OTree.eval
    split
    · rename_i hd
      rw [if_pos (decideB_ok hp hd)]
      exact OTree.paths_ok a hp
    · rename_i hd
      rw [if_neg (by rw [decideB_ok hp hd]; simp)]
      exact OTree.paths_ok b hp
    · cases hc : c.truth ρ with
      | true =>
        obtain ⟨q, h1, h2, h3⟩ := OTree.paths_ok a (addPC_ok hp hc)
        exact ⟨q, List.mem_append_left _ h1, h2, by rw [h3]; simp⟩
      | false =>
        obtain ⟨q, h1, h2, h3⟩ := OTree.paths_ok b (addPC_ok hp hc)
        exact ⟨q, List.mem_append_right _ h1, h2, by rw [h3]; simp⟩

def stepF (kn : Nat → Option V) (cl : CallF) (P : Program) (tb : Tb) (ih : Tk → PC → St → Option (List (PC × Ex × St))) : Tk → PC → St → Option (List (PC × Ex × St))
  | .code .skip, pc, st | .code (.label _), pc, st => some [(pc, .normal, st)]
  | .code (.region _ ops draw), pc, st => (execOpsF kn cl P tb ops ops.toList 0 [] pc st).bind fun L =>
      if draw then (if L.all fun r => drawOk ops r.2.2 then some (L.map fun r => (r.1, .normal, r.2.1)) else none) else some (L.map fun r => (r.1, .normal, r.2.1))
  | .code (.seq a b), pc, st => ((ih (.code a) pc st).bind (meetP tb (loopKey b + 1048576))).bind fun L => bindL L fun r => match r.2.1 with
      | .normal => ih (.code b) r.1 r.2.2
      | e => some [(r.1, e, r.2.2)]
  | .code (.cond c x y), pc, st => (forkC pc (ev tb st.env c)).bind fun L => bindL L fun q => match q.2 with
      | true => ih (.code x) q.1 st
      | false => ih (.code y) q.1 st
  | .code (.block id c), pc, st => (ih (.code c) pc st).map fun L => L.map fun r => (r.1, (match r.2.1 with
      | .exit j => if j = id then .normal else .exit j
      | e => e), r.2.2)
  | .code (.loop c), pc, st => (match tb.loopT (loopK c) st with
    | some t => some (t.paths st.h pc)
    | none => ((ih (.code c) pc st).bind (loopP tb (loopKey c))).bind fun L => bindL L fun r => match r.2.1 with
      | .normal => ih (.code (.loop c)) r.1 r.2.2
      | e => some [(r.1, e, r.2.2)])
  | .code (.exit id), pc, st => some [(pc, .exit id, st)]
  | .code (.goto l), pc, st => some [(pc, .goto l, st)]
  | .code .ret, pc, st => some [(pc, .ret, st)]
  | .code (.scope c), pc, st => ih (.within c c) pc st
  | .within body c, pc, st => (ih (.code c) pc st).bind fun L => bindL L fun r => match r.2.1 with
      | .goto l => (match findLabel body l with
        | some rest => ih (.within body rest) r.1 r.2.2
        | none => some [(r.1, .goto l, r.2.2)])
      | e => some [(r.1, e, r.2.2)]
  | _, _, _ => none

def execF (kn : Nat → Option V) (cl : CallF) (P : Program) (tb : Tb) (n : Nat) : Tk → PC → St → Option (List (PC × Ex × St)) :=
  Nat.rec (fun _ _ _ => none) (fun _ ih => stepF kn cl P tb ih) n

def stepCallF (kn : Nat → Option V) (P : Program) (tb : Tb) (n : Nat) (cl : CallF) : CallF := fun pc f args H =>
  if Nat.ble roundBase f then none else
  match tb.spec f args H with
  | some r => some [(r.2 ++ pc, r.1, H)]
  | none => match tb.func f with
  | none => none
  | some fn => match fn.body with
    | none => none
    | some c => if fn.ntmps < 1048576 && args.length ≤ fn.ntmps then
        (execF kn cl P tb n (.code c) pc { env := putArgs 0 args .leaf, h := H }).bind fun L => bindL L fun r => match r.2.1 with
          | .normal | .ret => (resultsOf tb fn r.2.2).map fun v => [(r.1, v, r.2.2.h)]
          | _ => none
      else none

def callF (kn : Nat → Option V) (P : Program) (tb : Tb) (n0 n : Nat) : CallF := Nat.rec (fun _ _ _ _ => none) (fun n cl => stepCallF kn P tb (n0 + n) cl) n

/-! ### For given scalars one of the paths is the interpreter's -/
section
variable {P : Program} {tb : Tb}

/-- One path of a list. -/
def Path {α β : Type} (ρ : Nat → Value) (o : Option (List α)) (a : PC → β → α) (r : Option β) : Prop := ∀ L, o = some L → ∃ pc b, r = some b ∧ PC.holds ρ pc ∧ a pc b ∈ L

theorem bindL_in' {α β : Type} {f : α → Option (List β)} : ∀ {l : List α} {L : List β}, bindL l f = some L → ∀ x, x ∈ l → ∃ Lx, f x = some Lx ∧ ∀ y, y ∈ Lx → y ∈ L
  | [], L, h, x, hx => by simp at hx
  | a :: l, L, h, x, hx => by
    simp only [bindL, Option.bind_eq_some_iff, Option.map_eq_some_iff] at h
    obtain ⟨A, hA, B, hB, rfl⟩ := h
    rcases List.mem_cons.1 hx with rfl | hx
    · exact ⟨A, hA, fun y hy => List.mem_append_left _ hy⟩
    · obtain ⟨Lx, h1, h2⟩ := bindL_in' hB x hx
      exact ⟨Lx, h1, fun y hy => List.mem_append_right _ (h2 y hy)⟩

theorem bindL_one {α β : Type} {f : α → Option (List β)} {a : α} {b : β} (h : f a = some [b]) : bindL [a] f = some [b] := by simp [bindL, h]

theorem one1'_eq {α : Type} {x : Option (List α)} {a : α} (h : one1' x = some a) : x = some [a] := by
  unfold one1' at h
  split at h
  · cases h; rfl
  · exact absurd h (by simp)

theorem told_told (tb : Tb) (v : V) : told tb (told tb v) = told tb v := by
  cases v with
  | sym t e => cases t <;> rfl
  | _ => rfl

theorem forkV_ok {pc : PC} (hp : pc.holds tb.rho) {v : V} {l : List (PC × V)} (h : forkV pc v = some l) : ∃ q, q ∈ l ∧ q.1.holds tb.rho ∧ told tb q.2 = told tb v := by
  unfold forkV at h
  split at h
  · rename_i k e
    obtain ⟨js, hj, rfl⟩ := Option.map_eq_some_iff.1 h
    have hr := rng_ok hp e
    unfold splits at hj
    split at hj
    · rename_i lo hi h1 h2
      split at hj
      · cases hj
        have h3 := hr.1 _ h1
        have h4 := hr.2 _ h2
        have ht : (SE.cmp .eql e (.int k (e.num tb.rho))).truth tb.rho = true := by
          rw [(truth_cmp _ _ _).1]
          simp [SE.num, SE.all]
        refine ⟨((.cmp .eql e (.int k (e.num tb.rho)), true) :: pc, .val (.int k (e.num tb.rho))), ?_, PC.holds_cons ht hp, rfl⟩
        refine List.mem_map.2 ⟨e.num tb.rho, List.mem_filter.2 ⟨List.mem_map.2 ⟨(e.num tb.rho - lo).toNat, List.mem_range.2 (by omega), by omega⟩, ?_⟩, rfl⟩
        cases hd : decideC pc (.cmp .eql e (.int k (e.num tb.rho))) with
        | none => rfl
        | some b =>
          have := decideC_ok hp hd
          rw [ht] at this
          rw [← this]
          rfl
      · exact absurd hj (by simp)
    · exact absurd hj (by simp)
  · cases h
    exact ⟨_, List.mem_singleton_self _, hp, rfl⟩

theorem forkB_ok {pc : PC} (hp : pc.holds tb.rho) (e : SE) : ∃ q, q ∈ forkB pc e ∧ q.1.holds tb.rho ∧ e.truth tb.rho = q.2 := by
  unfold forkB
  split
  · exact ⟨_, List.mem_singleton_self _, hp, decideB_ok hp ‹_›⟩
  · cases h : e.truth tb.rho with
    | true => exact ⟨_, List.mem_cons_self, addPC_ok hp h, rfl⟩
    | false => exact ⟨_, List.mem_cons_of_mem _ (List.mem_singleton_self _), addPC_ok hp h, rfl⟩

theorem forkC_ok {pc : PC} (hp : pc.holds tb.rho) {v : V} {l : List (PC × Bool)} (h : forkC pc v = some l) : ∃ q, q ∈ l ∧ q.1.holds tb.rho ∧ condOf tb v = some q.2 := by
  unfold forkC at h
  split at h
  · cases h
    exact ⟨_, List.mem_singleton_self _, hp, rfl⟩
  · cases h
    obtain ⟨q, h1, h2, h3⟩ := forkB_ok (tb := tb) hp ‹_›
    exact ⟨q, h1, h2, by rw [← h3]; rfl⟩
  · exact absurd h (by simp)

theorem forkG_ok {pc : PC} (hp : pc.holds tb.rho) {ops : Array Oper} {env : Env} {o : Oper} {l : List (PC × Bool)} (h : forkG pc ops env o = some l) : ∃ q, q ∈ l ∧ q.1.holds tb.rho ∧ guardOk tb ops env o = some q.2 := by
  unfold forkG at h
  unfold guardOk
  split at h
  · rename_i hg
    cases h
    exact ⟨_, List.mem_singleton_self _, hp, by rw [hg]⟩
  · rename_i j want hg
    rw [hg]
    simp only
    split at h
    · rename_i d hd
      rw [hd]
      simp only
      split at h
      · rename_i hb
        cases h
        exact ⟨_, List.mem_singleton_self _, hp, by rw [hb]⟩
      · rename_i hb
        obtain ⟨l', hl, rfl⟩ := Option.map_eq_some_iff.1 h
        obtain ⟨q, h1, h2, h3⟩ := forkC_ok hp hl
        refine ⟨(q.1, q.2 == want), List.mem_map.2 ⟨q, h1, rfl⟩, h2, ?_⟩
        split
        · rename_i heq; exact absurd heq (hb)
        · rw [h3]; rfl
    · rename_i hd
      cases h
      exact ⟨_, List.mem_singleton_self _, hp, by rw [hd]⟩

theorem idx_told (v : V) (n : Nat) : idx tb (told tb v) n = idx tb v n := by unfold idx; rw [told_told]
theorem index_told (T : TypeId) (x i : V) : evalIndex0 tb T x (told tb i) = evalIndex0 tb T x i := by unfold evalIndex0; simp only [idx_told]
theorem indexAddr_told (T : TypeId) (x i : V) : evalIndexAddr0 tb T x (told tb i) = evalIndexAddr0 tb T x i := by unfold evalIndexAddr0; simp only [idx_told]
theorem bound_told (v : Option V) (d n : Nat) : bound tb (v.map (told tb)) d n = bound tb v d n := by cases v <;> simp [bound, told_told]
theorem keyOf_told (T : TypeId) (k : V) : keyOf tb T (told tb k) = keyOf tb T k := by unfold keyOf; rw [told_told]
theorem lookup_told (H : Heap) (T : TypeId) (x k : V) (ok : Bool) : evalLookup tb H T x (told tb k) ok = evalLookup tb H T x k ok := by unfold evalLookup; simp only [keyOf_told]
theorem delete_told (H : Heap) (T : TypeId) (x k : V) : evalDelete tb H T x (told tb k) = evalDelete tb H T x k := by unfold evalDelete; simp only [keyOf_told]
theorem mapUpdate_told (H : Heap) (T : TypeId) (x k v : V) : evalMapUpdate tb H T x (told tb k) v = evalMapUpdate tb H T x k v := by unfold evalMapUpdate; simp only [keyOf_told]

theorem cuts_told (lo hi mx : Option V) (n : Nat) : cuts tb (lo.map (told tb)) (hi.map (told tb)) mx n = cuts tb lo hi mx n := by
  unfold cuts
  cases mx with
  | none => simp only [bound_told]
  | some m =>
    simp only [bound_told]
    cases hi with
    | none => rfl
    | some h =>
      simp only [Option.map_some]
      have := fun n => bound_told (tb := tb) (some h) 0 n
      simp only [Option.map_some] at this
      cases bound tb (some m) 0 n with
      | none => rfl
      | some y => simp only [this]

theorem cutsV_told (lo hi mx : Option V) (n k : Nat) : cutsV tb (lo.map (told tb)) (hi.map (told tb)) mx n k = cutsV tb lo hi mx n k := by
  unfold cutsV
  cases mx with
  | none => simp only [bound_told]
  | some m => exact cuts_told lo hi (some m) k

theorem slice_told (T : TypeId) (x : V) (lo hi mx : Option V) : evalSlice0 tb T x (lo.map (told tb)) (hi.map (told tb)) mx = evalSlice0 tb T x lo hi mx := by
  unfold evalSlice0; simp only [cuts_told, cutsV_told]

theorem surely_ok {o : Option Bool} (h : surely o = true) : o = some true := by
  cases o with
  | none => exact absurd h (by simp [surely])
  | some b => exact congrArg some h
theorem leq_ok {pc : PC} (hp : pc.holds tb.rho) {a b : SE} (h : surely (decideB pc (.cmp .leq a b)) = true) : a.num tb.rho ≤ b.num tb.rho := by
  have e1 := decideB_ok hp (surely_ok h)
  rw [(truth_cmp _ _ _).2.2.2.1] at e1
  simpa using e1
theorem lss_ok {pc : PC} (hp : pc.holds tb.rho) {a b : SE} (h : surely (decideB pc (.cmp .lss a b)) = true) : a.num tb.rho < b.num tb.rho := by
  have e1 := decideB_ok hp (surely_ok h)
  rw [(truth_cmp _ _ _).2.2.1] at e1
  simpa using e1
theorem lastIx_ok {pc : PC} (hp : pc.holds tb.rho) {e ie : SE} (h : lastIx pc e ie = true) : 0 ≤ ie.num tb.rho ∧ ie.num tb.rho < ((e.text tb.rho).size : Int) := by
  unfold lastIx at h
  split at h
  · rename_i e' i
    rw [Bool.and_eq_true, Bool.and_eq_true, Bool.and_eq_true] at h
    obtain ⟨h1, h2, h3, h4⟩ := h
    have h1 := SE.beq_eq h1
    subst h1
    have h3 : (0 : Int) < (e'.text tb.rho).size := lss_ok (a := .int .i64 0) (b := .len e') hp h3
    have h4 : ((e'.text tb.rho).size : Int) < 4611686018427387904 := lss_ok (a := .len e') (b := .int .i64 4611686018427387904) hp h4
    have hi : i = 1 := by simpa using h2
    subst hi
    have w : IntKind.i64.wrap (((e'.text tb.rho).size : Int) - 1) = ((e'.text tb.rho).size : Int) - 1 := wrap_id .i64 _ (by show (-9223372036854775808 : Int) ≤ _; omega) (by show _ ≤ (9223372036854775807 : Int); omega)
    have hn : (SE.bin .sub .i64 (.len e') (.int .i64 1)).num tb.rho = ((e'.text tb.rho).size : Int) - 1 := num_bin (by
      show some (Value.int .i64 (IntKind.i64.wrap (((e'.text tb.rho).size : Int) - 1))) = _
      rw [w])
    rw [hn]
    omega
  · exact absurd h (by simp)
theorem eql_ok {pc : PC} (hp : pc.holds tb.rho) {a b : SE} (h : surely (decideB pc (.cmp .eql a b)) = true) : a.num tb.rho = b.num tb.rho := by
  have e1 := decideB_ok hp (surely_ok h)
  rw [(truth_cmp _ _ _).1] at e1
  simpa using e1
theorem succOf_num {ρ : Nat → Value} {a x : SE} (h : succOf a = some x) (h0 : 0 ≤ x.num ρ) (h1 : x.num ρ < 4611686018427387904) : a.num ρ = x.num ρ + 1 := by
  have w : IntKind.i64.wrap (x.num ρ + 1) = x.num ρ + 1 := wrap_id .i64 _ (by show (-9223372036854775808 : Int) ≤ _; omega) (by show _ ≤ (9223372036854775807 : Int); omega)
  unfold succOf at h
  split at h
  · split at h
    · rename_i hi
      cases h
      subst hi
      exact num_bin (by show some (Value.int .i64 (IntKind.i64.wrap (x.num ρ + 1))) = _; rw [w])
    · exact absurd h (by simp)
  · split at h
    · rename_i hi
      cases h
      subst hi
      exact num_bin (by show some (Value.int .i64 (IntKind.i64.wrap (1 + x.num ρ))) = _; rw [Int.add_comm 1, w])
    · exact absurd h (by simp)
  · exact absurd h (by simp)
theorem leqF_ok {pc : PC} (hp : pc.holds tb.rho) {a b : SE} (h : leqF pc a b = true) : a.num tb.rho ≤ b.num tb.rho := by
  unfold leqF at h
  rw [Bool.or_eq_true, Bool.or_eq_true, Bool.or_eq_true, Bool.or_eq_true] at h
  rcases h with h | h | h | h | h
  · rw [SE.beq_eq h]; omega
  · exact leq_ok hp h
  · have := lss_ok hp h; omega
  · have := eql_ok hp h; omega
  · split at h
    · rename_i x hx
      rw [Bool.and_eq_true, Bool.and_eq_true] at h
      have h1 := lss_ok hp h.1
      have h2 : (0 : Int) ≤ x.num tb.rho := leq_ok hp h.2.1
      have h3 : x.num tb.rho < (4611686018427387904 : Int) := lss_ok hp h.2.2
      rw [succOf_num hx h2 h3]
      omega
    · exact absurd h (by simp)

theorem symSliceF_ok {pc : PC} (hp : pc.holds tb.rho) {T : TypeId} {e : SE} {lo hi mx : Option V} {v : V} (h : symSliceF tb pc T e lo hi mx = some v) : symSlice tb T e lo hi mx = some v := by
  unfold symSliceF at h
  split at h
  · rename_i a b hd ha hb
    split at h
    · rename_i hc
      rw [Bool.and_eq_true, Bool.and_eq_true] at hc
      have h0 : (0 : Int) ≤ a.num tb.rho := leqF_ok hp hc.1
      have h1 := leqF_ok hp hc.2.1
      have h2 : b.num tb.rho ≤ ((e.text tb.rho).size : Int) := leqF_ok hp hc.2.2
      have e1 : bound tb hi (e.text tb.rho).size (e.text tb.rho).size = some (b.num tb.rho).toNat := boundSE_ok hb rfl (by omega) h2
      have e2 : bound tb lo 0 (b.num tb.rho).toNat = some (a.num tb.rho).toNat := boundSE_ok ha rfl h0 (by omega)
      have e3 : cuts tb lo hi none (e.text tb.rho).size = some ((a.num tb.rho).toNat, (b.num tb.rho).toNat, none) := by
        unfold cuts
        simp only [e1, e2]
      unfold symSlice
      simp only [hd, ha, hb, e3, Option.isNone_none, Bool.true_and, decide_true, if_true]
      exact h
    · exact absurd h (by simp)
  · exact absurd h (by simp)

theorem forkO_ok {pc : PC} (hp : pc.holds tb.rho) {v : Option V} {l : List (PC × Option V)} (h : forkO pc v = some l) : ∃ q, q ∈ l ∧ q.1.holds tb.rho ∧ q.2.map (told tb) = v.map (told tb) := by
  unfold forkO at h
  split at h
  · cases h; exact ⟨_, List.mem_singleton_self _, hp, rfl⟩
  · obtain ⟨l', hl, rfl⟩ := Option.map_eq_some_iff.1 h
    obtain ⟨q, h1, h2, h3⟩ := forkV_ok (tb := tb) hp hl
    exact ⟨_, List.mem_map.2 ⟨q, h1, rfl⟩, h2, by simp [h3]⟩

theorem catF_ok {pc : PC} (hp : pc.holds tb.rho) {op : BinOp} {T : TypeId} {x y v : V} {a b : SE} (h : catF pc op a b = some v) (e1 : op = .add → evalBin1 P tb .add T x y = none) (e2 : op = .add → evalSymBin P tb .add T x y = symBin tb .add T .str a .str b) : evalBin P tb op T x y = some v := by
  unfold catF at h
  split at h
  · rename_i hop
    have hop := eq_of_beq hop
    subst hop
    split at h
    · rename_i h1 h2
      cases h
      have h1 := decideB_ok hp h1
      have h2 := decideB_ok hp h2
      rw [(truth_cmp _ _ _).2.2.1] at h1 h2
      have h1 : (((a.text tb.rho).size : Nat) : Int) < 4611686018427387904 := of_decide_eq_true h1
      have h2 : (((b.text tb.rho).size : Nat) : Int) < 4611686018427387904 := of_decide_eq_true h2
      have hsz : (a.text tb.rho).size + (b.text tb.rho).size ≤ 9223372036854775807 := by omega
      unfold evalBin
      rw [e1 rfl]
      simp only
      rw [e2 rfl]
      unfold symBin
      simp only [hsz]
      rfl
    · exact absurd h (by simp)
  · exact absurd h (by simp)
theorem symDivF_ok {pc : PC} (hp : pc.holds tb.rho) {op : BinOp} {T : TypeId} {x y v : V} (h : symDivF pc op x y = some v) : evalBin P tb op T x y = some v := by
  unfold symDivF at h
  split at h
  · rename_i k' b
    split at h
    · rename_i k a hx
      have first : ∀ op', op' ≠ .eql → op' ≠ .neq → evalBin P tb op' T x (.sym (.int k') b) = symBin tb op' T (.int k) a (.int k') b := by
        intro op' h1 h2
        have e0 : evalBin0 P tb op' T x (.sym (.int k') b) = none := by
          have : toValue (.sym (.int k') b) = none := rfl
          have hn : sliNil x (.sym (.int k') b) = none := by unfold sliNil; split <;> simp_all
          have e00 : evalBin0 P tb op' T x (.sym (.int k') b) = evalBin00 P tb op' T x (.sym (.int k') b) := by
            unfold evalBin0
            rw [hn]
          rw [e00]
          unfold evalBin00
          split <;> first | rfl | skip
          all_goals simp_all
        have e1 : evalBin1 P tb op' T x (.sym (.int k') b) = none := by
          unfold evalBin1
          cases op' <;> first | exact absurd rfl h1 | exact absurd rfl h2 | exact e0
        have e2 : evalSymBin P tb op' T x (.sym (.int k') b) = evalSymBin.evalSymScalar tb op' T x (.sym (.int k') b) := by
          unfold evalSymBin
          cases op' <;> first | exact absurd rfl h1 | exact absurd rfl h2 | rfl
        unfold evalBin
        rw [e1]
        simp only
        rw [e2]
        unfold evalSymBin.evalSymScalar
        have : (V.sym (.int k') b).isSym = true := rfl
        rw [this, Bool.or_true, if_pos rfl, hx]
        rfl
      split at h
      · rename_i hc
        simp only [Bool.and_eq_true, Bool.or_eq_true, beq_iff_eq] at hc
        obtain ⟨hop, rfl⟩ := hc
        split at h
        · rename_i hd
          cases h
          have hd := decideC_ok hp hd
          rw [(truth_cmp _ _ _).1] at hd
          have h0 : b.num tb.rho ≠ 0 := by
            have e : (SE.int k 0).num tb.rho = 0 := rfl
            rw [e] at hd
            simpa using hd
          rw [first op (by rcases hop with rfl | rfl <;> simp) (by rcases hop with rfl | rfl <;> simp)]
          unfold symBin
          cases b with
          | int kk n =>
            have h0 : n ≠ 0 := h0
            rcases hop with rfl | rfl <;> simp [symArith, symCmp, h0]
          | _ => rcases hop with rfl | rfl <;> simp [symArith, symCmp, h0]
        · exact absurd h (by simp)
      · split at h
        · rename_i hop
          simp only [Bool.or_eq_true, beq_iff_eq] at hop
          split at h
          · rename_i l hl
            split at h
            · rename_i hl0
              cases h
              have h0 : 0 ≤ b.num tb.rho := Int.le_trans hl0 ((rng_ok hp b).1 _ hl)
              rw [first op (by rcases hop with rfl | rfl <;> simp) (by rcases hop with rfl | rfl <;> simp)]
              unfold symBin
              cases b with
              | int kk n =>
                have h0 : 0 ≤ n := h0
                rcases hop with rfl | rfl <;> simp [symArith, symCmp, h0]
              | _ => rcases hop with rfl | rfl <;> simp [symArith, symCmp, h0]
            · exact absurd h (by simp)
          · exact absurd h (by simp)
        · exact absurd h (by simp)
    · exact absurd h (by simp)
  · rename_i b
    split at h
    · exact catF_ok hp h (fun _ => rfl) (fun _ => rfl)
    · exact catF_ok hp h (fun _ => rfl) (fun _ => rfl)
    · exact absurd h (by simp)
  · rename_i t
    split at h
    · exact catF_ok hp h (fun _ => rfl) (fun _ => rfl)
    · exact absurd h (by simp)
  · exact absurd h (by simp)

def CovC (tb : Tb) (clF : CallF) (cl : CallFn) : Prop := ∀ pc f args H L, clF pc f args H = some L → pc.holds tb.rho → ∃ r : PC × V × Heap, r ∈ L ∧ r.1.holds tb.rho ∧ cl f args H = some [r.2]

/-- What is known of functions without arguments. -/
def KnOk (kn : Nat → Option V) (cl : CallFn) : Prop := ∀ f v, kn f = some v → plainV v = true ∧ ∃ H', cl f [] H0 = some [(v, H')]

theorem boxedF_ok {kn : Nat → Option V} {clF : CallF} {cl : CallFn} (hk : KnOk kn cl) (hc : CovC tb clF cl) : CovC tb (boxedF kn clF tb) (boxed cl tb) := by
  intro pc f args H L h hp
  unfold boxedF at h
  unfold boxed
  split at h
  · rename_i hcd
    rw [if_pos hcd]
    split at h
    · rename_i v hv
      cases h
      obtain ⟨h1, H', h2⟩ := hk _ _ hv
      refine ⟨_, List.mem_singleton_self _, hp, ?_⟩
      simp [h2, h1]
    · simp only [Option.bind_eq_some_iff] at h
      obtain ⟨M, hM, h⟩ := h
      split at h
      · rename_i hall
        cases h
        obtain ⟨r, h1, h2, h3⟩ := hc _ _ _ _ _ hM (PC.holds_nil _)
        have := List.all_eq_true.1 hall r h1
        simp only [Bool.and_eq_true] at this
        refine ⟨_, List.mem_map.2 ⟨r, h1, rfl⟩, hp, ?_⟩
        simp [h3, this.1]
      · exact absurd h (by simp)
  · rename_i hcd
    rw [if_neg hcd]
    exact hc _ _ _ _ _ h hp

/-! ### Unknown lists: what is decided is so -/
theorem withinF_ok {pc : PC} (hp : pc.holds tb.rho) {i n : SE} (h : withinF pc i n = true) : within tb.rho i n = true := by
  unfold withinF at h
  rw [Bool.and_eq_true] at h
  have h1 := leq_ok hp h.1
  have h2 := lss_ok hp h.2
  have e : (SE.int .i64 0).num tb.rho = 0 := rfl
  rw [e] at h1
  unfold within
  simp [h1, h2]
theorem inOrderF_ok {pc : PC} (hp : pc.holds tb.rho) {a b n : SE} (h : inOrderF pc a b n = true) : inOrder tb.rho a b n = true := by
  unfold inOrderF at h
  rw [Bool.and_eq_true, Bool.and_eq_true] at h
  have h1 := leqF_ok hp h.1
  have h2 := leqF_ok hp h.2.1
  have h3 := leqF_ok hp h.2.2
  have e : (SE.int .i64 0).num tb.rho = 0 := rfl
  rw [e] at h1
  unfold inOrder
  simp [h1, h2, h3]
theorem fitsF_ok {pc : PC} (hp : pc.holds tb.rho) (k : IntKind) (a : SE) (h : fitsF pc k a = true) : fitsK tb.rho k a = true := by
  unfold fitsK
  rw [fitted_ok h (rng_ok hp a)]
  simp
theorem smallF_ok {pc : PC} (hp : pc.holds tb.rho) {n m : SE} {by_ : Nat} (h : smallF pc n m by_ = true) : smallL tb.rho n m by_ = true := by
  unfold smallF at h
  split at h
  · rename_i x y hx hy
    have h := of_decide_eq_true h
    have h1 := (rng_ok hp n).2 x hx
    have h2 := (rng_ok hp m).2 y hy
    unfold smallL
    have h3 : (n.num tb.rho + m.num tb.rho) * (by_ : Int) ≤ (x + y) * (by_ : Int) := Int.mul_le_mul_of_nonneg_right (by omega) (by omega)
    exact decide_eq_true (by omega)
  · exact absurd h (by simp)
theorem fewF_ok {pc : PC} (hp : pc.holds tb.rho) {c : SE} (h : fewF pc c = true) : fewBytes tb.rho c = true := by
  unfold fewF at h
  split at h
  · rename_i x hx
    have h := of_decide_eq_true h
    have h1 := (rng_ok hp (.len c)).2 x hx
    have e : (SE.len c).num tb.rho = ((c.text tb.rho).size : Int) := rfl
    rw [e] at h1
    unfold fewBytes
    exact decide_eq_true (by omega)
  · exact absurd h (by simp)
section
variable {ok ok' : IntKind → SE → Bool} (hok : ∀ k a, ok k a = true → ok' k a = true)
include hok
theorem cellDat_mono {sh : Sh} {v : V} {c : SE} (h : cellDat ok sh v = some c) : cellDat ok' sh v = some c := by
  unfold cellDat at h ⊢
  split at h
  · split at h
    · rename_i t' a hse
      split at h
      · rename_i hc
        rw [Bool.and_eq_true] at hc
        rw [if_pos (by
          rw [Bool.and_eq_true]
          refine ⟨hc.1, ?_⟩
          have h2 := hc.2
          unfold okT at h2 ⊢
          split at h2
          · exact hok _ _ h2
          · rfl)]
        exact h
      · exact absurd h (by simp)
    · exact absurd h (by simp)
  · exact h
  · exact h
  · exact h
theorem rowDat_mono : ∀ {sh : Sh} {cs : List V} {acc r : SE}, rowDat ok sh cs acc = some r → rowDat ok' sh cs acc = some r := by
  intro sh
  induction sh with
  | cons a t _ iht =>
    intro cs acc r h
    cases cs with
    | nil => simp [rowDat] at h
    | cons v vs =>
      simp only [rowDat, Option.bind_eq_some_iff] at h ⊢
      obtain ⟨c, hc, h⟩ := h
      exact ⟨c, cellDat_mono hok hc, iht h⟩
  | nil => intro cs acc r h; cases cs <;> simp [rowDat] at h ⊢; exact h
  | _ => intro cs acc r h; cases cs <;> simp [rowDat] at h
theorem snocRows_mono {el : Sh} : ∀ {es : List (List V)} {e e' : SE}, snocRows ok el es e = some e' → snocRows ok' el es e = some e'
  | [], e, e', h => h
  | c :: es, e, e', h => by
    simp only [snocRows, Option.bind_eq_some_iff] at h ⊢
    obtain ⟨r, hr, h⟩ := h
    exact ⟨r, rowDat_mono hok hr, snocRows_mono h⟩
theorem byteDats_mono : ∀ {es : List (List V)} {bs : List SE}, es.mapM (byteDat ok) = some bs → es.mapM (byteDat ok') = some bs
  | [], bs, h => h
  | c :: es, bs, h => by
    rw [List.mapM_cons] at h ⊢
    simp only [Option.bind_eq_bind, Option.bind_eq_some_iff, Option.pure_def, Option.some.injEq] at h ⊢
    obtain ⟨b, hb, bs', hbs, rfl⟩ := h
    refine ⟨b, ?_, bs', byteDats_mono hbs, rfl⟩
    unfold byteDat at hb ⊢
    simp only [Option.bind_eq_some_iff] at hb ⊢
    obtain ⟨x, hx, hb⟩ := hb
    refine ⟨x, hx, ?_⟩
    split at hb
    · rename_i ho
      rw [if_pos (hok _ _ ho)]
      exact hb
    · exact absurd hb (by simp)
theorem catRows_mono {k : Sh} {e e' : SE} {es : List (List V)} (h : catRows ok k e es = some e') : catRows ok' k e es = some e' := by
  unfold catRows at h ⊢
  split at h
  · obtain ⟨bs, hbs, rfl⟩ := Option.map_eq_some_iff.1 h
    rw [byteDats_mono hok hbs]
    rfl
  · exact snocRows_mono hok h
  · exact absurd h (by simp)
theorem toSli_mono {k : Sh} {v : V} {q : SE × SE × Tok} (h : toSli ok k v = some q) : toSli ok' k v = some q := by
  unfold toSli at h ⊢
  split at h
  · exact h
  · exact h
  · obtain ⟨e, he, rfl⟩ := Option.map_eq_some_iff.1 h
    rw [catRows_mono hok he]
    rfl
  · exact absurd h (by simp)
theorem addS_mono {H : Heap} {t : TypeId} {sz : Nat} {T2 : TypeId} {k : Sh} {e : SE} {x : V} {r : SE × Option SE × SE} (h : addS ok tb H t sz T2 k e x = some r) : addS ok' tb H t sz T2 k e x = some r := by
  unfold addS at h ⊢
  split at h
  · exact h
  · exact h
  · obtain ⟨news, hn, h⟩ := Option.bind_eq_some_iff.1 h
    rw [hn]
    simp only [Option.bind_some]
    split at h
    · exact absurd h (by simp)
    · rename_i hne
      rw [if_neg hne]
      obtain ⟨e', he, rfl⟩ := Option.map_eq_some_iff.1 h
      rw [catRows_mono hok he]
      rfl
theorem appendS_mono {small small' : SE → SE → Nat → Bool} (hs : ∀ n m b, small n m b = true → small' n m b = true) {H : Heap} {T1 T2 : TypeId} {s x : V} {r : Option SE × V × Heap} (h : appendS ok small tb H T1 T2 s x = some r) : appendS ok' small' tb H T1 T2 s x = some r := by
  unfold appendS at h ⊢
  split at h
  · simp only [Option.bind_eq_bind, Option.bind_eq_some_iff] at h ⊢
    obtain ⟨sz, hsz, by_, hby, z, hz, k, hkof, h⟩ := h
    refine ⟨sz, hsz, by_, hby, z, hz, k, hkof, ?_⟩
    split at h
    · exact absurd h (by simp)
    · rename_i hc
      rw [if_neg hc]
      simp only [Option.bind_eq_some_iff] at h ⊢
      obtain ⟨q, hsl, a, hadd, h⟩ := h
      refine ⟨q, toSli_mono hok hsl, a, addS_mono hok hadd, ?_⟩
      split at h
      · exact absurd h (by simp)
      · rename_i hsm
        rw [if_neg (by
          have := hs _ _ _ (show small (lenSE k q.2.1) a.2.2 by_ = true by simpa using hsm)
          simpa using this)]
        exact h
  · exact absurd h (by simp)
end
theorem symIndexAddr_mono {inb inb' : SE → SE → Bool} (hi : ∀ a b, inb a b = true → inb' a b = true) {T : TypeId} {k : Sh} {e : SE} {i v : V} (h : symIndexAddr inb tb T k e i = some v) : symIndexAddr inb' tb T k e i = some v := by
  unfold symIndexAddr at h ⊢
  split at h
  · split at h
    · rename_i hc
      rw [Bool.and_eq_true, Bool.and_eq_true] at hc
      rw [if_pos (by rw [Bool.and_eq_true, Bool.and_eq_true]; exact ⟨hc.1, hi _ _ hc.2.1, hc.2.2⟩)]
      exact h
    · exact absurd h (by simp)
  · exact absurd h (by simp)
theorem listSlice_mono {okc okc' : SE → SE → SE → Bool} (hi : ∀ a b c, okc a b c = true → okc' a b c = true) {T : TypeId} {k : Sh} {nl e : SE} {lo hi' mx : Option V} {v : V} (h : listSlice okc tb T k nl e lo hi' mx = some v) : listSlice okc' tb T k nl e lo hi' mx = some v := by
  unfold listSlice at h ⊢
  split at h
  · split at h
    · rename_i hc
      rw [Bool.and_eq_true, Bool.and_eq_true] at hc
      rw [if_pos (by rw [Bool.and_eq_true, Bool.and_eq_true]; exact ⟨hc.1, hi _ _ _ hc.2.1, hc.2.2⟩)]
      exact h
    · exact absurd h (by simp)
  · exact absurd h (by simp)
theorem kOf_told (s x : V) : kOf s (told tb x) = kOf s x := by
  cases x with
  | sym t e => cases t <;> cases s <;> rfl
  | _ => rfl
theorem appendF_ok {pc : PC} (hp : pc.holds tb.rho) {H : Heap} {T1 T2 : TypeId} {s x y : V} (hxy : told tb y = told tb x) (hy : told tb y = y) {L : List (PC × V × Heap)} (h : appendF pc tb H T1 T2 s y = some L) : ∃ r, r ∈ L ∧ r.1.holds tb.rho ∧ evalAppend tb H T1 T2 s x = some r.2 := by
  unfold appendF at h
  unfold evalAppend
  have e1 : kOf s x = kOf s y := by rw [← kOf_told (tb := tb) s x, ← hxy, kOf_told]
  rw [e1, ← hxy, hy]
  split at h
  · rename_i k hk
    obtain ⟨r, hr, rfl⟩ := Option.map_eq_some_iff.1 h
    have h2 := appendS_mono (fitsF_ok hp) (fun _ _ _ h => smallF_ok hp h) hr
    unfold evalAppendS
    rw [h2]
    simp only [Option.map_some]
    split
    · rename_i n hn
      obtain ⟨b, h3, h4, h5⟩ := forkB_ok (tb := tb) hp (.cmp .eql n (.int .i64 0))
      refine ⟨_, List.mem_map.2 ⟨b, h3, rfl⟩, h4, ?_⟩
      rw [hk]
      simp only [hn, h5]
    · rename_i hn
      refine ⟨_, List.mem_singleton_self _, hp, ?_⟩
      rw [hk]
      simp only [hn]
  · rename_i hk
    obtain ⟨r, hr, rfl⟩ := Option.map_eq_some_iff.1 h
    refine ⟨_, List.mem_singleton_self _, hp, ?_⟩
    rw [hk]
    exact hr
theorem forkV_told {pc : PC} {v : V} {l : List (PC × V)} (h : forkV pc v = some l) : ∀ q, q ∈ l → told tb q.2 = q.2 := by
  intro q hq
  unfold forkV at h
  split at h
  · obtain ⟨l', hl, rfl⟩ := Option.map_eq_some_iff.1 h
    obtain ⟨j, _, rfl⟩ := List.mem_map.1 hq
    rfl
  · rename_i hv
    cases h
    simp at hq
    subst hq
    unfold told
    split
    · rename_i k e he; exact absurd he (hv k e)
    · rfl

theorem evalOpF_ok {kn : Nat → Option V} {clF : CallF} {cl : CallFn} (hk : KnOk kn cl) (hc : CovC tb clF cl) {pc : PC} (hp : pc.holds tb.rho) {env : Env} {H : Heap} {o : Op} {L : List (PC × V × Heap × Bool)} (h : evalOpF kn clF P tb pc env H o = some L) :
    ∃ r, r ∈ L ∧ r.1.holds tb.rho ∧ evalOp cl P tb env H o = some [r.2] := by
  unfold evalOpF at h
  split at h
  · rename_i f args ats
    obtain ⟨M, hM, rfl⟩ := Option.map_eq_some_iff.1 h
    unfold evalCallF at hM
    simp only at hM
    split at hM
    · rename_i g first captured hf
      split at hM
      case isFalse => exact absurd hM (by simp)
      rename_i hlt
      split at hM
      · rename_i v hv
        cases hM
        refine ⟨_, List.mem_map.2 ⟨_, List.mem_singleton_self _, rfl⟩, hp, ?_⟩
        simp only [evalOp, isPure, Bool.false_eq_true, if_false, evalCall, hf, hlt, if_true, callOne, hv, Option.map_some, List.map_cons, List.map_nil]
      · rename_i hv
        obtain ⟨r, h1, h2, h3⟩ := boxedF_ok hk hc _ _ _ _ _ hM hp
        refine ⟨_, List.mem_map.2 ⟨r, h1, rfl⟩, h2, ?_⟩
        simp only [evalOp, isPure, Bool.false_eq_true, if_false, evalCall, hf, hlt, if_true, callOne, hv, h3, Option.map_some, List.map_cons, List.map_nil]
    · exact absurd hM (by simp)
  · rename_i t x i
    split at h
    · rename_i e he
      obtain ⟨v, hv, rfl⟩ := Option.map_eq_some_iff.1 h
      refine ⟨_, List.mem_singleton_self _, hp, ?_⟩
      unfold symIndexF at hv
      split at hv
      · rename_i k ie hd hse
        split at hv
        · rename_i hc
          cases hv
          have hb : 0 ≤ ie.num tb.rho ∧ ie.num tb.rho < ((e.text tb.rho).size : Int) := by
            rw [Bool.or_eq_true, Bool.and_eq_true] at hc
            rcases hc with hc | hc
            · exact ⟨leq_ok (a := .int .i64 0) hp hc.1, lss_ok (b := .len e) hp hc.2⟩
            · exact lastIx_ok hp hc
          have e1 : decide (0 ≤ ie.num tb.rho) = true := by simpa using hb.1
          have e2 : decide (ie.num tb.rho < ((e.text tb.rho).size : Int)) = true := by simpa using hb.2
          simp only [evalOp, isPure, if_true, evalPure, evalIndex, he, symIndex, hd, hse, e1, e2, Bool.and_self, Option.map_some]
        · exact absurd hv (by simp)
      · exact absurd hv (by simp)
    · rename_i hne
      simp only [Option.bind_eq_some_iff] at h
      obtain ⟨l, hl, h⟩ := h
      obtain ⟨q, h1, h2, h3⟩ := forkV_ok hp hl
      obtain ⟨Lx, h4, h5⟩ := bindL_in' h q h1
      obtain ⟨v, h6, rfl⟩ := Option.map_eq_some_iff.1 h4
      refine ⟨_, h5 _ (List.mem_singleton_self _), h2, ?_⟩
      rw [← index_told, h3, index_told] at h6
      have : evalIndex tb t (ev tb env x) (ev tb env i) = some v := by
        unfold evalIndex
        split
        · rename_i e he; exact absurd he (hne e)
        · exact h6
      simp only [evalOp, isPure, if_true, evalPure, this, Option.map_some]
  · rename_i t x i
    split at h
    · rename_i k nl e tok he
      obtain ⟨v, hv, rfl⟩ := Option.map_eq_some_iff.1 h
      refine ⟨_, List.mem_singleton_self _, hp, ?_⟩
      have := symIndexAddr_mono (inb' := within tb.rho) (fun _ _ h => withinF_ok hp h) hv
      simp only [evalOp, isPure, if_true, evalPure, evalIndexAddr, he, this, Option.map_some]
    · rename_i hne
      simp only [Option.bind_eq_some_iff] at h
      obtain ⟨l, hl, h⟩ := h
      obtain ⟨q, h1, h2, h3⟩ := forkV_ok hp hl
      obtain ⟨Lx, h4, h5⟩ := bindL_in' h q h1
      obtain ⟨v, h6, rfl⟩ := Option.map_eq_some_iff.1 h4
      refine ⟨_, h5 _ (List.mem_singleton_self _), h2, ?_⟩
      rw [← indexAddr_told, h3, indexAddr_told] at h6
      have : evalIndexAddr tb t (ev tb env x) (ev tb env i) = some v := by
        unfold evalIndexAddr
        split
        · rename_i k nl e tok he; exact absurd he (hne k nl e tok)
        · exact h6
      simp only [evalOp, isPure, if_true, evalPure, this, Option.map_some]
  · split at h
    · rename_i e he
      obtain ⟨v, hv, rfl⟩ := Option.map_eq_some_iff.1 h
      refine ⟨_, List.mem_singleton_self _, hp, ?_⟩
      have := symSliceF_ok hp hv
      simp only [evalOp, isPure, if_true, evalPure, evalSlice, he, this, Option.map_some]
    · rename_i k nl e tok he
      obtain ⟨v, hv, rfl⟩ := Option.map_eq_some_iff.1 h
      refine ⟨_, List.mem_singleton_self _, hp, ?_⟩
      have := listSlice_mono (okc' := inOrder tb.rho) (fun _ _ _ h => inOrderF_ok hp h) hv
      simp only [evalOp, isPure, if_true, evalPure, evalSlice, he, this, Option.map_some]
    · rename_i hne hne2
      simp only [Option.bind_eq_some_iff] at h
      obtain ⟨l, hl, h⟩ := h
      obtain ⟨q, h1, h2, h3⟩ := forkO_ok hp hl
      obtain ⟨Lx, h4, h5⟩ := bindL_in' h q h1
      simp only [Option.bind_eq_some_iff] at h4
      obtain ⟨l2, hl2, h4⟩ := h4
      obtain ⟨q2, h1', h2', h3'⟩ := forkO_ok h2 hl2
      obtain ⟨Ly, h4', h5'⟩ := bindL_in' h4 q2 h1'
      obtain ⟨v, h6, rfl⟩ := Option.map_eq_some_iff.1 h4'
      refine ⟨_, h5 _ (h5' _ (List.mem_singleton_self _)), h2', ?_⟩
      rw [← slice_told, h3, h3', slice_told] at h6
      have e7 : ∀ (T : TypeId) (y : V) (lo hi mx : Option V), (∀ e, y = .sym .str e → False) → (∀ k nl e tok, y = .sli k nl e tok → False) → evalSlice tb T y lo hi mx = evalSlice0 tb T y lo hi mx := by
        intro T y lo hi mx hy hy2
        unfold evalSlice
        split
        · rename_i e; exact (hy e rfl).elim
        · rename_i k nl e tok; exact (hy2 k nl e tok rfl).elim
        · rfl
      rw [← e7 _ _ _ _ _ (fun e he => hne e he) (fun k nl e tok he => hne2 k nl e tok he)] at h6
      simp only [evalOp, isPure, if_true, evalPure, h6, Option.map_some]
  · rename_i s d x
    split at h
    · rename_i c he
      split at h
      · rename_i hc
        obtain ⟨v, hv, rfl⟩ := Option.map_eq_some_iff.1 h
        refine ⟨_, List.mem_singleton_self _, hp, ?_⟩
        have h2 : bytesOfText (fewBytes tb.rho) c = some v := by
          unfold bytesOfText at hv ⊢
          split at hv
          · rename_i hf
            rw [if_pos (fewF_ok hp hf)]
            exact hv
          · exact absurd hv (by simp)
        simp only [evalOp, isPure, if_true, evalPure, evalConv, he, hc, h2, Option.map_some]
      · rename_i hc
        obtain ⟨v, hv, rfl⟩ := Option.map_eq_some_iff.1 h
        refine ⟨_, List.mem_singleton_self _, hp, ?_⟩
        simp only [evalOp, isPure, if_true, evalPure, evalConv, he, hc, hv, Option.map_some, Bool.false_eq_true, if_false]
    · obtain ⟨r, hr, rfl⟩ := Option.map_eq_some_iff.1 h
      exact ⟨_, List.mem_singleton_self _, hp, evalOp_mono (fun f args H L hh => absurd hh (by simp)) (one1'_eq hr)⟩
  · rename_i args ats
    split at h
    · rename_i s x t1 t2 hargs hats
      simp only [Option.bind_eq_some_iff] at h
      obtain ⟨l, hl, h⟩ := h
      obtain ⟨q, h1, h2, h3⟩ := forkV_ok hp hl
      obtain ⟨Lx, h4, h5⟩ := bindL_in' h q h1
      obtain ⟨M, hM, rfl⟩ := Option.map_eq_some_iff.1 h4
      obtain ⟨r, h6, h7, h8⟩ := appendF_ok h2 h3 (forkV_told hl q h1) hM
      refine ⟨_, h5 _ (List.mem_map.2 ⟨r, h6, rfl⟩), h7, ?_⟩
      simp only [evalOp, isPure, Bool.false_eq_true, if_false, evalMem, hargs, hats, h8, Option.map_some, List.map_cons, List.map_nil]
    · exact absurd h (by simp)
  · split at h
    · rename_i v hv
      cases h
      refine ⟨_, List.mem_singleton_self _, hp, ?_⟩
      simp only [evalOp, isPure, if_true, evalPure, symDivF_ok hp hv, Option.map_some]
    · obtain ⟨r, hr, rfl⟩ := Option.map_eq_some_iff.1 h
      exact ⟨_, List.mem_singleton_self _, hp, evalOp_mono (fun f args H L hh => absurd hh (by simp)) (one1'_eq hr)⟩
  · rename_i c a b
    split at h
    · rename_i e hc
      cases h
      obtain ⟨q, h1, h2, h3⟩ := forkB_ok (tb := tb) hp e
      refine ⟨_, List.mem_map.2 ⟨q, h1, rfl⟩, h2, ?_⟩
      simp only [evalOp, isPure, if_true, evalPure, hc, h3, Option.map_some]
    · obtain ⟨r, hr, rfl⟩ := Option.map_eq_some_iff.1 h
      exact ⟨_, List.mem_singleton_self _, hp, evalOp_mono (fun f args H L hh => absurd hh (by simp)) (one1'_eq hr)⟩
  · simp only [Option.bind_eq_some_iff] at h
    obtain ⟨l, hl, h⟩ := h
    obtain ⟨q, h1, h2, h3⟩ := forkV_ok hp hl
    obtain ⟨Lx, h4, h5⟩ := bindL_in' h q h1
    obtain ⟨v, h6, rfl⟩ := Option.map_eq_some_iff.1 h4
    refine ⟨_, h5 _ (List.mem_singleton_self _), h2, ?_⟩
    rw [← lookup_told, h3, lookup_told] at h6
    simp only [evalOp, isPure, Bool.false_eq_true, if_false, evalMem, h6, Option.map_some, List.map_cons, List.map_nil, softOp, Bool.not_true]
  · simp only [Option.bind_eq_some_iff] at h
    obtain ⟨l, hl, h⟩ := h
    obtain ⟨q, h1, h2, h3⟩ := forkV_ok hp hl
    obtain ⟨Lx, h4, h5⟩ := bindL_in' h q h1
    obtain ⟨v, h6, rfl⟩ := Option.map_eq_some_iff.1 h4
    refine ⟨_, h5 _ (List.mem_singleton_self _), h2, ?_⟩
    rw [← mapUpdate_told, h3, mapUpdate_told] at h6
    simp only [evalOp, isPure, Bool.false_eq_true, if_false, evalMem, h6, Option.map_some, List.map_cons, List.map_nil, softOp, Bool.not_false]
  · split at h
    · rename_i hargs htys
      simp only [Option.bind_eq_some_iff] at h
      obtain ⟨l, hl, h⟩ := h
      obtain ⟨q, h1, h2, h3⟩ := forkV_ok hp hl
      obtain ⟨Lx, h4, h5⟩ := bindL_in' h q h1
      obtain ⟨v, h6, rfl⟩ := Option.map_eq_some_iff.1 h4
      refine ⟨_, h5 _ (List.mem_singleton_self _), h2, ?_⟩
      rw [← delete_told, h3, delete_told] at h6
      simp only [evalOp, isPure, Bool.false_eq_true, if_false, evalMem, hargs, htys, h6, Option.map_some, List.map_cons, List.map_nil, softOp, Bool.not_false]
    · exact absurd h (by simp)
  · obtain ⟨r, hr, rfl⟩ := Option.map_eq_some_iff.1 h
    exact ⟨_, List.mem_singleton_self _, hp, evalOp_mono (fun f args H L hh => absurd hh (by simp)) (one1'_eq hr)⟩

theorem execOpsF_ok {kn : Nat → Option V} {clF : CallF} {cl : CallFn} (hk : KnOk kn cl) (hc : CovC tb clF cl) {ops : Array Oper} : ∀ {l : List Oper} {i : Nat} {hard : Marks} {pc : PC} {st : St} {L : List (PC × St × Marks)}, pc.holds tb.rho → execOpsF kn clF P tb ops l i hard pc st = some L →
    ∃ r, r ∈ L ∧ r.1.holds tb.rho ∧ execOps cl P tb ops l i hard st = some [r.2]
  | [], i, hard, pc, st, L, hp, h => by
    simp only [execOpsF, Option.some.injEq] at h
    subst h
    exact ⟨_, List.mem_singleton_self _, hp, rfl⟩
  | o :: l, i, hard, pc, st, L, hp, h => by
    simp only [execOpsF, Option.bind_eq_some_iff] at h
    obtain ⟨gs, hg, h⟩ := h
    obtain ⟨q, h1, h2, h3⟩ := forkG_ok hp hg
    obtain ⟨Lx, h4, h5⟩ := bindL_in' h q h1
    simp only [execOps]
    rw [h3]
    split at h4
    · rename_i hq
      rw [hq]
      obtain ⟨r, h6, h7, h8⟩ := execOpsF_ok hk hc h2 h4
      exact ⟨r, h5 r h6, h7, h8⟩
    · rename_i hq
      rw [hq]
      simp only [Option.bind_eq_some_iff] at h4
      obtain ⟨M, hM, h4⟩ := h4
      obtain ⟨r, h6, h7, h8⟩ := evalOpF_ok hk hc h2 hM
      obtain ⟨Ly, h9, h10⟩ := bindL_in' h4 r h6
      obtain ⟨u, h11, h12, h13⟩ := execOpsF_ok hk hc h7 h9
      refine ⟨u, h5 u (h10 u h11), h12, ?_⟩
      simp only [h8, Option.bind_some]
      exact bindL_one h13

def CovX (tb : Tb) (ihF : Tk → PC → St → Option (List (PC × Ex × St))) (ih : Tk → St → Option (List (Ex × St))) : Prop :=
  ∀ tk pc st L, ihF tk pc st = some L → pc.holds tb.rho → ∃ r : PC × Ex × St, r ∈ L ∧ r.1.holds tb.rho ∧ ih tk st = some [r.2]

theorem matchSE_ok {ρ : Nat → Value} {pc : PC} (hp : pc.holds ρ) {e : SE} : ∀ {d : SE}, matchSE pc e d = true → e.num ρ = d.num ρ := by
  intro d
  induction d with
  | ite c a b _ iha ihb =>
    intro h
    simp only [matchSE, Bool.or_eq_true] at h
    rcases h with h | h
    · rw [SE.beq_eq h]
    · split at h
      · rename_i hd
        rw [iha h]
        have := decideB_ok hp hd
        simp [SE.num, SE.truth, SE.all] at this ⊢
        simp [this]
      · rename_i hd
        rw [ihb h]
        have := decideB_ok hp hd
        simp [SE.num, SE.truth, SE.all] at this ⊢
        simp [this]
      · exact absurd h (by simp)
  | _ => intro h; rw [SE.beq_eq h]
theorem provedEq_ok {ρ : Nat → Value} {pc : PC} (hp : pc.holds ρ) {kk : IntKind} {m : Nat} {e : SE} (h : provedEq pc kk m e = true) : (e.num ρ == (SE.ivar kk m).num ρ) = true := by
  unfold provedEq at h
  simp only [Bool.or_eq_true, List.any_eq_true, Bool.and_eq_true] at h
  rcases h with h | ⟨f, hf, h1, h2⟩
  · rw [SE.beq_eq h]; simp
  · have h3 := hp f hf
    rw [h1] at h3
    split at h2
    · rename_i a d hfd
      rw [hfd, (truth_cmp _ _ _).1] at h3
      simp only [Bool.and_eq_true] at h2
      rw [SE.beq_eq h2.1] at h3
      rw [matchSE_ok hp h2.2]
      rw [beq_iff_eq] at h3 ⊢
      exact h3.symm
    · exact absurd h2 (by simp)
theorem renameF_ok {tb : Tb} {pc : PC} (hp : pc.holds tb.rho) {k t : Nat} {v v' : V} (h : renameF tb pc k t v = some v') : renameV tb k t v = v' := by
  unfold renameF at h
  unfold renameV
  split at h
  · split at h
    · rename_i hm
      split at h
      · rename_i hq
        cases h
        simp only [hm]
        rw [if_pos (provedEq_ok hp hq)]
      · exact absurd h (by simp)
    · rename_i hm
      cases h
      simp only [hm]
  · cases h
    split
    · exfalso; simp_all
    · rfl
theorem renEnvF_ok {tb : Tb} {pc : PC} (hp : pc.holds tb.rho) {k : Nat} : ∀ {l : List Nat} {env env' : Env}, renEnvF tb pc k l env = some env' → renEnv tb k l env = env'
  | [], env, env', h => by cases h; rfl
  | t :: l, env, env', h => by
    simp only [renEnvF, Option.bind_eq_some_iff] at h
    obtain ⟨v, h1, h2⟩ := h
    simp only [renEnv, renameF_ok hp h1]
    exact renEnvF_ok hp h2
theorem forgetF_ok {tb : Tb} {pc : PC} (hp : pc.holds tb.rho) {k : Nat} {st st' : St} (h : forgetF tb pc k st = some st') : forget tb k st = st' := by
  unfold forgetF at h
  unfold forget
  split at h
  · rename_i hd
    cases h
    simp only [hd]
  · rename_i hd
    obtain ⟨env, h1, rfl⟩ := Option.map_eq_some_iff.1 h
    split
    · rename_i hd2; exact absurd hd2 hd
    · simp only [renSt, renEnvF_ok hp h1]
theorem forgetP_ok {tb : Tb} {k : Nat} {L M : List (PC × Ex × St)} {r0 : PC × Ex × St} (h : r0 ∈ L) (hp : r0.1.holds tb.rho) (hM : bindL L (forgetP tb k) = some M) : (r0.1, (match r0.2.1 with | .normal => (Ex.normal, forget tb k r0.2.2) | e => (e, r0.2.2))) ∈ M := by
  obtain ⟨Lx, h1, h2⟩ := bindL_in' hM r0 h
  obtain ⟨p0, e0, s0⟩ := r0
  unfold forgetP at h1
  cases e0 <;> simp only at h1 ⊢
  case normal =>
    obtain ⟨st, h3, rfl⟩ := Option.map_eq_some_iff.1 h1
    rw [forgetF_ok hp h3]
    exact h2 _ (List.mem_singleton_self _)
  all_goals
    cases h1
    exact h2 _ (List.mem_singleton_self _)
theorem loopP_ok {tb : Tb} {k : Nat} {L M : List (PC × Ex × St)} {r0 : PC × Ex × St} (h : r0 ∈ L) (hp : r0.1.holds tb.rho) (hM : loopP tb k L = some M) : ∃ r, r ∈ M ∧ r.1.holds tb.rho ∧ r.2 = (match r0.2.1 with | .normal => (Ex.normal, forget tb k r0.2.2) | e => (e, r0.2.2)) := by
  obtain ⟨N, hN, rfl⟩ := Option.map_eq_some_iff.1 hM
  obtain ⟨r, h1, h2, h3⟩ := mergeP_ok (forgetP_ok h hp hN) hp
  exact ⟨r, h1, h3, h2⟩
theorem meetP_ok {tb : Tb} {k : Nat} {L M : List (PC × Ex × St)} {r0 : PC × Ex × St} (h : r0 ∈ L) (hp : r0.1.holds tb.rho) (hM : meetP tb k L = some M) : ∃ r, r ∈ M ∧ r.1.holds tb.rho ∧ r.2 = (match r0.2.1 with | .normal => (Ex.normal, forget tb k r0.2.2) | e => (e, r0.2.2)) := by
  unfold meetP at hM
  split at hM
  · rename_i hd
    cases hM
    refine ⟨r0, h, hp, ?_⟩
    obtain ⟨p0, e0, s0⟩ := r0
    cases e0 <;> first | rfl | (simp only [forget, hd])
  · exact loopP_ok h hp hM

theorem stepF_ok {kn : Nat → Option V} {clF : CallF} {cl : CallFn} (hk : KnOk kn cl) (hc : CovC tb clF cl) {ihF : Tk → PC → St → Option (List (PC × Ex × St))} {ih : Tk → St → Option (List (Ex × St))} (hi : CovX tb ihF ih) : CovX tb (stepF kn clF P tb ihF) (stepC cl P tb ih) := by
  intro tk pc st L h hp
  unfold stepF at h
  unfold stepC
  split at h
  · cases h; exact ⟨_, List.mem_singleton_self _, hp, rfl⟩
  · cases h; exact ⟨_, List.mem_singleton_self _, hp, rfl⟩
  · rename_i ops draw
    simp only [Option.bind_eq_some_iff] at h
    obtain ⟨M, hM, h⟩ := h
    obtain ⟨r, h1, h2, h3⟩ := execOpsF_ok hk hc hp hM
    simp only [h3, Option.bind_some]
    cases draw with
    | true =>
      simp only [if_true] at h ⊢
      split at h
      · rename_i hd
        cases h
        have hd1 := List.all_eq_true.1 hd r h1
        refine ⟨_, List.mem_map.2 ⟨r, h1, rfl⟩, h2, ?_⟩
        simp [hd1]
      · exact absurd h (by simp)
    | false =>
      simp only [Bool.false_eq_true, if_false] at h ⊢
      cases h
      exact ⟨_, List.mem_map.2 ⟨r, h1, rfl⟩, h2, rfl⟩
  · simp only [Option.bind_eq_some_iff] at h
    obtain ⟨M, hM, h⟩ := h
    obtain ⟨M0, hM0, hMM⟩ := hM
    obtain ⟨r0, h10, h20, h3⟩ := hi _ _ _ _ hM0 hp
    obtain ⟨r, h1, h2, hr2⟩ := meetP_ok h10 h20 hMM
    obtain ⟨Lx, h4, h5⟩ := bindL_in' h r h1
    simp only [h3, Option.bind_some]
    rw [hr2] at h4
    cases he0 : r0.2.1 with
    | normal =>
      rw [he0] at h4
      simp only at h4
      obtain ⟨u, h6, h7, h8⟩ := hi _ _ _ _ h4 h2
      refine ⟨u, h5 u h6, h7, bindL_one ?_⟩
      rw [he0]
      exact h8
    | _ =>
      rw [he0] at h4
      simp only at h4
      cases h4
      refine ⟨_, h5 _ (List.mem_singleton_self _), h2, bindL_one ?_⟩
      rw [he0]
  · rename_i c x y
    simp only [Option.bind_eq_some_iff] at h
    obtain ⟨M, hM, h⟩ := h
    obtain ⟨q, h1, h2, h3⟩ := forkC_ok hp hM
    obtain ⟨Lx, h4, h5⟩ := bindL_in' h q h1
    simp only [h3]
    split at h4
    · rename_i hq
      obtain ⟨u, h6, h7, h8⟩ := hi _ _ _ _ h4 h2
      exact ⟨u, h5 u h6, h7, by rw [hq]; exact h8⟩
    · rename_i hq
      obtain ⟨u, h6, h7, h8⟩ := hi _ _ _ _ h4 h2
      exact ⟨u, h5 u h6, h7, by rw [hq]; exact h8⟩
  · rename_i id c
    obtain ⟨M, hM, rfl⟩ := Option.map_eq_some_iff.1 h
    obtain ⟨r, h1, h2, h3⟩ := hi _ _ _ _ hM hp
    refine ⟨_, List.mem_map.2 ⟨r, h1, rfl⟩, h2, ?_⟩
    simp only [h3, Option.map_some, List.map_cons, List.map_nil]
    rfl
  · rename_i c
    split at h
    · rename_i t ht
      cases h
      obtain ⟨q, h1, h2, h3⟩ := t.paths_ok hp
      refine ⟨q, h1, h2, ?_⟩
      simp only [stepC, ht, h3]
    rename_i ht
    simp only [Option.bind_eq_some_iff] at h
    obtain ⟨M, hM, h⟩ := h
    obtain ⟨M0, hM0, hMM⟩ := hM
    obtain ⟨r0, h10, h20, h3⟩ := hi _ _ _ _ hM0 hp
    obtain ⟨r, h1, h2, hr2⟩ := loopP_ok h10 h20 hMM
    obtain ⟨Lx, h4, h5⟩ := bindL_in' h r h1
    simp only [ht, h3, Option.bind_some]
    rw [hr2] at h4
    cases he0 : r0.2.1 with
    | normal =>
      rw [he0] at h4
      simp only at h4
      obtain ⟨u, h6, h7, h8⟩ := hi _ _ _ _ h4 h2
      refine ⟨u, h5 u h6, h7, bindL_one ?_⟩
      rw [he0]
      exact h8
    | _ =>
      rw [he0] at h4
      simp only at h4
      cases h4
      refine ⟨_, h5 _ (List.mem_singleton_self _), h2, bindL_one ?_⟩
      rw [he0]
  · cases h; exact ⟨_, List.mem_singleton_self _, hp, rfl⟩
  · cases h; exact ⟨_, List.mem_singleton_self _, hp, rfl⟩
  · cases h; exact ⟨_, List.mem_singleton_self _, hp, rfl⟩
  · exact hi _ _ _ _ h hp
  · rename_i body c
    simp only [Option.bind_eq_some_iff] at h
    obtain ⟨M, hM, h⟩ := h
    obtain ⟨r, h1, h2, h3⟩ := hi _ _ _ _ hM hp
    obtain ⟨Lx, h4, h5⟩ := bindL_in' h r h1
    simp only [h3, Option.bind_some]
    split at h4
    · rename_i l he
      split at h4
      · rename_i rest hf
        obtain ⟨u, h6, h7, h8⟩ := hi _ _ _ _ h4 h2
        refine ⟨u, h5 u h6, h7, bindL_one ?_⟩
        rw [he]
        simp only [hf]
        exact h8
      · rename_i hf
        cases h4
        refine ⟨_, h5 _ (List.mem_singleton_self _), h2, bindL_one ?_⟩
        rw [he]
        simp only [hf]
    · rename_i he
      cases h4
      refine ⟨_, h5 _ (List.mem_singleton_self _), h2, bindL_one ?_⟩
      split
      · rename_i heq; exact absurd heq (he _)
      · rfl
  · exact absurd h (by simp)

theorem execF_ok {kn : Nat → Option V} {clF : CallF} {cl : CallFn} (hk : KnOk kn cl) (hc : CovC tb clF cl) : ∀ n, CovX tb (execF kn clF P tb n) (exec cl P tb n)
  | 0 => by intro tk pc st L h; simp [execF] at h
  | n + 1 => stepF_ok hk hc (execF_ok hk hc n)

/-- The facts of the table of known functions hold. -/
def FactsOk (tb : Tb) : Prop := ∀ f args H r, tb.spec f args H = some r → ∀ q, q ∈ r.2 → q.1.truth tb.rho = q.2
theorem stepCallF_ok (hfa : FactsOk tb) {kn : Nat → Option V} {clF : CallF} {cl : CallFn} (hk : KnOk kn cl) (hc : CovC tb clF cl) (n : Nat) : CovC tb (stepCallF kn P tb n clF) (stepCall P tb n cl) := by
  intro pc f args H L h hp
  unfold stepCallF at h
  unfold stepCall
  split at h
  · exact absurd h (by simp)
  rename_i hle
  rw [if_neg hle]
  split at h
  · rename_i r hr1
    cases h
    refine ⟨_, List.mem_singleton_self _, fun q hq => ?_, by rw [hr1]⟩
    rcases List.mem_append.1 hq with hq | hq
    · exact hfa _ _ _ _ hr1 q hq
    · exact hp q hq
  rename_i hr1
  simp only [hr1]
  split at h
  · exact absurd h (by simp)
  · rename_i fn hfn
    simp only [hfn]
    split at h
    · exact absurd h (by simp)
    · rename_i c hcb
      simp only [hcb]
      split at h
      · rename_i hcond
        rw [if_pos hcond]
        simp only [Option.bind_eq_some_iff] at h
        obtain ⟨M, hM, h⟩ := h
        obtain ⟨r, h1, h2, h3⟩ := execF_ok hk hc n _ _ _ _ hM hp
        obtain ⟨Lx, h4, h5⟩ := bindL_in' h r h1
        simp only [h3, Option.bind_some]
        split at h4
        · rename_i he
          obtain ⟨v, hv, rfl⟩ := Option.map_eq_some_iff.1 h4
          refine ⟨_, h5 _ (List.mem_singleton_self _), h2, bindL_one ?_⟩
          rw [he]
          simp only [hv, Option.map_some]
        · rename_i he
          obtain ⟨v, hv, rfl⟩ := Option.map_eq_some_iff.1 h4
          refine ⟨_, h5 _ (List.mem_singleton_self _), h2, bindL_one ?_⟩
          rw [he]
          simp only [hv, Option.map_some]
        · exact absurd h4 (by simp)
      · exact absurd h (by simp)

theorem stepCallFM_ok (hfa : FactsOk tb) {kn : Nat → Option V} {clF : CallF} {cl : CallFn} (hk : KnOk kn cl) (hc : CovC tb clF cl) (n : Nat) : CovC tb (stepCallF kn P tb n clF) (stepCallM P tb n cl) := by
  intro pc f args H L h hp
  obtain ⟨r, h1, h2, h3⟩ := stepCallF_ok hfa hk hc n pc f args H L h hp
  refine ⟨r, h1, h2, ?_⟩
  show (stepCall P tb n cl f args H).map (mergeL H) = _
  rw [h3]
  rfl

theorem callF_ok (hfa : FactsOk tb) {kn : Nat → Option V} {n0 : Nat} (hk : KnOk kn (call P tb n0)) : ∀ n, CovC tb (callF kn P tb n0 n) (call P tb (n0 + n))
  | 0 => by intro pc f args H L h; simp [callF] at h
  | n + 1 => stepCallFM_ok hfa (fun f v hv => by
      obtain ⟨h1, H', h2⟩ := hk f v hv
      exact ⟨h1, H', call_mono (Nat.le_add_right n0 n) _ _ _ _ h2⟩) (callF_ok hfa hk n) (n0 + n)

theorem kn_none {cl : CallFn} : KnOk (fun _ => none) cl := fun f v h => by simp at h

/-- Is the value at a path's end true? -/
def leafOk (r : PC × V × Heap) : Bool :=
  match r.2.1 with
  | .val (.bool b) => b
  | .sym .bool e => (match decideB r.1 e with | some true => true | _ => false)
  | _ => false

theorem leafOk_ok {ρ : Nat → Value} {r : PC × V × Heap} (h : leafOk r = true) (hp : r.1.holds ρ) : TrueV ρ r.2.1 := by
  obtain ⟨pc, v, H⟩ := r
  unfold leafOk at h
  split at h
  · rename_i b hv
    simp only at hv
    subst hv
    subst h
    exact .inl rfl
  · rename_i e hv
    simp only at hv
    subst hv
    split at h
    · rename_i hd
      exact .inr ⟨e, rfl, decideB_ok hp hd⟩
    · exact absurd h (by simp)
  · exact absurd h (by simp)

def allTrue : Option (List (PC × V × Heap)) → Bool
  | some L => L.all leafOk
  | none => false

/-- **Every path ends with true.** -/
theorem all_true (hfa : FactsOk tb) {kn : Nat → Option V} {n0 n f : Nat} {pc : PC} {ys : List V} (hk : KnOk kn (call P tb n0)) (hp : pc.holds tb.rho) (h : allTrue (callF kn P tb n0 n pc f ys H0) = true) : ∃ m L, call P tb m f ys H0 = some L ∧ ∀ r, r ∈ L → TrueV tb.rho r.1 := by
  unfold allTrue at h
  split at h
  · rename_i L hL
    obtain ⟨r, h1, h2, h3⟩ := callF_ok hfa hk n _ _ _ _ _ hL hp
    refine ⟨n0 + n, _, h3, fun q hq => ?_⟩
    rw [List.mem_singleton.1 hq]
    exact leafOk_ok (List.all_eq_true.1 h r h1) h2
  · exact absurd h (by simp)

/-- What is left to be shown: the paths whose end is not plainly true. -/
def restOf : Option (List (PC × V × Heap)) → Option (List (PC × SE))
  | some L => ((L.filter fun r => !leafOk r).mapM fun r => match r.2.1 with
      | .val (.bool b) => some (r.1, .bool b)
      | .sym .bool e => some (r.1, e)
      | _ => none)
  | none => none

theorem all_rest (hfa : FactsOk tb) {kn : Nat → Option V} {n0 n f : Nat} {pc : PC} {ys : List V} {R : List (PC × SE)} (hk : KnOk kn (call P tb n0)) (hp : pc.holds tb.rho) (h : restOf (callF kn P tb n0 n pc f ys H0) = some R) (hR : ∀ q, q ∈ R → q.1.holds tb.rho → q.2.truth tb.rho = true) :
    ∃ m L, call P tb m f ys H0 = some L ∧ ∀ r, r ∈ L → TrueV tb.rho r.1 := by
  unfold restOf at h
  split at h
  · rename_i L hL
    obtain ⟨r, h1, h2, h3⟩ := callF_ok hfa hk n _ _ _ _ _ hL hp
    refine ⟨n0 + n, _, h3, fun q hq => ?_⟩
    rw [List.mem_singleton.1 hq]
    by_cases hl : leafOk r = true
    · exact leafOk_ok hl h2
    · have hm : r ∈ L.filter fun r => !leafOk r := List.mem_filter.2 ⟨h1, by simpa using hl⟩
      obtain ⟨j, hj⟩ := List.getElem?_of_mem hm
      have hlen := (mapM_some h).1
      have hjl : j < R.length := by rw [hlen]; exact (List.getElem?_eq_some_iff.1 hj).1
      obtain ⟨a, ha, hf⟩ := (mapM_some h).2 j R[j] (by simp [hjl])
      rw [hj] at ha
      cases ha
      have hmem : R[j] ∈ R := List.getElem_mem hjl
      split at hf
      · rename_i b hv
        simp only [Option.some.injEq] at hf
        have := hR _ hmem (by rw [← hf]; exact h2)
        rw [← hf] at this
        have : b = true := this
        rw [hv, this]
        exact .inl rfl
      · rename_i e hv
        simp only [Option.some.injEq] at hf
        have := hR _ hmem (by rw [← hf]; exact h2)
        rw [← hf] at this
        rw [hv]
        exact .inr ⟨e, rfl, this⟩
      · exact absurd hf (by simp)
  · exact absurd h (by simp)
end

end
end Go.Sx
