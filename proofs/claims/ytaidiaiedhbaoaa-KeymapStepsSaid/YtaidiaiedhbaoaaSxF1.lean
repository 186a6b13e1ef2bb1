/- The interpreter once more, in many small definitions: the same outcomes, at less cost for the kernel. -/
import Derived.Test.YtaidiaiedhbaoaaSx1
/- The interpreter once more, in many small definitions: the same outcomes, at less cost for the kernel. -/
set_option linter.unusedVariables false
set_option linter.unusedSimpArgs false
namespace Go.Sx
noncomputable section

/-! ### Arithmetic -/
def iAdd (k : IntKind) (a : Int) (k' : IntKind) (b : Int) : Option Value := if k = k' then some (.int k (k.wrap (a + b))) else none
def iSub (k : IntKind) (a : Int) (k' : IntKind) (b : Int) : Option Value := if k = k' then some (.int k (k.wrap (a - b))) else none
def iMul (k : IntKind) (a : Int) (k' : IntKind) (b : Int) : Option Value := if k = k' then some (.int k (k.wrap (a * b))) else none
def iEql (k : IntKind) (a : Int) (k' : IntKind) (b : Int) : Option Value := if k = k' then some (.bool (a == b)) else none
def iNeq (k : IntKind) (a : Int) (k' : IntKind) (b : Int) : Option Value := if k = k' then some (.bool (a != b)) else none
def iLss (k : IntKind) (a : Int) (k' : IntKind) (b : Int) : Option Value := if k = k' then some (.bool (decide (a < b))) else none
def iLeq (k : IntKind) (a : Int) (k' : IntKind) (b : Int) : Option Value := if k = k' then some (.bool (decide (a ≤ b))) else none
def iGtr (k : IntKind) (a : Int) (k' : IntKind) (b : Int) : Option Value := if k = k' then some (.bool (decide (a > b))) else none
def iGeq (k : IntKind) (a : Int) (k' : IntKind) (b : Int) : Option Value := if k = k' then some (.bool (decide (a ≥ b))) else none
def intBinX (op : BinOp) (k : IntKind) (a : Int) (k' : IntKind) (b : Int) : Option Value :=
  match op with
  | .add => iAdd k a k' b
  | .sub => iSub k a k' b
  | .mul => iMul k a k' b
  | .eql => iEql k a k' b
  | .neq => iNeq k a k' b
  | .lss => iLss k a k' b
  | .leq => iLeq k a k' b
  | .gtr => iGtr k a k' b
  | .geq => iGeq k a k' b
  | op => intBin op k a k' b
theorem intBinX_eq (op : BinOp) (k : IntKind) (a : Int) (k' : IntKind) (b : Int) : intBinX op k a k' b = intBin op k a k' b := by cases op <;> rfl

def orSlow (P : Program) (tb : Tb) (op : BinOp) (T : TypeId) (x y : V) : Option Value → Option V
  | some v => some (.val v)
  | none => evalBin P tb op T x y
def binII (P : Program) (tb : Tb) (op : BinOp) (T : TypeId) (k : IntKind) (a : Int) (y : Value) : Option V :=
  match y with
  | .int k' b => orSlow P tb op T (.val (.int k a)) (.val (.int k' b)) (intBinX op k a k' b)
  | y => evalBin P tb op T (.val (.int k a)) (.val y)
def binVal (P : Program) (tb : Tb) (op : BinOp) (T : TypeId) (x y : Value) : Option V :=
  match x with
  | .int k a => binII P tb op T k a y
  | x => evalBin P tb op T (.val x) (.val y)
def binV (P : Program) (tb : Tb) (op : BinOp) (T : TypeId) (x : Value) (y : V) : Option V :=
  match y with
  | .val y => binVal P tb op T x y
  | y => evalBin P tb op T (.val x) y
def evalBinX (P : Program) (tb : Tb) (op : BinOp) (T : TypeId) (x y : V) : Option V :=
  match x with
  | .val x => binV P tb op T x y
  | x => evalBin P tb op T x y

theorem evalBin_int {P : Program} {tb : Tb} {op : BinOp} {T : TypeId} {k k' : IntKind} {a b : Int} {v : Value} (h : intBin op k a k' b = some v) : evalBin P tb op T (.val (.int k a)) (.val (.int k' b)) = some (.val v) := by
  have e0 : evalBin0 P tb op T (.val (.int k a)) (.val (.int k' b)) = some (.val v) := by
    have hn : sliNil (.val (.int k a)) (.val (.int k' b)) = none := by simp [sliNil]
    unfold evalBin0 evalBin00
    rw [hn]
    simp only [h, Option.map_some]
  have e1 : evalBin1 P tb op T (.val (.int k a)) (.val (.int k' b)) = some (.val v) := by
    unfold evalBin1
    cases op <;> first | exact e0 | (simp only [equalAgg]; exact e0)
  unfold evalBin
  rw [e1]
theorem evalBinX_eq (P : Program) (tb : Tb) (op : BinOp) (T : TypeId) (x y : V) : evalBinX P tb op T x y = evalBin P tb op T x y := by
  unfold evalBinX
  split
  · rename_i x
    unfold binV
    split
    · rename_i y
      unfold binVal
      split
      · rename_i k a
        unfold binII
        split
        · rename_i k' b
          rw [intBinX_eq]
          cases h : intBin op k a k' b with
          | none => rfl
          | some v => exact (evalBin_int h).symm
        · rfl
      · rfl
    · rfl
  · rfl

/-! ### Operations -/
abbrev Outs := Option (List (V × Heap × Bool))
def pureOut (H : Heap) (v : Option V) : Outs := v.map fun v => [(v, H, false)]
def oMove (tb : Tb) (env : Env) (H : Heap) (x : Operand) : Outs := some [(ev tb env x, H, false)]
def oBin (P : Program) (tb : Tb) (env : Env) (H : Heap) (op : BinOp) (t : TypeId) (x y : Operand) : Outs := pureOut H (evalBinX P tb op t (ev tb env x) (ev tb env y))
def oConv (P : Program) (tb : Tb) (env : Env) (H : Heap) (s d : TypeId) (x : Operand) : Outs := pureOut H (evalConv P tb s d (ev tb env x))
def oFieldAddr (tb : Tb) (env : Env) (H : Heap) (t : TypeId) (x : Operand) (f : Nat) : Outs := pureOut H (evalFieldAddr tb t (ev tb env x) f)
def oField (tb : Tb) (env : Env) (H : Heap) (t : TypeId) (x : Operand) (f : Nat) : Outs := pureOut H (evalField tb t (ev tb env x) f)
def oIndexAddr (tb : Tb) (env : Env) (H : Heap) (t : TypeId) (x i : Operand) : Outs := pureOut H (evalIndexAddr tb t (ev tb env x) (ev tb env i))
def oIndex (tb : Tb) (env : Env) (H : Heap) (t : TypeId) (x i : Operand) : Outs := pureOut H (evalIndex tb t (ev tb env x) (ev tb env i))
def oExtractV (H : Heap) (v : V) (i : Nat) : Outs := match v with | .tuple vs => pureOut H vs[i]? | _ => none
def oExtract (tb : Tb) (env : Env) (H : Heap) (x : Operand) (i : Nat) : Outs := oExtractV H (ev tb env x) i
def oUn (P : Program) (tb : Tb) (env : Env) (H : Heap) (op : UnOp) (x : Operand) : Outs := pureOut H (evalUn P op (ev tb env x))
def oLoad (tb : Tb) (env : Env) (H : Heap) (t : TypeId) (a : Operand) : Outs := (evalLoad tb H t (ev tb env a)).map fun v => [(v, H, false)]
def oStore (tb : Tb) (env : Env) (H : Heap) (t : TypeId) (a x : Operand) : Outs := (evalStore tb H t (ev tb env a) (ev tb env x)).map fun H' => [(V.undef, H', true)]
def oCall (cl : CallFn) (tb : Tb) (env : Env) (H : Heap) (f : Operand) (args : Array Operand) (ts : Array TypeId) : Outs := (evalCall cl tb env H { callee := .value f, args, argTypes := ts }).map fun L => L.map fun r => (r.1, back H r.2, r.2.low.isSome)
def oCallee (cl : CallFn) (P : Program) (tb : Tb) (env : Env) (H : Heap) (c : Callee) (args : Array Operand) (ts : Array TypeId) : Outs :=
  match c with
  | .value f => oCall cl tb env H f args ts
  | c => evalOp cl P tb env H (.call { callee := c, args, argTypes := ts })
def oAnyCall (cl : CallFn) (P : Program) (tb : Tb) (env : Env) (H : Heap) (c : Call) : Outs := oCallee cl P tb env H c.callee c.args c.argTypes

def evalOpX (cl : CallFn) (P : Program) (tb : Tb) (env : Env) (H : Heap) (o : Op) : Outs :=
  match o with
  | .move x => oMove tb env H x
  | .assign x => oMove tb env H x
  | .binOp op t x y _ => oBin P tb env H op t x y
  | .convert s d x => oConv P tb env H s d x
  | .fieldAddr t x f => oFieldAddr tb env H t x f
  | .field t x f => oField tb env H t x f
  | .indexAddr t x i => oIndexAddr tb env H t x i
  | .index t x i => oIndex tb env H t x i
  | .extract x i => oExtract tb env H x i
  | .unOp op _ x => oUn P tb env H op x
  | .load t a => oLoad tb env H t a
  | .store t a x => oStore tb env H t a x
  | .call c => oAnyCall cl P tb env H c
  | o => evalOp cl P tb env H o

theorem evalOpX_eq (cl : CallFn) (P : Program) (tb : Tb) (env : Env) (H : Heap) (o : Op) : evalOpX cl P tb env H o = evalOp cl P tb env H o := by
  unfold evalOpX
  split <;> try rfl
  · simp only [oBin, evalBinX_eq]; rfl
  · unfold oExtract oExtractV
    simp only [evalOp, isPure, if_true, evalPure]
    rename_i x i
    generalize ev tb env x = v
    cases v <;> rfl
  · unfold oLoad
    simp only [evalOp, isPure, Bool.false_eq_true, if_false, evalMem, softOp, Option.map_map]
    rfl
  · unfold oStore
    simp only [evalOp, isPure, Bool.false_eq_true, if_false, evalMem, softOp, Option.map_map]
    rfl
  · rename_i c
    unfold oAnyCall oCallee
    obtain ⟨callee, args, ts⟩ := c
    cases callee <;> rfl

/-! ### Regions -/
def bindX {α β : Type} (l : List α) (f : α → Option (List β)) : Option (List β) :=
  match l with
  | [x] => f x
  | l => bindL l f
theorem bindX_eq {α β : Type} (l : List α) (f : α → Option (List β)) : bindX l f = bindL l f := by
  unfold bindX
  split
  · rename_i x
    simp only [bindL]
    cases f x <;> simp
  · rfl

def gVal (tb : Tb) (want : Bool) (v : V) : Option Bool :=
  match v with
  | .val x => (match x with
    | .bool b => some (b == want)
    | x => (condOf tb (.val x)).map fun b => b == want)
  | .tuple [] => some false
  | v => (condOf tb v).map fun b => b == want
def gDst (tb : Tb) (env : Env) (want : Bool) (d : Option Tmp) : Option Bool :=
  match d with
  | some d => gVal tb want (evT env d)
  | none => some false
def guardX (tb : Tb) (ops : Array Oper) (env : Env) (g : Option (Nat × Bool)) : Option Bool :=
  match g with
  | none => some true
  | some p => gDst tb env p.2 ((ops[p.1]?).bind (·.dst))
theorem guardX_eq (tb : Tb) (ops : Array Oper) (env : Env) (o : Oper) : guardX tb ops env o.guard = guardOk tb ops env o := by
  unfold guardX guardOk
  split
  · rename_i h; rw [h]
  · rename_i p h
    rw [h]
    obtain ⟨j, want⟩ := p
    simp only
    unfold gDst
    split
    · rename_i d hd
      rw [hd]
      simp only
      generalize evT env d = v
      cases v with
      | val x => cases x <;> rfl
      | tuple l => cases l <;> rfl
      | _ => rfl
    · rename_i hd
      rw [hd]

abbrev Ops := Nat → Marks → St → Option (List (St × Marks))
def xPut (tb : Tb) (o : Oper) (ih : Ops) (i : Nat) (hard : Marks) (env : Env) (H : Heap) (r : V × Heap × Bool) : Option (List (St × Marks)) :=
  ih (i + 1) (addMark tb env H r.2.1 o.op r.2.2 i hard) { env := putT env o.dst r.1, h := r.2.1 }
def xDo (cl : CallFn) (P : Program) (tb : Tb) (o : Oper) (ih : Ops) (i : Nat) (hard : Marks) (env : Env) (H : Heap) : Option (List (St × Marks)) :=
  (evalOpX cl P tb env H o.op).bind fun L => bindX L fun r => xPut tb o ih i hard env H r
def xGo (cl : CallFn) (P : Program) (tb : Tb) (o : Oper) (ih : Ops) (i : Nat) (hard : Marks) (st : St) (g : Option Bool) : Option (List (St × Marks)) :=
  match g with
  | none => none
  | some b => (match b with
    | false => ih (i + 1) hard { st with env := putT st.env o.dst V.undef }
    | true => xDo cl P tb o ih i hard st.env st.h)
def xOne (cl : CallFn) (P : Program) (tb : Tb) (ops : Array Oper) (o : Oper) (ih : Ops) : Ops := fun i hard st => xGo cl P tb o ih i hard st (guardX tb ops st.env o.guard)
def opsX (cl : CallFn) (P : Program) (tb : Tb) (ops : Array Oper) (l : List Oper) : Ops :=
  List.rec (motive := fun _ => Ops) (fun _ hard st => some [(st, hard)]) (fun o _ ih => xOne cl P tb ops o ih) l
theorem opsX_eq (cl : CallFn) (P : Program) (tb : Tb) (ops : Array Oper) : ∀ (l : List Oper) (i : Nat) (hard : Marks) (st : St), opsX cl P tb ops l i hard st = execOps cl P tb ops l i hard st
  | [], i, hard, st => rfl
  | o :: l, i, hard, st => by
    show xGo cl P tb o (opsX cl P tb ops l) i hard st (guardX tb ops st.env o.guard) = _
    rw [guardX_eq]
    simp only [execOps]
    have ih := opsX_eq cl P tb ops l
    cases guardOk tb ops st.env o with
    | none => rfl
    | some b =>
      cases b with
      | false => exact ih _ _ _
      | true =>
        show ((evalOpX cl P tb st.env st.h o.op).bind fun L => bindX L fun r => xPut tb o (opsX cl P tb ops l) i hard st.env st.h r) = _
        rw [evalOpX_eq]
        congr 1
        funext L
        rw [bindX_eq]
        congr 1
        funext r
        exact ih _ _ _

/-! ### Code -/
abbrev Ih := Tk → St → Option (List (Ex × St))
def allDraw (ops : Array Oper) (L : List (St × Marks)) : Bool :=
  match L with
  | [r] => drawOk ops r.2
  | _ => false
def outs (L : List (St × Marks)) : List (Ex × St) := L.map fun r => (.normal, r.1)
def xDraw (ops : Array Oper) (L : List (St × Marks)) : Option (List (Ex × St)) := if allDraw ops L then some (outs L) else none
def xRegion (cl : CallFn) (P : Program) (tb : Tb) (ops : Array Oper) (draw : Bool) (st : St) : Option (List (Ex × St)) :=
  match draw with
  | true => (opsX cl P tb ops ops.toList 0 [] st).bind (xDraw ops)
  | false => (opsX cl P tb ops ops.toList 0 [] st).map outs
def seqEx (tb : Tb) (ih : Ih) (b : Code) (r : Ex × St) : Option (List (Ex × St)) :=
  match r.1 with
  | .normal => ih (.code b) (forget tb (loopKey b + 1048576) r.2)
  | e => some [(e, r.2)]
def xSeq (tb : Tb) (ih : Ih) (a b : Code) (st : St) : Option (List (Ex × St)) := (ih (.code a) st).bind fun L => bindX L (seqEx tb ih b)
def condV (tb : Tb) (v : V) : Option Bool :=
  match v with
  | .val x => (match x with
    | .bool b => some b
    | x => condOf tb (.val x))
  | v => condOf tb v
def xCondB (ih : Ih) (x y : Code) (st : St) (b : Option Bool) : Option (List (Ex × St)) :=
  match b with
  | some t => (match t with
    | true => ih (.code x) st
    | false => ih (.code y) st)
  | none => none
def xCond (tb : Tb) (ih : Ih) (c : Operand) (x y : Code) (st : St) : Option (List (Ex × St)) := xCondB ih x y st (condV tb (ev tb st.env c))
def blockEx (id : Nat) (r : Ex × St) : Ex × St := (match r.1 with
      | .exit j => if j = id then .normal else .exit j
      | e => e, r.2)
def xBlock (ih : Ih) (id : Nat) (c : Code) (st : St) : Option (List (Ex × St)) := (ih (.code c) st).map fun L => L.map (blockEx id)
def loopEx (tb : Tb) (ih : Ih) (c : Code) (r : Ex × St) : Option (List (Ex × St)) :=
  match r.1 with
  | .normal => ih (.code (.loop c)) (forget tb (loopKey c) r.2)
  | e => some [(e, r.2)]
def xLoopT (tb : Tb) (ih : Ih) (c : Code) (st : St) (t : Option OTree) : Option (List (Ex × St)) :=
  match t with
  | some t => some [t.eval tb.rho st.h]
  | none => (ih (.code c) st).bind fun L => bindX L (loopEx tb ih c)
def xLoop (tb : Tb) (ih : Ih) (c : Code) (st : St) : Option (List (Ex × St)) := xLoopT tb ih c st (tb.loopT (loopK c) st)
def stepX (cl : CallFn) (P : Program) (tb : Tb) (ih : Ih) (tk : Tk) (st : St) : Option (List (Ex × St)) :=
  match tk with
  | .code c => (match c with
    | .region _ ops draw => xRegion cl P tb ops draw st
    | .seq a b => xSeq tb ih a b st
    | .cond c x y => xCond tb ih c x y st
    | .block id c => xBlock ih id c st
    | .loop c => xLoop tb ih c st
    | c => stepC cl P tb ih (.code c) st)
  | .within b c => stepC cl P tb ih (.within b c) st

theorem stepX_eq (cl : CallFn) (P : Program) (tb : Tb) (ih : Ih) (tk : Tk) (st : St) : stepX cl P tb ih tk st = stepC cl P tb ih tk st := by
  unfold stepX
  split
  · split <;> try rfl
    · rename_i id ops draw
      unfold xRegion
      simp only [stepC, ← opsX_eq]
      cases draw with
      | true =>
        simp only [if_true]
        congr 1
        funext L
        unfold xDraw outs allDraw
        split
        · simp
        · rename_i hne
          have : (L.length == 1) = false := by
            rw [beq_eq_false_iff_ne]
            intro hl
            obtain ⟨x, rfl⟩ := List.length_eq_one_iff.1 hl
            exact hne x rfl
          simp [this]
      | false =>
        simp only [Bool.false_eq_true, if_false]
        cases opsX cl P tb ops ops.toList 0 [] st <;> rfl
    · rename_i a b
      unfold xSeq
      simp only [stepC]
      congr 1
      funext L
      rw [bindX_eq]
      rfl
    · rename_i c x y
      unfold xCond xCondB
      simp only [stepC]
      have : condV tb (ev tb st.env c) = condOf tb (ev tb st.env c) := by
        unfold condV
        split
        · rename_i h
          rw [h]
          split <;> rfl
        · rename_i h; rfl
      rw [this]
      split
      · rename_i t ht
        rw [ht]
        cases t <;> rfl
      · rename_i ht
        rw [ht]
    · rename_i c
      unfold xLoop xLoopT
      simp only [stepC]
      cases tb.loopT (loopK c) st with
      | some t => rfl
      | none =>
      simp only
      congr 1
      funext L
      rw [bindX_eq]
      rfl
  · rfl

def execX (cl : CallFn) (P : Program) (tb : Tb) (n : Nat) : Ih := Nat.rec (motive := fun _ => Ih) (fun _ _ => none) (fun _ ih => stepX cl P tb ih) n
theorem execX_eq (cl : CallFn) (P : Program) (tb : Tb) : ∀ n, execX cl P tb n = exec cl P tb n
  | 0 => rfl
  | n + 1 => by
    show stepX cl P tb (execX cl P tb n) = stepC cl P tb (exec cl P tb n)
    rw [execX_eq cl P tb n]
    funext tk st
    exact stepX_eq _ _ _ _ _ _

/-! ### Calls -/
def retEx (tb : Tb) (fn : Func) (r : Ex × St) : Option (List (V × Heap)) :=
  match r.1 with
  | .normal | .ret => (resultsOf tb fn r.2).map fun v => [(v, r.2.h)]
  | _ => none
def xBody (P : Program) (tb : Tb) (n : Nat) (cl : CallFn) (fn : Func) (args : List V) (H : Heap) (b : Option Code) : Option (List (V × Heap)) :=
  match b with
  | none => none
  | some c => if fn.ntmps < 1048576 && args.length ≤ fn.ntmps then ((execX cl P tb n (.code c) { env := putArgs 0 args .leaf, h := H }).bind fun L => bindX L (retEx tb fn)).map (mergeL H) else none
def xFunc (P : Program) (tb : Tb) (n : Nat) (cl : CallFn) (args : List V) (H : Heap) (f : Option Func) : Option (List (V × Heap)) :=
  match f with
  | none => none
  | some fn => xBody P tb n cl fn args H fn.body
def xRounds (P : Program) (tb : Tb) (n : Nat) (cl : CallFn) (f : Nat) (args : List V) (H : Heap) : Option (List (V × Heap)) := (stepRound (execX cl P tb.bare n) (Nat.sub f roundBase) args H).map (mergeL H)
def xSpec (P : Program) (tb : Tb) (n : Nat) (cl : CallFn) (f : Nat) (args : List V) (H : Heap) (r : Option (V × List (SE × Bool))) : Option (List (V × Heap)) :=
  match r with
  | some r => (some [(r.1, H)]).map (mergeL H)
  | none => xFunc P tb n cl args H (tb.func f)
def xAny (P : Program) (tb : Tb) (n : Nat) (cl : CallFn) (f : Nat) (args : List V) (H : Heap) (b : Bool) : Option (List (V × Heap)) :=
  match b with
  | true => xRounds P tb n cl f args H
  | false => xSpec P tb n cl f args H (tb.spec f args H)
def stepCallX (P : Program) (tb : Tb) (n : Nat) (cl : CallFn) : CallFn := fun f args H => xAny P tb n cl f args H (Nat.ble roundBase f)
theorem stepCallX_eq (P : Program) (tb : Tb) (n : Nat) (cl : CallFn) : stepCallX P tb n cl = stepCallM P tb n cl := by
  funext f args H
  unfold stepCallX stepCallM stepCall xAny
  cases hle : Nat.ble roundBase f with
  | true => simp only [if_true]; unfold xRounds; rw [execX_eq]
  | false =>
  simp only [Bool.false_eq_true, if_false]
  unfold xSpec
  cases tb.spec f args H with
  | some r => rfl
  | none =>
  simp only
  unfold xFunc
  cases tb.func f with
  | none => rfl
  | some fn =>
    simp only
    unfold xBody
    cases fn.body with
    | none => rfl
    | some c =>
      simp only
      split
      · rw [execX_eq]
        congr 1
        congr 1
        funext L
        rw [bindX_eq]
        rfl
      · rfl
def callX (P : Program) (tb : Tb) (n : Nat) : CallFn := Nat.rec (motive := fun _ => CallFn) (fun _ _ _ => none) (fun n cl => stepCallX P tb n cl) n
theorem callX_eq (P : Program) (tb : Tb) : ∀ n, callX P tb n = call P tb n
  | 0 => rfl
  | n + 1 => by
    show stepCallX P tb n (callX P tb n) = stepCallM P tb n (call P tb n)
    rw [callX_eq P tb n, stepCallX_eq]
end
end Go.Sx
