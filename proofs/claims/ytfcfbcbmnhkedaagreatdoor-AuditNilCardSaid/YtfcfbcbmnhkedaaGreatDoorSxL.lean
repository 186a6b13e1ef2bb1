/- Loops by induction: a round's run at unknowns, and what it leaves for the next. -/
import Derived.Test.YtfcfbcbmnhkedaaGreatDoorSx26
set_option linter.unusedVariables false
set_option linter.unusedSimpArgs false
namespace Go.Sx
noncomputable section

/-! ### Values under other unknowns -/
def Froz.re (φ : Froz) (ρ : Nat → Value) : Froz := ⟨φ.at_, ρ⟩
theorem Froz.re_self (φ : Froz) : φ.re φ.rho = φ := rfl
theorem FLe.re {φ φ' : Froz} (h : FLe φ φ') (ρ : Nat → Value) : FLe (φ.re ρ) (φ'.re ρ) := ⟨h.le, rfl⟩

/-- What is told by one value under some unknowns is told by another under others. -/
def VLe (ρ : Nat → Value) (v : V) (ρ' : Nat → Value) (v' : V) : Prop := ∀ (φ : Froz) (γ : Place) (x : Value), φ.rho = ρ → VRel φ γ v x → VRel (φ.re ρ') γ v' x
def EnvLe (ρ : Nat → Value) (e : Env) (ρ' : Nat → Value) (e' : Env) : Prop := ∀ t, VLe ρ (evT e t) ρ' (evT e' t)
def HeapLe (ρ : Nat → Value) (H : Heap) (ρ' : Nat → Value) : Prop := ∀ b k, H.get b = some k → ∀ (φ : Froz) (γ : Place) (w : World) (x : Nat × Nat × Nat), φ.rho = ρ → BlkRel φ γ w x k → BlkRel (φ.re ρ') γ w x k

theorem VLe.refl (ρ : Nat → Value) (v : V) : VLe ρ v ρ v := fun φ γ x h hv => by subst h; exact hv
theorem EnvLe.refl (ρ : Nat → Value) (e : Env) : EnvLe ρ e ρ e := fun t => VLe.refl ρ _
theorem VLe.top (ρ ρ' : Nat → Value) (v : V) : VLe ρ v ρ' .top := fun _ _ _ _ _ => .top
theorem HeapLe.refl (ρ : Nat → Value) (H : Heap) : HeapLe ρ H ρ := fun b k _ φ γ w x h hb => by subst h; exact hb
theorem HeapLe.empty (ρ ρ' : Nat → Value) {H : Heap} (h : ∀ b, H.get b = none) : HeapLe ρ H ρ' := fun b k hk => by rw [h] at hk; exact absurd hk (by simp)

theorem Rel.re {N : Nat} {φ : Froz} {γ : Place} {H : Heap} {w : World} (h : Rel N φ γ H w) {ρ' : Nat → Value} (hl : HeapLe φ.rho H ρ') : Rel N (φ.re ρ') γ H w :=
  ⟨h.ge, h.keys, h.froz, h.lt, fun b x k hx hk => hl b k hk φ γ w x rfl (h.blk b x k hx hk), h.free, h.inj⟩
theorem Step.re {N : Nat} {φ φ' : Froz} {γ γ' : Place} {H H' : Heap} {w w' : World} {T : Nat → Prop} (h : Step N φ γ H w φ' γ' H' w' T) {ρ : Nat → Value} (hl : HeapLe φ'.rho H' ρ) : Step N (φ.re ρ) γ H w (φ'.re ρ) γ' H' w' T :=
  ⟨h.fle.re ρ, h.ple, h.rel.re hl, h.os, h.tape, h.output, h.size, h.next, h.base, h.fr, h.dom, h.tlt, h.low, h.mono, h.fdom⟩
theorem Fr.re {φ : Froz} {γ : Place} {ro : Option Nat} {ds : List Deferred} {nt : Nat} {e e' : Env} {a : Act} (h : Fr φ γ ro ds nt e a) {ρ' : Nat → Value} (he : EnvLe φ.rho e ρ' e') (hro : ro = none) : Fr (φ.re ρ') γ ro ds nt e' a :=
  ⟨fun t => he t φ γ _ rfl (h.rel t), h.size, h.defers, fun hr => by subst hro; simp at hr⟩

/-! ### The rule -/
/-- What is asked of a round at one member of a family of unknowns: it leaves the loop, or goes on at another member. -/
def RoundTo {X : Type} (ρ : X → Nat → Value) (Inv : X → Prop) (μ : X → Nat) (hd : St) (out : X → Ex × Env) (x : X) (r : Ex × St) : Prop :=
  (r.1 ≠ .normal ∧ r.1 = (out x).1 ∧ EnvLe (ρ x) r.2.env (ρ x) (out x).2) ∨
  (r.1 = .normal ∧ ∃ y, Inv y ∧ μ y < μ x ∧ EnvLe (ρ x) r.2.env (ρ y) hd.env ∧ (out y).1 = (out x).1 ∧ EnvLe (ρ y) (out y).2 (ρ x) (out x).2 ∧ HeapLe (ρ x) hd.h (ρ y) ∧ HeapLe (ρ y) hd.h (ρ x))

theorem loop_ind {P : Program} {nt : Nat} {X : Type} {tbx : X → Tb} {ρ : X → Nat → Value} (hrho : ∀ x, (tbx x).rho = ρ x) (hglob : ∀ x y, (tbx x).glob = (tbx y).glob) {Inv : X → Prop} {μ : X → Nat} {c : Code} {hd : St} {out : X → Ex × Env}
    (hin : inRound hd.env = false) (hbody : ∀ x, Inv x → ∃ r, SoundAt P (tbx x) nt (.code c) hd [r] ∧ r.2.h = hd.h ∧ RoundTo ρ Inv μ hd out x r) :
    ∀ n x, μ x = n → Inv x → SoundAt P (tbx x) nt (.code (.loop c)) hd [((out x).1, { env := (out x).2, h := hd.h })] := by
  intro n
  induction n using Nat.strongRecOn with
  | _ n ih =>
    intro x hn hx N Lim M0 ro ds φ γ w a hr hg hM0 hmk hfr hb hlim hf
    have hro : ro = none := by
      cases ro with
      | none => rfl
      | some l => have := hfr.rnd rfl; rw [hin] at this; exact absurd this (by simp)
    subst hro
    obtain ⟨r, hs, hrh, hto⟩ := hbody x hx
    have hφ : φ.rho = ρ x := hg.rho.trans (hrho x)
    have hlim1 : hd.h.next ≤ Lim := hlim _ (List.mem_singleton_self _)
    have hc := (hs N Lim M0 none ds φ γ w a hr hg hM0 hmk hfr hb (fun q hq => by rw [List.mem_singleton.1 hq, hrh]; exact hlim1) hf).1
    have key : c.wpIn (wide none) 0 P (Exit.then (LoopWp none P c (OutIs N M0 φ γ none nt hd w [((out x).1, { env := (out x).2, h := hd.h })])) (OutIs N M0 φ γ none nt hd w [((out x).1, { env := (out x).2, h := hd.h })])) a w := by
      refine wpIn_mono hc ?_
      intro e a1 w1 ho
      obtain ⟨q, hq, he, φ1, γ1, T1, hs1, ds1, hm1, hf1⟩ := ho
      rw [List.mem_singleton.1 hq] at he hs1 hf1
      have hφ1 : φ1.rho = ρ x := hs1.fle.rho.trans hφ
      rw [hrh] at hs1
      rcases hto with ⟨h1, h2, h3⟩ | ⟨h1, y, hy, hlt, h3, h4, h5, h6, h7⟩
      · have hne : e ≠ .normal := by
          rintro rfl
          cases hr1 : r.1 <;> rw [hr1] at he h1 <;> first | exact he.elim | exact h1 rfl
        have hout : OutIs N M0 φ γ none nt hd w [((out x).1, { env := (out x).2, h := hd.h })] e a1 w1 := by
          refine ⟨_, List.mem_singleton_self _, by rw [← h2]; exact he, φ1, γ1, T1, hs1, ds1, hm1, ?_⟩
          have := hf1.re (ρ' := ρ x) (e' := (out x).2) (by rw [hφ1]; exact h3) rfl
          rw [← hφ1] at this
          exact this
        cases e <;> first | exact absurd rfl hne | exact hout
      · have hen : e = .normal := by
          rw [h1] at he
          cases e <;> first | rfl | exact he.elim
        subst hen
        have hrel : Rel N (φ1.re (ρ y)) γ1 hd.h w1 := hs1.rel.re (by rw [hφ1]; exact h6)
        have hfr1 : Fr (φ1.re (ρ y)) γ1 none ds1 nt hd.env a1 := hf1.re (by rw [hφ1]; exact h3) rfl
        have hg1 : GlobOk (φ1.re (ρ y)) (tbx y) := ⟨fun g l hgl j v hv => (hg.mono hs1.fle).at_ g l (by rw [hglob x y]; exact hgl) j v hv, (hrho y).symm⟩
        have hl := (ih (μ y) (hn ▸ hlt) y rfl hy N Lim M0 none ds1 (φ1.re (ρ y)) γ1 w1 a1 hrel hg1 (Nat.le_trans hM0 hs1.size) hm1 hfr1 hb (fun q hq => by rw [List.mem_singleton.1 hq]; exact hlim1) (hs1.fresh hf)).2 c rfl
        refine LoopWp.mono hl ?_
        intro e2 a2 w2 ho2
        obtain ⟨q2, hq2, he2, φ2, γ2, T2, hs2, ds2, hm2, hf2⟩ := ho2
        rw [List.mem_singleton.1 hq2] at he2 hs2 hf2
        have hφ2 : φ2.rho = ρ y := hs2.fle.rho
        have hs2' : Step N φ1 γ1 hd.h w1 (φ2.re (ρ x)) γ2 hd.h w2 T2 := by
          have := hs2.re (ρ := ρ x) (by rw [hφ2]; exact h7)
          rw [show (φ1.re (ρ y)).re (ρ x) = φ1 by rw [← hφ1]; rfl] at this
          exact this
        refine ⟨_, List.mem_singleton_self _, by rw [← h4]; exact he2, φ2.re (ρ x), γ2, _, hs1.trans hs2', ds2, hm2, ?_⟩
        exact hf2.re (by rw [hφ2]; exact h5) rfl
    have := loop_both key
    exact ⟨this.1, fun d hd2 => by cases hd2; exact this.2⟩

/-! ### Values without changing unknowns -/
section
variable (S : Nat → Bool)
/-- An expression over unknowns of a set. -/
def SE.low : SE → Bool
  | .ivar _ n | .bvar n | .svar n => S n
  | .int .. | .bool _ | .str _ => true
  | .bin _ _ a b | .max _ a b | .cmp _ a b | .eqs a b | .eqb a b | .and a b | .byte a b | .cat a b => a.low && b.low
  | .conv _ a | .len a | .not a => a.low
  | .ite c a b | .sub c a b => c.low && (a.low && b.low)
theorem SE.low_eq {ρ ρ' : Nat → Value} (h : ∀ n, S n = true → ρ n = ρ' n) : ∀ {e : SE}, e.low S = true → e.all ρ = e.all ρ' := by
  intro e
  induction e with
  | ivar k n => intro hl; simp only [SE.low] at hl; simp only [SE.all, h n hl]
  | bvar n => intro hl; simp only [SE.low] at hl; simp only [SE.all, h n hl]
  | svar n => intro hl; simp only [SE.low] at hl; simp only [SE.all, h n hl]
  | int k i => intro _; rfl
  | bool b => intro _; rfl
  | str s => intro _; rfl
  | bin o k a b iha ihb => intro hl; simp only [SE.low, Bool.and_eq_true] at hl; simp only [SE.all, iha hl.1, ihb hl.2]
  | max m a b iha ihb => intro hl; simp only [SE.low, Bool.and_eq_true] at hl; simp only [SE.all, iha hl.1, ihb hl.2]
  | cmp o a b iha ihb => intro hl; simp only [SE.low, Bool.and_eq_true] at hl; simp only [SE.all, iha hl.1, ihb hl.2]
  | eqs a b iha ihb => intro hl; simp only [SE.low, Bool.and_eq_true] at hl; simp only [SE.all, iha hl.1, ihb hl.2]
  | eqb a b iha ihb => intro hl; simp only [SE.low, Bool.and_eq_true] at hl; simp only [SE.all, iha hl.1, ihb hl.2]
  | and a b iha ihb => intro hl; simp only [SE.low, Bool.and_eq_true] at hl; simp only [SE.all, iha hl.1, ihb hl.2]
  | conv k a iha => intro hl; simp only [SE.low] at hl; simp only [SE.all, iha hl]
  | len a iha => intro hl; simp only [SE.low] at hl; simp only [SE.all, iha hl]
  | not a iha => intro hl; simp only [SE.low] at hl; simp only [SE.all, iha hl]
  | ite c a b ihc iha ihb => intro hl; simp only [SE.low, Bool.and_eq_true] at hl; simp only [SE.all, ihc hl.1, iha hl.2.1, ihb hl.2.2]
  | sub c a b ihc iha ihb => intro hl; simp only [SE.low, Bool.and_eq_true] at hl; simp only [SE.all, ihc hl.1, iha hl.2.1, ihb hl.2.2]
  | byte a b iha ihb => intro hl; simp only [SE.low, Bool.and_eq_true] at hl; simp only [SE.all, iha hl.1, ihb hl.2]
  | cat a b iha ihb => intro hl; simp only [SE.low, Bool.and_eq_true] at hl; simp only [SE.all, iha hl.1, ihb hl.2]
theorem SE.low_val {ρ ρ' : Nat → Value} (h : ∀ n, S n = true → ρ n = ρ' n) {e : SE} (hl : e.low S = true) (t : STy) : e.val ρ t = e.val ρ' t := by
  cases t <;> simp only [SE.val, SE.num, SE.truth, SE.text, SE.low_eq S h hl]

/-- A value over unknowns of a set. -/
def V.low : Nat → V → Bool
  | 0, _ => false
  | n + 1, v => match v with
    | .sym _ e => e.low S
    | .cptr cs | .agg cs | .tuple cs => cs.all (V.low n)
    | .list _ es _ => es.all fun c => c.all (V.low n)
    | .func _ a b => a.all (V.low n) && b.all (V.low n)
    | .iface _ v => V.low n v
    | _ => true
theorem mem_all {f : V → Bool} {l : List V} (h : l.all f = true) {j : Nat} {v : V} (hj : l[j]? = some v) : f v = true := List.all_eq_true.1 h v (List.mem_of_getElem? hj)
theorem V.low_le {ρ ρ' : Nat → Value} (h : ∀ n, S n = true → ρ n = ρ' n) {φ : Froz} {γ : Place} (hφ : φ.rho = ρ) {v : V} {x : Value} (hv : VRel φ γ v x) : ∀ {n : Nat}, V.low S n v = true → VRel (φ.re ρ') γ v x := by
  induction hv with
  | val h1 => intro n _; exact .val h1
  | sym h1 =>
    intro n hl
    cases n with
    | zero => simp [V.low] at hl
    | succ n =>
      simp only [V.low] at hl
      refine .sym ?_
      rw [h1, hφ]
      exact SE.low_val S h hl _
  | ptr h1 => intro n _; exact .ptr h1
  | cptr f h1 h2 _ ih =>
    intro n hl
    cases n with
    | zero => simp [V.low] at hl
    | succ n =>
      simp only [V.low] at hl
      exact .cptr f h1 h2 (fun j v hj => ih j v hj (mem_all hl hj))
  | lnil => intro n _; exact .lnil
  | list sz f h1 h2 h3 h4 h5 _ h7 ih =>
    intro n hl
    cases n with
    | zero => simp [V.low] at hl
    | succ n =>
      simp only [V.low] at hl
      refine .list sz f h1 h2 h3 h4 h5 (fun i c hc j v hj => ih i c hc j v hj (n := n) ?_) h7
      have := List.all_eq_true.1 hl c (List.mem_of_getElem? hc)
      exact mem_all this hj
  | mslice h1 h2 h3 => intro n _; exact .mslice h1 h2 h3
  | vslice h1 h2 h3 h4 h5 => intro n _; exact .vslice h1 h2 h3 h4 h5
  | map h1 => intro n _; exact .map h1
  | func h1 h2 _ _ ih1 ih2 =>
    intro n hl
    cases n with
    | zero => simp [V.low] at hl
    | succ n =>
      simp only [V.low, Bool.and_eq_true] at hl
      exact .func h1 h2 (fun j v hj => ih1 j v hj (mem_all hl.1 hj)) (fun j v hj => ih2 j v hj (mem_all hl.2 hj))
  | yield h1 => intro n _; exact .yield h1
  | iface _ ih =>
    intro n hl
    cases n with
    | zero => simp [V.low] at hl
    | succ n =>
      simp only [V.low] at hl
      exact .iface (ih hl)
  | agg h1 h2 _ ih =>
    intro n hl
    cases n with
    | zero => simp [V.low] at hl
    | succ n =>
      simp only [V.low] at hl
      exact .agg h1 h2 (fun j v hj => ih j v hj (mem_all hl hj))
  | tuple h1 _ ih =>
    intro n hl
    cases n with
    | zero => simp [V.low] at hl
    | succ n =>
      simp only [V.low] at hl
      exact .tuple h1 (fun j v hj => ih j v hj (mem_all hl hj))
  | top => intro n _; exact .top
theorem VLe.low {ρ ρ' : Nat → Value} (h : ∀ n, S n = true → ρ n = ρ' n) {v : V} {n : Nat} (hl : V.low S n v = true) : VLe ρ v ρ' v := fun φ γ x hφ hv => V.low_le S h hφ hv hl

/-! ### Frames compared -/
/-- Is what is asked of a temporary told: anything; or the same, over unknowns that do not change. -/
def leV (a b : Option V) : Bool :=
  match b with
  | some .top => true
  | some y => (match a with
    | some x => V.sameS 12 x y && V.low S 12 y
    | none => V.sameS 12 V.undef y && V.low S 12 y)
  | none => (match a with
    | none => true
    | some x => V.sameS 12 x V.undef)
def partsT : Env → Env × Option V × Env
  | .leaf => (.leaf, none, .leaf)
  | .node l v r => (l, v, r)
def leNil : Env → Bool
  | .leaf => true
  | .node l v r => leNil l && (leV S v none && leNil r)
def leTr (a b : Env) : Bool := Tr.rec (motive := fun _ => Env → Bool) (fun a => leNil S a) (fun _ v _ ihl ihr a => ihl (partsT a).1 && (leV S (partsT a).2.1 v && ihr (partsT a).2.2)) b a
theorem leV_ok {ρ ρ' : Nat → Value} (h : ∀ n, S n = true → ρ n = ρ' n) {a b : Option V} (hl : leV S a b = true) : VLe ρ (a.getD V.undef) ρ' (b.getD V.undef) := by
  have hu : VLe ρ V.undef ρ' V.undef := VLe.low S h (n := 2) rfl
  unfold leV at hl
  split at hl
  · exact VLe.top _ _ _
  · split at hl
    · simp only [Bool.and_eq_true] at hl
      have := V.sameS_eq _ _ _ hl.1
      subst this
      exact VLe.low S h hl.2
    · simp only [Bool.and_eq_true] at hl
      have := V.sameS_eq _ _ _ hl.1
      subst this
      exact VLe.low S h hl.2
  · split at hl
    · exact hu
    · have := V.sameS_eq _ _ _ hl
      subst this
      exact hu
theorem leNil_ok {ρ ρ' : Nat → Value} (h : ∀ n, S n = true → ρ n = ρ' n) : ∀ {a : Env}, leNil S a = true → EnvLe ρ a ρ' .leaf
  | .leaf, _ => fun t => VLe.low S h (n := 2) rfl
  | .node l v r, hl => by
    simp only [leNil, Bool.and_eq_true] at hl
    obtain ⟨h1, h2, h3⟩ := hl
    intro t
    unfold evT
    rcases Tr.cases3 t with rfl | ⟨k, rfl⟩ | ⟨k, rfl⟩
    · exact leV_ok S h h2
    · rw [Tr.get_odd]; exact leNil_ok h h1 k
    · rw [Tr.get_even]; exact leNil_ok h h3 k
theorem leTr_ok {ρ ρ' : Nat → Value} (h : ∀ n, S n = true → ρ n = ρ' n) {a b : Env} (hl : leTr S a b = true) : EnvLe ρ a ρ' b := by
  induction b generalizing a with
  | leaf => exact leNil_ok S h hl
  | node l v r ihl ihr =>
    have hl : (leTr S (partsT a).1 l && (leV S (partsT a).2.1 v && leTr S (partsT a).2.2 r)) = true := hl
    simp only [Bool.and_eq_true] at hl
    obtain ⟨h1, h2, h3⟩ := hl
    cases a with
    | leaf =>
      intro t
      unfold evT
      rcases Tr.cases3 t with rfl | ⟨k, rfl⟩ | ⟨k, rfl⟩
      · exact leV_ok S h h2
      · rw [Tr.get_odd]; exact ihl h1 k
      · rw [Tr.get_even]; exact ihr h3 k
    | node l' v' r' =>
      intro t
      unfold evT
      rcases Tr.cases3 t with rfl | ⟨k, rfl⟩ | ⟨k, rfl⟩
      · exact leV_ok S h h2
      · rw [Tr.get_odd, Tr.get_odd]; exact ihl h1 k
      · rw [Tr.get_even, Tr.get_even]; exact ihr h3 k
end
end
end Go.Sx
