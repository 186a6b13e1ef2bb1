/- A forking run whose calls at told arguments are the plain interpreter's. -/
import Derived.Test.YtfcfbcbmnhkedaaGreatDoorSxM
import Derived.Test.YtfcfbcbmnhkedaaGreatDoorSxF1
set_option linter.unusedVariables false
set_option linter.unusedSimpArgs false
namespace Go.Sx
noncomputable section

/-- A value without unknowns. -/
def V.noSym : Nat → V → Bool
  | 0, _ => false
  | n + 1, v => match v with
    | .sym .. => false
    | .agg cs | .tuple cs | .cptr cs => cs.all (V.noSym n)
    | .list _ es _ => es.all fun c => c.all (V.noSym n)
    | .iface _ v => V.noSym n v
    | .top => false
    | _ => true
def oneX (pc : PC) : Option (List (V × Heap)) → Option (List (PC × V × Heap))
  | some [r] => some [(pc, r)]
  | _ => none
def stepG (kn : Nat → Option V) (P : Program) (tb : Tb) (n : Nat) (cl : CallF) : CallF := fun pc f args H =>
  match args.all (V.noSym 6) with
  | true => oneX pc (callX P tb (Nat.add n 1) f args H)
  | false => stepCallF kn P tb n cl pc f args H
def callG (kn : Nat → Option V) (P : Program) (tb : Tb) (n0 n : Nat) : CallF := Nat.rec (motive := fun _ => CallF) (fun _ _ _ _ => none) (fun n cl => stepG kn P tb (Nat.add n0 n) cl) n
section
variable {P : Program} {tb : Tb}
theorem callG_ok (hfa : FactsOk tb) {kn : Nat → Option V} {n0 : Nat} (hk : KnOk kn (call P tb n0)) : ∀ n, CovC tb (callG kn P tb n0 n) (call P tb (n0 + n))
  | 0 => by intro pc f args H L h; simp [callG] at h
  | n + 1 => by
    intro pc f args H L h hp
    have h : stepG kn P tb (n0 + n) (callG kn P tb n0 n) pc f args H = some L := h
    unfold stepG at h
    split at h
    · have h : oneX pc (callX P tb (n0 + n + 1) f args H) = some L := h
      unfold oneX at h
      split at h
      · rename_i r hr
        cases h
        rw [callX_eq] at hr
        exact ⟨(pc, r), List.mem_singleton_self _, hp, hr⟩
      · exact absurd h (by simp)
    · exact stepCallFM_ok hfa (fun f v hv => by
        obtain ⟨h1, H', h2⟩ := hk f v hv
        exact ⟨h1, H', call_mono (Nat.le_add_right n0 n) _ _ _ _ h2⟩) (callG_ok hfa hk n) (n0 + n) pc f args H L h hp
theorem all_trueG (hfa : FactsOk tb) {kn : Nat → Option V} {n0 n f : Nat} {pc : PC} {ys : List V} (hk : KnOk kn (call P tb n0)) (hp : pc.holds tb.rho) (h : allTrue (callG kn P tb n0 n pc f ys H0) = true) : ∃ m L, call P tb m f ys H0 = some L ∧ ∀ r, r ∈ L → TrueV tb.rho r.1 := by
  unfold allTrue at h
  split at h
  · rename_i L hL
    obtain ⟨r, h1, h2, h3⟩ := callG_ok hfa hk n _ _ _ _ _ hL hp
    refine ⟨n0 + n, _, h3, fun q hq => ?_⟩
    rw [List.mem_singleton.1 hq]
    exact leafOk_ok (List.all_eq_true.1 h r h1) h2
  · exact absurd h (by simp)
end
end
end Go.Sx
