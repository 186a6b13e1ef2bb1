/- The look over all functions' code, in pieces. -/
import Derived.Test.YtfcfbcbmnhkedaaGreatDoorSx19
set_option linter.unusedVariables false
namespace Go.Sx
noncomputable section
def fnOk (fn : Func) : Bool := match fn.body with | some c => codeOk fn.ntmps c | none => true
def chunkOk (l : List Func) (a n : Nat) : Bool := ((l.drop a).take n).all fnOk
theorem chunks_all {l : List Func} (n : Nat) (as : List Nat) (has : as = (List.range as.length).map (· * n)) (h : ∀ a, a ∈ as → chunkOk l a n = true) (he : (l.drop (as.length * n)).isEmpty = true) : l.all (fun fn => match fn.body with | some c => codeOk fn.ntmps c | none => true) = true := by
  rw [List.all_eq_true]
  intro fn hfn
  obtain ⟨i, hi, rfl⟩ := List.mem_iff_getElem.1 hfn
  have hlen : l.length ≤ as.length * n := by
    have := List.isEmpty_iff.1 he
    simpa using this
  have hn : 0 < n := by
    rcases Nat.eq_zero_or_pos n with h0 | h0
    · subst h0; simp at hlen; subst hlen; simp at hi
    · exact h0
  have hq : i / n < as.length := by
    rw [Nat.div_lt_iff_lt_mul hn]
    omega
  have hmem : i / n * n ∈ as := by
    rw [has]
    exact List.mem_map.2 ⟨i / n, List.mem_range.2 hq, rfl⟩
  have hc := h _ hmem
  unfold chunkOk at hc
  rw [List.all_eq_true] at hc
  have hlt : i % n < n := Nat.mod_lt _ hn
  have hdm := Nat.div_add_mod i n
  have e : i / n * n + i % n = i := by rw [Nat.mul_comm]; exact hdm
  have : l[i] ∈ (l.drop (i / n * n)).take n := by
    rw [List.mem_iff_getElem?]
    refine ⟨i % n, ?_⟩
    rw [List.getElem?_take, if_pos hlt, List.getElem?_drop, e]
    exact List.getElem?_eq_getElem hi
  exact hc _ this
end
end Go.Sx
