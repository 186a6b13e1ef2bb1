/-
  No cell of these rows narrows 'for every input' (looked for: loops, veiled, ifaces, maps, wideKeys, modest, calm, conditions, laid).
  DERIVED. THE GIVEN ROWS OF THIS SEAT. 6 by the template 'for every input the law returns true; each argument reads behind the call as it read before'; 0 by the template 'total and deterministic' (their statements: YtaidiaiedhbaoaaTotals.lean).
  GIVEN WITH THE SEED: the statements are not yours to turn. If you find one false, say at which input.
  Laid BY PROGRAM, IN A SANDBOX (cutbox-rows.mjs): the forced cells as the released guide's own fill.sh prints them over the translation cd17c1d032ce19c4… (all of the seat's roots in one cut). By AI agents, Wed Nov 11 2026. No macro, syntax, notation, axiom, sorry.
-/
import Derived.Test.YtaidiaiedhbaoaaChecked
import GoSem.Claim
import GoSem.ClaimJoined
import GoSem.ClaimMapViews
import Derived.JoinedTies
import Derived.KernelRfl
namespace Go.Proofs.Ytaidiaiedhbaoaa
/- THE CELL 'sum', in the pinned program and in every row, IS THE sha256 OF THE DUMP (.gsa) THAT YtaidiaiedhbaoaaProg.lean LOADS. Nothing in Lean hashes anything: it is a label: what it is worth is what the hold of that sum in a sandbox is worth. -/
noncomputable def Try.pinned : Pinned := { name := "ytaidiaiedhbaoaa", sum := "cd17c1d032ce19c447041b96e91d856473de51977496ac70d01913d63f2ef58c", checked := Try.checked }
namespace Rows
def none {H : Type} : Left H := { results := [], args := [] }

/-- 'compositorlaw35.KeymapNew': WHATEVER THE INPUT: true; the input reads as it did. -/
def keymapNewSpec : ChangeSpec := { name := "keymapNew", fn := fun _ => fun
  | [d] => { results := [.lit (.bool true)], args := [d] }
  | _ => none }
def keymapNewRow : OpenClaim := { program := "ytaidiaiedhbaoaa", sum := "cd17c1d032ce19c447041b96e91d856473de51977496ac70d01913d63f2ef58c", func := "compositor/compositorlaw35.KeymapNew", spec := "keymapNew", unfollowed := true, recurses := true, apart := false }
def KeymapNewSaid : Prop := keymapNewRow.holds Try.pinned (OpenSpec.ofChange keymapNewSpec)

/-- ITS FALSE NEIGHBOUR: 'it returns false'. Refute it at one input. -/
def keymapNewWrong : ChangeSpec := { name := "keymapNew", fn := fun _ => fun
  | [d] => { results := [.lit (.bool false)], args := [d] }
  | _ => none }
def KeymapNewWrongFalsely : Prop := keymapNewRow.holds Try.pinned (OpenSpec.ofChange keymapNewWrong)

/-- 'compositorlaw35.KeymapSteps': WHATEVER THE INPUT: true; the input reads as it did. -/
def keymapStepsSpec : ChangeSpec := { name := "keymapSteps", fn := fun _ => fun
  | [d1, d2, d3] => { results := [.lit (.bool true)], args := [d1, d2, d3] }
  | _ => none }
def keymapStepsRow : OpenClaim := { program := "ytaidiaiedhbaoaa", sum := "cd17c1d032ce19c447041b96e91d856473de51977496ac70d01913d63f2ef58c", func := "compositor/compositorlaw35.KeymapSteps", spec := "keymapSteps", unfollowed := true, recurses := true, apart := false }
def KeymapStepsSaid : Prop := keymapStepsRow.holds Try.pinned (OpenSpec.ofChange keymapStepsSpec)

/-- ITS FALSE NEIGHBOUR: 'it returns false'. Refute it at one input. -/
def keymapStepsWrong : ChangeSpec := { name := "keymapSteps", fn := fun _ => fun
  | [d1, d2, d3] => { results := [.lit (.bool false)], args := [d1, d2, d3] }
  | _ => none }
def KeymapStepsWrongFalsely : Prop := keymapStepsRow.holds Try.pinned (OpenSpec.ofChange keymapStepsWrong)

/-- 'compositorlaw35.KeymapModifiers': WHATEVER THE INPUT: true; the input reads as it did. -/
def keymapModifiersSpec : ChangeSpec := { name := "keymapModifiers", fn := fun _ => fun
  | [d1, d2] => { results := [.lit (.bool true)], args := [d1, d2] }
  | _ => none }
def keymapModifiersRow : OpenClaim := { program := "ytaidiaiedhbaoaa", sum := "cd17c1d032ce19c447041b96e91d856473de51977496ac70d01913d63f2ef58c", func := "compositor/compositorlaw35.KeymapModifiers", spec := "keymapModifiers", unfollowed := true, recurses := true, apart := false }
def KeymapModifiersSaid : Prop := keymapModifiersRow.holds Try.pinned (OpenSpec.ofChange keymapModifiersSpec)

/-- ITS FALSE NEIGHBOUR: 'it returns false'. Refute it at one input. -/
def keymapModifiersWrong : ChangeSpec := { name := "keymapModifiers", fn := fun _ => fun
  | [d1, d2] => { results := [.lit (.bool false)], args := [d1, d2] }
  | _ => none }
def KeymapModifiersWrongFalsely : Prop := keymapModifiersRow.holds Try.pinned (OpenSpec.ofChange keymapModifiersWrong)

/-- 'compositorlaw35.KeymapLevels': WHATEVER THE INPUT: true; the input reads as it did. -/
def keymapLevelsSpec : ChangeSpec := { name := "keymapLevels", fn := fun _ => fun
  | [d1, d2, d3] => { results := [.lit (.bool true)], args := [d1, d2, d3] }
  | _ => none }
def keymapLevelsRow : OpenClaim := { program := "ytaidiaiedhbaoaa", sum := "cd17c1d032ce19c447041b96e91d856473de51977496ac70d01913d63f2ef58c", func := "compositor/compositorlaw35.KeymapLevels", spec := "keymapLevels", unfollowed := true, recurses := true, apart := false }
def KeymapLevelsSaid : Prop := keymapLevelsRow.holds Try.pinned (OpenSpec.ofChange keymapLevelsSpec)

/-- ITS FALSE NEIGHBOUR: 'it returns false'. Refute it at one input. -/
def keymapLevelsWrong : ChangeSpec := { name := "keymapLevels", fn := fun _ => fun
  | [d1, d2, d3] => { results := [.lit (.bool false)], args := [d1, d2, d3] }
  | _ => none }
def KeymapLevelsWrongFalsely : Prop := keymapLevelsRow.holds Try.pinned (OpenSpec.ofChange keymapLevelsWrong)

/-- 'compositorlaw35.KeymapLatch': WHATEVER THE INPUT: true; the input reads as it did. -/
def keymapLatchSpec : ChangeSpec := { name := "keymapLatch", fn := fun _ => fun
  | [d] => { results := [.lit (.bool true)], args := [d] }
  | _ => none }
def keymapLatchRow : OpenClaim := { program := "ytaidiaiedhbaoaa", sum := "cd17c1d032ce19c447041b96e91d856473de51977496ac70d01913d63f2ef58c", func := "compositor/compositorlaw35.KeymapLatch", spec := "keymapLatch", unfollowed := true, recurses := true, apart := false }
def KeymapLatchSaid : Prop := keymapLatchRow.holds Try.pinned (OpenSpec.ofChange keymapLatchSpec)

/-- ITS FALSE NEIGHBOUR: 'it returns false'. Refute it at one input. -/
def keymapLatchWrong : ChangeSpec := { name := "keymapLatch", fn := fun _ => fun
  | [d] => { results := [.lit (.bool false)], args := [d] }
  | _ => none }
def KeymapLatchWrongFalsely : Prop := keymapLatchRow.holds Try.pinned (OpenSpec.ofChange keymapLatchWrong)

/-- 'compositorlaw35.KeymapNil': WHATEVER THE INPUT: true; the input reads as it did. -/
def keymapNilSpec : ChangeSpec := { name := "keymapNil", fn := fun _ => fun
  | [d1, d2] => { results := [.lit (.bool true)], args := [d1, d2] }
  | _ => none }
def keymapNilRow : OpenClaim := { program := "ytaidiaiedhbaoaa", sum := "cd17c1d032ce19c447041b96e91d856473de51977496ac70d01913d63f2ef58c", func := "compositor/compositorlaw35.KeymapNil", spec := "keymapNil", unfollowed := true, recurses := true, apart := false }
def KeymapNilSaid : Prop := keymapNilRow.holds Try.pinned (OpenSpec.ofChange keymapNilSpec)

/-- ITS FALSE NEIGHBOUR: 'it returns false'. Refute it at one input. -/
def keymapNilWrong : ChangeSpec := { name := "keymapNil", fn := fun _ => fun
  | [d1, d2] => { results := [.lit (.bool false)], args := [d1, d2] }
  | _ => none }
def KeymapNilWrongFalsely : Prop := keymapNilRow.holds Try.pinned (OpenSpec.ofChange keymapNilWrong)

/- THE SECOND FORM. 'bulk': how many values and letters a reading holds, each counted each time it is reached (what is shared counts as often as it is met; a slice's spare places count too). A statement '..UptoSaid' is the law's where the arguments, and the package variables that the reading takes, are together of bulk at most 1048576: NARROWER than '..Said'. Prove '..Said' where nothing that the law and all that it calls make is longer than what came in: it says more and counts as full. Else prove '..UptoSaid'. A law counts once. -/
mutual
def uptoBulk {H : Type} : DataW H → Nat
  | .lit (.string bytes) => bytes.length + 1
  | .lit _ => 1
  | .nil => 1
  | .ptr d => uptoBulk d + 1
  | .slice elems spare => uptoBulkAll elems + uptoBulkAll spare + 1
  | .agg parts => uptoBulkAll parts + 1
  | .iface _ d => uptoBulk d + 1
  | .map entries => uptoBulkEntries entries + 1
  | .held _ => 1
def uptoBulkAll {H : Type} : List (DataW H) → Nat
  | [] => 0
  | d :: r => uptoBulk d + uptoBulkAll r
def uptoBulkEntries {H : Type} : List (Lit × DataW H) → Nat
  | [] => 0
  | x :: r => uptoBulkEntry x + uptoBulkEntries r
def uptoBulkEntry {H : Type} : Lit × DataW H → Nat
  | (.string bytes, d) => bytes.length + uptoBulk d + 1
  | (_, d) => uptoBulk d + 1
 end
def uptoSmall : (H : Type) → List (DataW H) → Bool := fun _ ds => decide (uptoBulkAll ds ≤ 1048576)
def OpenSpec.upto (s : _root_.Go.ChangeSpec) : _root_.Go.OpenSpec := { _root_.Go.OpenSpec.ofChange s with cond := some uptoSmall }

/-- 'compositorlaw35.KeymapNew', WHERE WHAT IT READS IS OF BULK AT MOST 1048576: true; the input reads as it did. -/
def keymapNewUptoRow : OpenClaim := { program := "ytaidiaiedhbaoaa", sum := "cd17c1d032ce19c447041b96e91d856473de51977496ac70d01913d63f2ef58c", func := "compositor/compositorlaw35.KeymapNew", spec := "keymapNew", unfollowed := true, recurses := true, apart := false, narrowed := true }
def KeymapNewUptoSaid : Prop := keymapNewUptoRow.holds Try.pinned (OpenSpec.upto keymapNewSpec)

/-- 'compositorlaw35.KeymapSteps', WHERE WHAT IT READS IS OF BULK AT MOST 1048576: true; the input reads as it did. -/
def keymapStepsUptoRow : OpenClaim := { program := "ytaidiaiedhbaoaa", sum := "cd17c1d032ce19c447041b96e91d856473de51977496ac70d01913d63f2ef58c", func := "compositor/compositorlaw35.KeymapSteps", spec := "keymapSteps", unfollowed := true, recurses := true, apart := false, narrowed := true }
def KeymapStepsUptoSaid : Prop := keymapStepsUptoRow.holds Try.pinned (OpenSpec.upto keymapStepsSpec)

/-- 'compositorlaw35.KeymapModifiers', WHERE WHAT IT READS IS OF BULK AT MOST 1048576: true; the input reads as it did. -/
def keymapModifiersUptoRow : OpenClaim := { program := "ytaidiaiedhbaoaa", sum := "cd17c1d032ce19c447041b96e91d856473de51977496ac70d01913d63f2ef58c", func := "compositor/compositorlaw35.KeymapModifiers", spec := "keymapModifiers", unfollowed := true, recurses := true, apart := false, narrowed := true }
def KeymapModifiersUptoSaid : Prop := keymapModifiersUptoRow.holds Try.pinned (OpenSpec.upto keymapModifiersSpec)

/-- 'compositorlaw35.KeymapLevels', WHERE WHAT IT READS IS OF BULK AT MOST 1048576: true; the input reads as it did. -/
def keymapLevelsUptoRow : OpenClaim := { program := "ytaidiaiedhbaoaa", sum := "cd17c1d032ce19c447041b96e91d856473de51977496ac70d01913d63f2ef58c", func := "compositor/compositorlaw35.KeymapLevels", spec := "keymapLevels", unfollowed := true, recurses := true, apart := false, narrowed := true }
def KeymapLevelsUptoSaid : Prop := keymapLevelsUptoRow.holds Try.pinned (OpenSpec.upto keymapLevelsSpec)

/-- 'compositorlaw35.KeymapLatch', WHERE WHAT IT READS IS OF BULK AT MOST 1048576: true; the input reads as it did. -/
def keymapLatchUptoRow : OpenClaim := { program := "ytaidiaiedhbaoaa", sum := "cd17c1d032ce19c447041b96e91d856473de51977496ac70d01913d63f2ef58c", func := "compositor/compositorlaw35.KeymapLatch", spec := "keymapLatch", unfollowed := true, recurses := true, apart := false, narrowed := true }
def KeymapLatchUptoSaid : Prop := keymapLatchUptoRow.holds Try.pinned (OpenSpec.upto keymapLatchSpec)

/-- 'compositorlaw35.KeymapNil', WHERE WHAT IT READS IS OF BULK AT MOST 1048576: true; the input reads as it did. -/
def keymapNilUptoRow : OpenClaim := { program := "ytaidiaiedhbaoaa", sum := "cd17c1d032ce19c447041b96e91d856473de51977496ac70d01913d63f2ef58c", func := "compositor/compositorlaw35.KeymapNil", spec := "keymapNil", unfollowed := true, recurses := true, apart := false, narrowed := true }
def KeymapNilUptoSaid : Prop := keymapNilUptoRow.holds Try.pinned (OpenSpec.upto keymapNilSpec)

end Rows
end Go.Proofs.Ytaidiaiedhbaoaa
