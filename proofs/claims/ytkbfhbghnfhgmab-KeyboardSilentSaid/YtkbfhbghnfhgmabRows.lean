/-
  No cell of these rows narrows 'for every input' (looked for: loops, veiled, ifaces, maps, wideKeys, modest, calm, conditions, laid).
  DERIVED. THE GIVEN ROWS OF THIS SEAT. 6 by the template 'for every input the law returns true; each argument reads behind the call as it read before'; 0 by the template 'total and deterministic' (their statements: YtkbfhbghnfhgmabTotals.lean).
  GIVEN WITH THE SEED: the statements are not yours to turn. If you find one false, say at which input.
  Laid BY PROGRAM, IN A SANDBOX (cutbox-rows.mjs): the forced cells as the released guide's own fill.sh prints them over the translation 17de6cffb570ff32… (all of the seat's roots in one cut). By AI agents, Wed Nov 11 2026. No macro, syntax, notation, axiom, sorry.
-/
import Derived.Test.YtkbfhbghnfhgmabChecked
import GoSem.Claim
import GoSem.ClaimJoined
import GoSem.ClaimMapViews
import Derived.JoinedTies
import Derived.KernelRfl
namespace Go.Proofs.Ytkbfhbghnfhgmab
/- THE CELL 'sum', in the pinned program and in every row, IS THE sha256 OF THE DUMP (.gsa) THAT YtkbfhbghnfhgmabProg.lean LOADS. Nothing in Lean hashes anything: it is a label: what it is worth is what the hold of that sum in a sandbox is worth. -/
noncomputable def Try.pinned : Pinned := { name := "ytkbfhbghnfhgmab", sum := "17de6cffb570ff32f3a626754f2df67bbb49c0b03914407c505b370b29db0d84", checked := Try.checked }
namespace Rows
def none {H : Type} : Left H := { results := [], args := [] }

/-- 'compositorlaw38.KeyboardSilent': WHATEVER THE INPUT: true; the input reads as it did. -/
def keyboardSilentSpec : ChangeSpec := { name := "keyboardSilent", fn := fun _ => fun
  | [d] => { results := [.lit (.bool true)], args := [d] }
  | _ => none }
def keyboardSilentRow : OpenClaim := { program := "ytkbfhbghnfhgmab", sum := "17de6cffb570ff32f3a626754f2df67bbb49c0b03914407c505b370b29db0d84", func := "compositor/compositorlaw38.KeyboardSilent", spec := "keyboardSilent", unfollowed := true, recurses := true, apart := false }
def KeyboardSilentSaid : Prop := keyboardSilentRow.holds Try.pinned (OpenSpec.ofChange keyboardSilentSpec)

/-- ITS FALSE NEIGHBOUR: 'it returns false'. Refute it at one input. -/
def keyboardSilentWrong : ChangeSpec := { name := "keyboardSilent", fn := fun _ => fun
  | [d] => { results := [.lit (.bool false)], args := [d] }
  | _ => none }
def KeyboardSilentWrongFalsely : Prop := keyboardSilentRow.holds Try.pinned (OpenSpec.ofChange keyboardSilentWrong)

/-- 'compositorlaw38.KeyboardBalance': WHATEVER THE INPUT: true; the input reads as it did. -/
def keyboardBalanceSpec : ChangeSpec := { name := "keyboardBalance", fn := fun _ => fun
  | [d] => { results := [.lit (.bool true)], args := [d] }
  | _ => none }
def keyboardBalanceRow : OpenClaim := { program := "ytkbfhbghnfhgmab", sum := "17de6cffb570ff32f3a626754f2df67bbb49c0b03914407c505b370b29db0d84", func := "compositor/compositorlaw38.KeyboardBalance", spec := "keyboardBalance", unfollowed := true, recurses := true, apart := false }
def KeyboardBalanceSaid : Prop := keyboardBalanceRow.holds Try.pinned (OpenSpec.ofChange keyboardBalanceSpec)

/-- ITS FALSE NEIGHBOUR: 'it returns false'. Refute it at one input. -/
def keyboardBalanceWrong : ChangeSpec := { name := "keyboardBalance", fn := fun _ => fun
  | [d] => { results := [.lit (.bool false)], args := [d] }
  | _ => none }
def KeyboardBalanceWrongFalsely : Prop := keyboardBalanceRow.holds Try.pinned (OpenSpec.ofChange keyboardBalanceWrong)

/-- 'compositorlaw38.KeyboardPressed': WHATEVER THE INPUT: true; the input reads as it did. -/
def keyboardPressedSpec : ChangeSpec := { name := "keyboardPressed", fn := fun _ => fun
  | [d] => { results := [.lit (.bool true)], args := [d] }
  | _ => none }
def keyboardPressedRow : OpenClaim := { program := "ytkbfhbghnfhgmab", sum := "17de6cffb570ff32f3a626754f2df67bbb49c0b03914407c505b370b29db0d84", func := "compositor/compositorlaw38.KeyboardPressed", spec := "keyboardPressed", unfollowed := true, recurses := true, apart := false }
def KeyboardPressedSaid : Prop := keyboardPressedRow.holds Try.pinned (OpenSpec.ofChange keyboardPressedSpec)

/-- ITS FALSE NEIGHBOUR: 'it returns false'. Refute it at one input. -/
def keyboardPressedWrong : ChangeSpec := { name := "keyboardPressed", fn := fun _ => fun
  | [d] => { results := [.lit (.bool false)], args := [d] }
  | _ => none }
def KeyboardPressedWrongFalsely : Prop := keyboardPressedRow.holds Try.pinned (OpenSpec.ofChange keyboardPressedWrong)

/-- 'compositorlaw38.KeyboardFocus': WHATEVER THE INPUT: true; the input reads as it did. -/
def keyboardFocusSpec : ChangeSpec := { name := "keyboardFocus", fn := fun _ => fun
  | [d1, d2] => { results := [.lit (.bool true)], args := [d1, d2] }
  | _ => none }
def keyboardFocusRow : OpenClaim := { program := "ytkbfhbghnfhgmab", sum := "17de6cffb570ff32f3a626754f2df67bbb49c0b03914407c505b370b29db0d84", func := "compositor/compositorlaw38.KeyboardFocus", spec := "keyboardFocus", unfollowed := true, recurses := true, apart := false }
def KeyboardFocusSaid : Prop := keyboardFocusRow.holds Try.pinned (OpenSpec.ofChange keyboardFocusSpec)

/-- ITS FALSE NEIGHBOUR: 'it returns false'. Refute it at one input. -/
def keyboardFocusWrong : ChangeSpec := { name := "keyboardFocus", fn := fun _ => fun
  | [d1, d2] => { results := [.lit (.bool false)], args := [d1, d2] }
  | _ => none }
def KeyboardFocusWrongFalsely : Prop := keyboardFocusRow.holds Try.pinned (OpenSpec.ofChange keyboardFocusWrong)

/-- 'compositorlaw38.KeyboardSteps': WHATEVER THE INPUT: true; the input reads as it did. -/
def keyboardStepsSpec : ChangeSpec := { name := "keyboardSteps", fn := fun _ => fun
  | [d] => { results := [.lit (.bool true)], args := [d] }
  | _ => none }
def keyboardStepsRow : OpenClaim := { program := "ytkbfhbghnfhgmab", sum := "17de6cffb570ff32f3a626754f2df67bbb49c0b03914407c505b370b29db0d84", func := "compositor/compositorlaw38.KeyboardSteps", spec := "keyboardSteps", unfollowed := true, recurses := true, apart := false }
def KeyboardStepsSaid : Prop := keyboardStepsRow.holds Try.pinned (OpenSpec.ofChange keyboardStepsSpec)

/-- ITS FALSE NEIGHBOUR: 'it returns false'. Refute it at one input. -/
def keyboardStepsWrong : ChangeSpec := { name := "keyboardSteps", fn := fun _ => fun
  | [d] => { results := [.lit (.bool false)], args := [d] }
  | _ => none }
def KeyboardStepsWrongFalsely : Prop := keyboardStepsRow.holds Try.pinned (OpenSpec.ofChange keyboardStepsWrong)

/-- 'compositorlaw38.KeyboardNil': WHATEVER THE INPUT: true; the input reads as it did. -/
def keyboardNilSpec : ChangeSpec := { name := "keyboardNil", fn := fun _ => fun
  | [d1, d2, d3] => { results := [.lit (.bool true)], args := [d1, d2, d3] }
  | _ => none }
def keyboardNilRow : OpenClaim := { program := "ytkbfhbghnfhgmab", sum := "17de6cffb570ff32f3a626754f2df67bbb49c0b03914407c505b370b29db0d84", func := "compositor/compositorlaw38.KeyboardNil", spec := "keyboardNil", unfollowed := true, recurses := true, apart := false }
def KeyboardNilSaid : Prop := keyboardNilRow.holds Try.pinned (OpenSpec.ofChange keyboardNilSpec)

/-- ITS FALSE NEIGHBOUR: 'it returns false'. Refute it at one input. -/
def keyboardNilWrong : ChangeSpec := { name := "keyboardNil", fn := fun _ => fun
  | [d1, d2, d3] => { results := [.lit (.bool false)], args := [d1, d2, d3] }
  | _ => none }
def KeyboardNilWrongFalsely : Prop := keyboardNilRow.holds Try.pinned (OpenSpec.ofChange keyboardNilWrong)

/- THE SECOND FORM. 'bulk': how many values and letters a reading holds, each counted each time it is reached (what is shared counts as often as it is met; a slice's spare places count too). A statement '..UptoSaid' is the law's where the arguments, and the package variables that the reading takes, are together of bulk at most 1048576: NARROWER than '..Said'. Prove '..Said' where nothing that the law and all that it calls make is longer than what came in: it says more and counts as full. Else prove '..UptoSaid'. A law counts once. -/
mutual
def uptoBulk {H : Type} : DataW H → Nat
  | .lit (.string bytes) => bytes.length + 1
  | .lit _ => 1
  | .nil => 1
  | .ptr d => uptoBulk d + 1
  | .slice elems spare => uptoBulkAll elems + uptoBulkAll spare + 1
  | .agg parts => uptoBulkAll parts + 1
  | .iface _ d => uptoBulk d + 1
  | .map entries => uptoBulkEntries entries + 1
  | .held _ => 1
def uptoBulkAll {H : Type} : List (DataW H) → Nat
  | [] => 0
  | d :: r => uptoBulk d + uptoBulkAll r
def uptoBulkEntries {H : Type} : List (Lit × DataW H) → Nat
  | [] => 0
  | x :: r => uptoBulkEntry x + uptoBulkEntries r
def uptoBulkEntry {H : Type} : Lit × DataW H → Nat
  | (.string bytes, d) => bytes.length + uptoBulk d + 1
  | (_, d) => uptoBulk d + 1
 end
def uptoSmall : (H : Type) → List (DataW H) → Bool := fun _ ds => decide (uptoBulkAll ds ≤ 1048576)
def OpenSpec.upto (s : _root_.Go.ChangeSpec) : _root_.Go.OpenSpec := { _root_.Go.OpenSpec.ofChange s with cond := some uptoSmall }

/-- 'compositorlaw38.KeyboardSilent', WHERE WHAT IT READS IS OF BULK AT MOST 1048576: true; the input reads as it did. -/
def keyboardSilentUptoRow : OpenClaim := { program := "ytkbfhbghnfhgmab", sum := "17de6cffb570ff32f3a626754f2df67bbb49c0b03914407c505b370b29db0d84", func := "compositor/compositorlaw38.KeyboardSilent", spec := "keyboardSilent", unfollowed := true, recurses := true, apart := false, narrowed := true }
def KeyboardSilentUptoSaid : Prop := keyboardSilentUptoRow.holds Try.pinned (OpenSpec.upto keyboardSilentSpec)

/-- 'compositorlaw38.KeyboardBalance', WHERE WHAT IT READS IS OF BULK AT MOST 1048576: true; the input reads as it did. -/
def keyboardBalanceUptoRow : OpenClaim := { program := "ytkbfhbghnfhgmab", sum := "17de6cffb570ff32f3a626754f2df67bbb49c0b03914407c505b370b29db0d84", func := "compositor/compositorlaw38.KeyboardBalance", spec := "keyboardBalance", unfollowed := true, recurses := true, apart := false, narrowed := true }
def KeyboardBalanceUptoSaid : Prop := keyboardBalanceUptoRow.holds Try.pinned (OpenSpec.upto keyboardBalanceSpec)

/-- 'compositorlaw38.KeyboardPressed', WHERE WHAT IT READS IS OF BULK AT MOST 1048576: true; the input reads as it did. -/
def keyboardPressedUptoRow : OpenClaim := { program := "ytkbfhbghnfhgmab", sum := "17de6cffb570ff32f3a626754f2df67bbb49c0b03914407c505b370b29db0d84", func := "compositor/compositorlaw38.KeyboardPressed", spec := "keyboardPressed", unfollowed := true, recurses := true, apart := false, narrowed := true }
def KeyboardPressedUptoSaid : Prop := keyboardPressedUptoRow.holds Try.pinned (OpenSpec.upto keyboardPressedSpec)

/-- 'compositorlaw38.KeyboardFocus', WHERE WHAT IT READS IS OF BULK AT MOST 1048576: true; the input reads as it did. -/
def keyboardFocusUptoRow : OpenClaim := { program := "ytkbfhbghnfhgmab", sum := "17de6cffb570ff32f3a626754f2df67bbb49c0b03914407c505b370b29db0d84", func := "compositor/compositorlaw38.KeyboardFocus", spec := "keyboardFocus", unfollowed := true, recurses := true, apart := false, narrowed := true }
def KeyboardFocusUptoSaid : Prop := keyboardFocusUptoRow.holds Try.pinned (OpenSpec.upto keyboardFocusSpec)

/-- 'compositorlaw38.KeyboardSteps', WHERE WHAT IT READS IS OF BULK AT MOST 1048576: true; the input reads as it did. -/
def keyboardStepsUptoRow : OpenClaim := { program := "ytkbfhbghnfhgmab", sum := "17de6cffb570ff32f3a626754f2df67bbb49c0b03914407c505b370b29db0d84", func := "compositor/compositorlaw38.KeyboardSteps", spec := "keyboardSteps", unfollowed := true, recurses := true, apart := false, narrowed := true }
def KeyboardStepsUptoSaid : Prop := keyboardStepsUptoRow.holds Try.pinned (OpenSpec.upto keyboardStepsSpec)

/-- 'compositorlaw38.KeyboardNil', WHERE WHAT IT READS IS OF BULK AT MOST 1048576: true; the input reads as it did. -/
def keyboardNilUptoRow : OpenClaim := { program := "ytkbfhbghnfhgmab", sum := "17de6cffb570ff32f3a626754f2df67bbb49c0b03914407c505b370b29db0d84", func := "compositor/compositorlaw38.KeyboardNil", spec := "keyboardNil", unfollowed := true, recurses := true, apart := false, narrowed := true }
def KeyboardNilUptoSaid : Prop := keyboardNilUptoRow.holds Try.pinned (OpenSpec.upto keyboardNilSpec)

end Rows
end Go.Proofs.Ytkbfhbghnfhgmab
