/-
  NARROWER THAN 'FOR EVERY INPUT', by the rows' own cells (each row's printed sentence says how): IfaceRequest: laid · IfaceEvent: laid · IfaceOpcode: laid · IfaceSignature: laid · IfaceKinds: laid · IfaceVersions: laid · IfaceNames: laid · IfaceTable: laid.
  DERIVED. THE GIVEN ROWS OF THIS SEAT. 8 by the template 'for every input the law returns true; each argument reads behind the call as it read before'; 0 by the template 'total and deterministic' (their statements: YtdblaloadklcfaaDoorTotals.lean).
  GIVEN WITH THE SEED: the statements are not yours to turn. If you find one false, say at which input.
  Laid BY PROGRAM, IN A SANDBOX (cutbox-rows.mjs): the forced cells as the released guide's own fill.sh prints them over the translation 67e1c8f2cb2fe316… (all of the seat's roots in one cut). By AI agents, Wed Nov 11 2026. No macro, syntax, notation, axiom, sorry.
-/
import Derived.Test.YtdblaloadklcfaaDoorChecked
import GoSem.PinnedTables
import GoSem.Claim
import GoSem.ClaimJoined
import GoSem.ClaimMapViews
import Derived.JoinedTies
import Derived.KernelRfl
namespace Go.Proofs.YtdblaloadklcfaaDoor
/- THE CELL 'sum', in the pinned program and in every row, IS THE sha256 OF THE DUMP (.gsa) THAT YtdblaloadklcfaaDoorProg.lean LOADS. Nothing in Lean hashes anything: it is a label: what it is worth is what the hold of that sum in a sandbox is worth. -/
noncomputable def Tryd.pinned : Pinned := { name := "ytdblaloadklcfaadoor", sum := "67e1c8f2cb2fe316a145b6f2bce66e0c67a4eeb95d52602e74fe02d1d9e28370", checked := Tryd.checked }
namespace Rows
def none {H : Type} : Left H := { results := [], args := [] }

/- WHAT THE LISTED PACKAGE-LEVEL VARIABLES READ AS WHEN THE CALL BEGINS. Each datum BY PROGRAM (the guide's laid-datum.mjs) off the statement by which the dump's own 'gosem.cut.vars' lays the variable. In a bare row this is a premise. The card (YtdblaloadklcfaaDoorCards.lean) ties it to the program's text. -/
def laid_unicode_utf8_acceptRanges {H : Type} : DataW H := .agg [.agg [.lit (.int .u8 128), .lit (.int .u8 191)], .agg [.lit (.int .u8 160), .lit (.int .u8 191)], .agg [.lit (.int .u8 128), .lit (.int .u8 159)], .agg [.lit (.int .u8 144), .lit (.int .u8 191)], .agg [.lit (.int .u8 128), .lit (.int .u8 143)], .agg [.lit (.int .u8 0), .lit (.int .u8 0)], .agg [.lit (.int .u8 0), .lit (.int .u8 0)], .agg [.lit (.int .u8 0), .lit (.int .u8 0)], .agg [.lit (.int .u8 0), .lit (.int .u8 0)], .agg [.lit (.int .u8 0), .lit (.int .u8 0)], .agg [.lit (.int .u8 0), .lit (.int .u8 0)], .agg [.lit (.int .u8 0), .lit (.int .u8 0)], .agg [.lit (.int .u8 0), .lit (.int .u8 0)], .agg [.lit (.int .u8 0), .lit (.int .u8 0)], .agg [.lit (.int .u8 0), .lit (.int .u8 0)], .agg [.lit (.int .u8 0), .lit (.int .u8 0)]]
def laid_compositor_iface_kinds {H : Type} : DataW H := .agg [.lit (.int .i64 7), .lit (.int .i64 0), .lit (.int .i64 0), .lit (.int .i64 0), .lit (.int .i64 0), .lit (.int .i64 3), .lit (.int .i64 0), .lit (.int .i64 0), .lit (.int .i64 1), .lit (.int .i64 0), .lit (.int .i64 0), .lit (.int .i64 0), .lit (.int .i64 0), .lit (.int .i64 6), .lit (.int .i64 5), .lit (.int .i64 0), .lit (.int .i64 0), .lit (.int .i64 0), .lit (.int .i64 4), .lit (.int .i64 0), .lit (.int .i64 2), .lit (.int .i64 0), .lit (.int .i64 0), .lit (.int .i64 0), .lit (.int .i64 0), .lit (.int .i64 0)]
/-- One of Go's own tables, pinned by name: the form's constant. -/
def laid_unicode_utf8_first : DataW Unit := Go.Pinned.utf8First

/-- 'compositorlaw12.IfaceRequest': WHATEVER THE INPUT: true; the input reads as it did. -/
def ifaceRequestSpec : ChangeSpec := { name := "ifaceRequest", fn := fun _ => fun
  | [d1, d2, d3] => { results := [.lit (.bool true)], args := [d1, d2, d3] }
  | _ => none }
def ifaceRequestRow : OpenClaim := { program := "ytdblaloadklcfaadoor", sum := "67e1c8f2cb2fe316a145b6f2bce66e0c67a4eeb95d52602e74fe02d1d9e28370", func := "compositor/compositorlaw12.IfaceRequest", spec := "ifaceRequest", inPlace := ["internal/bytealg.CountString", "internal/bytealg.IndexByteString", "internal/bytealg.IndexString"], named := ["unicode/utf8.first", "unicode/utf8.acceptRanges", "internal/bytealg.MaxLen", "compositor/iface.kinds"], apart := false, laid := [("unicode/utf8.acceptRanges", laid_unicode_utf8_acceptRanges), ("compositor/iface.kinds", laid_compositor_iface_kinds), ("unicode/utf8.first", laid_unicode_utf8_first)] }
def IfaceRequestSaid : Prop := ifaceRequestRow.holds Tryd.pinned (OpenSpec.ofChange ifaceRequestSpec)

/-- ITS FALSE NEIGHBOUR: 'it returns false'. Refute it at one input. -/
def ifaceRequestWrong : ChangeSpec := { name := "ifaceRequest", fn := fun _ => fun
  | [d1, d2, d3] => { results := [.lit (.bool false)], args := [d1, d2, d3] }
  | _ => none }
def IfaceRequestWrongFalsely : Prop := ifaceRequestRow.holds Tryd.pinned (OpenSpec.ofChange ifaceRequestWrong)

/-- 'compositorlaw12.IfaceEvent': WHATEVER THE INPUT: true; the input reads as it did. -/
def ifaceEventSpec : ChangeSpec := { name := "ifaceEvent", fn := fun _ => fun
  | [d1, d2, d3] => { results := [.lit (.bool true)], args := [d1, d2, d3] }
  | _ => none }
def ifaceEventRow : OpenClaim := { program := "ytdblaloadklcfaadoor", sum := "67e1c8f2cb2fe316a145b6f2bce66e0c67a4eeb95d52602e74fe02d1d9e28370", func := "compositor/compositorlaw12.IfaceEvent", spec := "ifaceEvent", inPlace := ["internal/bytealg.CountString", "internal/bytealg.IndexByteString", "internal/bytealg.IndexString"], named := ["unicode/utf8.first", "unicode/utf8.acceptRanges", "internal/bytealg.MaxLen", "compositor/iface.kinds"], apart := false, laid := [("unicode/utf8.acceptRanges", laid_unicode_utf8_acceptRanges), ("compositor/iface.kinds", laid_compositor_iface_kinds), ("unicode/utf8.first", laid_unicode_utf8_first)] }
def IfaceEventSaid : Prop := ifaceEventRow.holds Tryd.pinned (OpenSpec.ofChange ifaceEventSpec)

/-- ITS FALSE NEIGHBOUR: 'it returns false'. Refute it at one input. -/
def ifaceEventWrong : ChangeSpec := { name := "ifaceEvent", fn := fun _ => fun
  | [d1, d2, d3] => { results := [.lit (.bool false)], args := [d1, d2, d3] }
  | _ => none }
def IfaceEventWrongFalsely : Prop := ifaceEventRow.holds Tryd.pinned (OpenSpec.ofChange ifaceEventWrong)

/-- 'compositorlaw12.IfaceOpcode': WHATEVER THE INPUT: true; the input reads as it did. -/
def ifaceOpcodeSpec : ChangeSpec := { name := "ifaceOpcode", fn := fun _ => fun
  | [d1, d2] => { results := [.lit (.bool true)], args := [d1, d2] }
  | _ => none }
def ifaceOpcodeRow : OpenClaim := { program := "ytdblaloadklcfaadoor", sum := "67e1c8f2cb2fe316a145b6f2bce66e0c67a4eeb95d52602e74fe02d1d9e28370", func := "compositor/compositorlaw12.IfaceOpcode", spec := "ifaceOpcode", inPlace := ["internal/bytealg.CountString", "internal/bytealg.IndexByteString", "internal/bytealg.IndexString"], named := ["unicode/utf8.first", "unicode/utf8.acceptRanges", "internal/bytealg.MaxLen", "compositor/iface.kinds"], apart := false, laid := [("unicode/utf8.acceptRanges", laid_unicode_utf8_acceptRanges), ("compositor/iface.kinds", laid_compositor_iface_kinds), ("unicode/utf8.first", laid_unicode_utf8_first)] }
def IfaceOpcodeSaid : Prop := ifaceOpcodeRow.holds Tryd.pinned (OpenSpec.ofChange ifaceOpcodeSpec)

/-- ITS FALSE NEIGHBOUR: 'it returns false'. Refute it at one input. -/
def ifaceOpcodeWrong : ChangeSpec := { name := "ifaceOpcode", fn := fun _ => fun
  | [d1, d2] => { results := [.lit (.bool false)], args := [d1, d2] }
  | _ => none }
def IfaceOpcodeWrongFalsely : Prop := ifaceOpcodeRow.holds Tryd.pinned (OpenSpec.ofChange ifaceOpcodeWrong)

/-- 'compositorlaw12.IfaceSignature': WHATEVER THE INPUT: true; the input reads as it did. -/
def ifaceSignatureSpec : ChangeSpec := { name := "ifaceSignature", fn := fun _ => fun
  | [d] => { results := [.lit (.bool true)], args := [d] }
  | _ => none }
def ifaceSignatureRow : OpenClaim := { program := "ytdblaloadklcfaadoor", sum := "67e1c8f2cb2fe316a145b6f2bce66e0c67a4eeb95d52602e74fe02d1d9e28370", func := "compositor/compositorlaw12.IfaceSignature", spec := "ifaceSignature", inPlace := ["internal/bytealg.CountString", "internal/bytealg.IndexByteString", "internal/bytealg.IndexString"], named := ["unicode/utf8.first", "unicode/utf8.acceptRanges", "internal/bytealg.MaxLen", "compositor/iface.kinds"], apart := false, laid := [("unicode/utf8.acceptRanges", laid_unicode_utf8_acceptRanges), ("compositor/iface.kinds", laid_compositor_iface_kinds), ("unicode/utf8.first", laid_unicode_utf8_first)] }
def IfaceSignatureSaid : Prop := ifaceSignatureRow.holds Tryd.pinned (OpenSpec.ofChange ifaceSignatureSpec)

/-- ITS FALSE NEIGHBOUR: 'it returns false'. Refute it at one input. -/
def ifaceSignatureWrong : ChangeSpec := { name := "ifaceSignature", fn := fun _ => fun
  | [d] => { results := [.lit (.bool false)], args := [d] }
  | _ => none }
def IfaceSignatureWrongFalsely : Prop := ifaceSignatureRow.holds Tryd.pinned (OpenSpec.ofChange ifaceSignatureWrong)

/-- 'compositorlaw12.IfaceKinds': WHATEVER THE INPUT: true; the input reads as it did. -/
def ifaceKindsSpec : ChangeSpec := { name := "ifaceKinds", fn := fun _ => fun
  | [d1, d2] => { results := [.lit (.bool true)], args := [d1, d2] }
  | _ => none }
def ifaceKindsRow : OpenClaim := { program := "ytdblaloadklcfaadoor", sum := "67e1c8f2cb2fe316a145b6f2bce66e0c67a4eeb95d52602e74fe02d1d9e28370", func := "compositor/compositorlaw12.IfaceKinds", spec := "ifaceKinds", inPlace := ["internal/bytealg.CountString", "internal/bytealg.IndexByteString", "internal/bytealg.IndexString"], named := ["unicode/utf8.first", "unicode/utf8.acceptRanges", "internal/bytealg.MaxLen", "compositor/iface.kinds"], apart := false, laid := [("unicode/utf8.acceptRanges", laid_unicode_utf8_acceptRanges), ("compositor/iface.kinds", laid_compositor_iface_kinds), ("unicode/utf8.first", laid_unicode_utf8_first)] }
def IfaceKindsSaid : Prop := ifaceKindsRow.holds Tryd.pinned (OpenSpec.ofChange ifaceKindsSpec)

/-- ITS FALSE NEIGHBOUR: 'it returns false'. Refute it at one input. -/
def ifaceKindsWrong : ChangeSpec := { name := "ifaceKinds", fn := fun _ => fun
  | [d1, d2] => { results := [.lit (.bool false)], args := [d1, d2] }
  | _ => none }
def IfaceKindsWrongFalsely : Prop := ifaceKindsRow.holds Tryd.pinned (OpenSpec.ofChange ifaceKindsWrong)

/-- 'compositorlaw12.IfaceVersions': WHATEVER THE INPUT: true; the input reads as it did. -/
def ifaceVersionsSpec : ChangeSpec := { name := "ifaceVersions", fn := fun _ => fun
  | [d1, d2, d3] => { results := [.lit (.bool true)], args := [d1, d2, d3] }
  | _ => none }
def ifaceVersionsRow : OpenClaim := { program := "ytdblaloadklcfaadoor", sum := "67e1c8f2cb2fe316a145b6f2bce66e0c67a4eeb95d52602e74fe02d1d9e28370", func := "compositor/compositorlaw12.IfaceVersions", spec := "ifaceVersions", inPlace := ["internal/bytealg.CountString", "internal/bytealg.IndexByteString", "internal/bytealg.IndexString"], named := ["unicode/utf8.first", "unicode/utf8.acceptRanges", "internal/bytealg.MaxLen", "compositor/iface.kinds"], apart := false, laid := [("unicode/utf8.acceptRanges", laid_unicode_utf8_acceptRanges), ("compositor/iface.kinds", laid_compositor_iface_kinds), ("unicode/utf8.first", laid_unicode_utf8_first)] }
def IfaceVersionsSaid : Prop := ifaceVersionsRow.holds Tryd.pinned (OpenSpec.ofChange ifaceVersionsSpec)

/-- ITS FALSE NEIGHBOUR: 'it returns false'. Refute it at one input. -/
def ifaceVersionsWrong : ChangeSpec := { name := "ifaceVersions", fn := fun _ => fun
  | [d1, d2, d3] => { results := [.lit (.bool false)], args := [d1, d2, d3] }
  | _ => none }
def IfaceVersionsWrongFalsely : Prop := ifaceVersionsRow.holds Tryd.pinned (OpenSpec.ofChange ifaceVersionsWrong)

/-- 'compositorlaw12.IfaceNames': WHATEVER THE INPUT: true; the input reads as it did. -/
def ifaceNamesSpec : ChangeSpec := { name := "ifaceNames", fn := fun _ => fun
  | [d] => { results := [.lit (.bool true)], args := [d] }
  | _ => none }
def ifaceNamesRow : OpenClaim := { program := "ytdblaloadklcfaadoor", sum := "67e1c8f2cb2fe316a145b6f2bce66e0c67a4eeb95d52602e74fe02d1d9e28370", func := "compositor/compositorlaw12.IfaceNames", spec := "ifaceNames", inPlace := ["internal/bytealg.CountString", "internal/bytealg.IndexByteString", "internal/bytealg.IndexString"], named := ["unicode/utf8.first", "unicode/utf8.acceptRanges", "internal/bytealg.MaxLen", "compositor/iface.kinds"], apart := false, laid := [("unicode/utf8.acceptRanges", laid_unicode_utf8_acceptRanges), ("compositor/iface.kinds", laid_compositor_iface_kinds), ("unicode/utf8.first", laid_unicode_utf8_first)] }
def IfaceNamesSaid : Prop := ifaceNamesRow.holds Tryd.pinned (OpenSpec.ofChange ifaceNamesSpec)

/-- ITS FALSE NEIGHBOUR: 'it returns false'. Refute it at one input. -/
def ifaceNamesWrong : ChangeSpec := { name := "ifaceNames", fn := fun _ => fun
  | [d] => { results := [.lit (.bool false)], args := [d] }
  | _ => none }
def IfaceNamesWrongFalsely : Prop := ifaceNamesRow.holds Tryd.pinned (OpenSpec.ofChange ifaceNamesWrong)

/-- 'compositorlaw12.IfaceTable': WHATEVER THE INPUT: true; the input reads as it did. -/
def ifaceTableSpec : ChangeSpec := { name := "ifaceTable", fn := fun _ => fun
  | [d1, d2, d3] => { results := [.lit (.bool true)], args := [d1, d2, d3] }
  | _ => none }
def ifaceTableRow : OpenClaim := { program := "ytdblaloadklcfaadoor", sum := "67e1c8f2cb2fe316a145b6f2bce66e0c67a4eeb95d52602e74fe02d1d9e28370", func := "compositor/compositorlaw12.IfaceTable", spec := "ifaceTable", inPlace := ["internal/bytealg.CountString", "internal/bytealg.IndexByteString", "internal/bytealg.IndexString"], named := ["unicode/utf8.first", "unicode/utf8.acceptRanges", "internal/bytealg.MaxLen", "compositor/iface.kinds"], apart := false, laid := [("unicode/utf8.acceptRanges", laid_unicode_utf8_acceptRanges), ("compositor/iface.kinds", laid_compositor_iface_kinds), ("unicode/utf8.first", laid_unicode_utf8_first)] }
def IfaceTableSaid : Prop := ifaceTableRow.holds Tryd.pinned (OpenSpec.ofChange ifaceTableSpec)

/-- ITS FALSE NEIGHBOUR: 'it returns false'. Refute it at one input. -/
def ifaceTableWrong : ChangeSpec := { name := "ifaceTable", fn := fun _ => fun
  | [d1, d2, d3] => { results := [.lit (.bool false)], args := [d1, d2, d3] }
  | _ => none }
def IfaceTableWrongFalsely : Prop := ifaceTableRow.holds Tryd.pinned (OpenSpec.ofChange ifaceTableWrong)

/- THE SECOND FORM. 'bulk': how many values and letters a reading holds, each counted each time it is reached (what is shared counts as often as it is met; a slice's spare places count too). A statement '..UptoSaid' is the law's where the arguments, and the package variables that the reading takes, are together of bulk at most 1048576: NARROWER than '..Said'. Prove '..Said' where nothing that the law and all that it calls make is longer than what came in: it says more and counts as full. Else prove '..UptoSaid'. A law counts once. -/
mutual
def uptoBulk {H : Type} : DataW H → Nat
  | .lit (.string bytes) => bytes.length + 1
  | .lit _ => 1
  | .nil => 1
  | .ptr d => uptoBulk d + 1
  | .slice elems spare => uptoBulkAll elems + uptoBulkAll spare + 1
  | .agg parts => uptoBulkAll parts + 1
  | .iface _ d => uptoBulk d + 1
  | .map entries => uptoBulkEntries entries + 1
  | .held _ => 1
def uptoBulkAll {H : Type} : List (DataW H) → Nat
  | [] => 0
  | d :: r => uptoBulk d + uptoBulkAll r
def uptoBulkEntries {H : Type} : List (Lit × DataW H) → Nat
  | [] => 0
  | x :: r => uptoBulkEntry x + uptoBulkEntries r
def uptoBulkEntry {H : Type} : Lit × DataW H → Nat
  | (.string bytes, d) => bytes.length + uptoBulk d + 1
  | (_, d) => uptoBulk d + 1
 end
def uptoSmall : (H : Type) → List (DataW H) → Bool := fun _ ds => decide (uptoBulkAll ds ≤ 1048576)
def OpenSpec.upto (s : _root_.Go.ChangeSpec) : _root_.Go.OpenSpec := { _root_.Go.OpenSpec.ofChange s with cond := some uptoSmall }

/-- 'compositorlaw12.IfaceRequest', WHERE WHAT IT READS IS OF BULK AT MOST 1048576: true; the input reads as it did. -/
def ifaceRequestUptoRow : OpenClaim := { program := "ytdblaloadklcfaadoor", sum := "67e1c8f2cb2fe316a145b6f2bce66e0c67a4eeb95d52602e74fe02d1d9e28370", func := "compositor/compositorlaw12.IfaceRequest", spec := "ifaceRequest", inPlace := ["internal/bytealg.CountString", "internal/bytealg.IndexByteString", "internal/bytealg.IndexString"], named := ["unicode/utf8.first", "unicode/utf8.acceptRanges", "internal/bytealg.MaxLen", "compositor/iface.kinds"], apart := false, laid := [("unicode/utf8.acceptRanges", laid_unicode_utf8_acceptRanges), ("compositor/iface.kinds", laid_compositor_iface_kinds), ("unicode/utf8.first", laid_unicode_utf8_first)], narrowed := true }
def IfaceRequestUptoSaid : Prop := ifaceRequestUptoRow.holds Tryd.pinned (OpenSpec.upto ifaceRequestSpec)

/-- 'compositorlaw12.IfaceEvent', WHERE WHAT IT READS IS OF BULK AT MOST 1048576: true; the input reads as it did. -/
def ifaceEventUptoRow : OpenClaim := { program := "ytdblaloadklcfaadoor", sum := "67e1c8f2cb2fe316a145b6f2bce66e0c67a4eeb95d52602e74fe02d1d9e28370", func := "compositor/compositorlaw12.IfaceEvent", spec := "ifaceEvent", inPlace := ["internal/bytealg.CountString", "internal/bytealg.IndexByteString", "internal/bytealg.IndexString"], named := ["unicode/utf8.first", "unicode/utf8.acceptRanges", "internal/bytealg.MaxLen", "compositor/iface.kinds"], apart := false, laid := [("unicode/utf8.acceptRanges", laid_unicode_utf8_acceptRanges), ("compositor/iface.kinds", laid_compositor_iface_kinds), ("unicode/utf8.first", laid_unicode_utf8_first)], narrowed := true }
def IfaceEventUptoSaid : Prop := ifaceEventUptoRow.holds Tryd.pinned (OpenSpec.upto ifaceEventSpec)

/-- 'compositorlaw12.IfaceOpcode', WHERE WHAT IT READS IS OF BULK AT MOST 1048576: true; the input reads as it did. -/
def ifaceOpcodeUptoRow : OpenClaim := { program := "ytdblaloadklcfaadoor", sum := "67e1c8f2cb2fe316a145b6f2bce66e0c67a4eeb95d52602e74fe02d1d9e28370", func := "compositor/compositorlaw12.IfaceOpcode", spec := "ifaceOpcode", inPlace := ["internal/bytealg.CountString", "internal/bytealg.IndexByteString", "internal/bytealg.IndexString"], named := ["unicode/utf8.first", "unicode/utf8.acceptRanges", "internal/bytealg.MaxLen", "compositor/iface.kinds"], apart := false, laid := [("unicode/utf8.acceptRanges", laid_unicode_utf8_acceptRanges), ("compositor/iface.kinds", laid_compositor_iface_kinds), ("unicode/utf8.first", laid_unicode_utf8_first)], narrowed := true }
def IfaceOpcodeUptoSaid : Prop := ifaceOpcodeUptoRow.holds Tryd.pinned (OpenSpec.upto ifaceOpcodeSpec)

/-- 'compositorlaw12.IfaceSignature', WHERE WHAT IT READS IS OF BULK AT MOST 1048576: true; the input reads as it did. -/
def ifaceSignatureUptoRow : OpenClaim := { program := "ytdblaloadklcfaadoor", sum := "67e1c8f2cb2fe316a145b6f2bce66e0c67a4eeb95d52602e74fe02d1d9e28370", func := "compositor/compositorlaw12.IfaceSignature", spec := "ifaceSignature", inPlace := ["internal/bytealg.CountString", "internal/bytealg.IndexByteString", "internal/bytealg.IndexString"], named := ["unicode/utf8.first", "unicode/utf8.acceptRanges", "internal/bytealg.MaxLen", "compositor/iface.kinds"], apart := false, laid := [("unicode/utf8.acceptRanges", laid_unicode_utf8_acceptRanges), ("compositor/iface.kinds", laid_compositor_iface_kinds), ("unicode/utf8.first", laid_unicode_utf8_first)], narrowed := true }
def IfaceSignatureUptoSaid : Prop := ifaceSignatureUptoRow.holds Tryd.pinned (OpenSpec.upto ifaceSignatureSpec)

/-- 'compositorlaw12.IfaceKinds', WHERE WHAT IT READS IS OF BULK AT MOST 1048576: true; the input reads as it did. -/
def ifaceKindsUptoRow : OpenClaim := { program := "ytdblaloadklcfaadoor", sum := "67e1c8f2cb2fe316a145b6f2bce66e0c67a4eeb95d52602e74fe02d1d9e28370", func := "compositor/compositorlaw12.IfaceKinds", spec := "ifaceKinds", inPlace := ["internal/bytealg.CountString", "internal/bytealg.IndexByteString", "internal/bytealg.IndexString"], named := ["unicode/utf8.first", "unicode/utf8.acceptRanges", "internal/bytealg.MaxLen", "compositor/iface.kinds"], apart := false, laid := [("unicode/utf8.acceptRanges", laid_unicode_utf8_acceptRanges), ("compositor/iface.kinds", laid_compositor_iface_kinds), ("unicode/utf8.first", laid_unicode_utf8_first)], narrowed := true }
def IfaceKindsUptoSaid : Prop := ifaceKindsUptoRow.holds Tryd.pinned (OpenSpec.upto ifaceKindsSpec)

/-- 'compositorlaw12.IfaceVersions', WHERE WHAT IT READS IS OF BULK AT MOST 1048576: true; the input reads as it did. -/
def ifaceVersionsUptoRow : OpenClaim := { program := "ytdblaloadklcfaadoor", sum := "67e1c8f2cb2fe316a145b6f2bce66e0c67a4eeb95d52602e74fe02d1d9e28370", func := "compositor/compositorlaw12.IfaceVersions", spec := "ifaceVersions", inPlace := ["internal/bytealg.CountString", "internal/bytealg.IndexByteString", "internal/bytealg.IndexString"], named := ["unicode/utf8.first", "unicode/utf8.acceptRanges", "internal/bytealg.MaxLen", "compositor/iface.kinds"], apart := false, laid := [("unicode/utf8.acceptRanges", laid_unicode_utf8_acceptRanges), ("compositor/iface.kinds", laid_compositor_iface_kinds), ("unicode/utf8.first", laid_unicode_utf8_first)], narrowed := true }
def IfaceVersionsUptoSaid : Prop := ifaceVersionsUptoRow.holds Tryd.pinned (OpenSpec.upto ifaceVersionsSpec)

/-- 'compositorlaw12.IfaceNames', WHERE WHAT IT READS IS OF BULK AT MOST 1048576: true; the input reads as it did. -/
def ifaceNamesUptoRow : OpenClaim := { program := "ytdblaloadklcfaadoor", sum := "67e1c8f2cb2fe316a145b6f2bce66e0c67a4eeb95d52602e74fe02d1d9e28370", func := "compositor/compositorlaw12.IfaceNames", spec := "ifaceNames", inPlace := ["internal/bytealg.CountString", "internal/bytealg.IndexByteString", "internal/bytealg.IndexString"], named := ["unicode/utf8.first", "unicode/utf8.acceptRanges", "internal/bytealg.MaxLen", "compositor/iface.kinds"], apart := false, laid := [("unicode/utf8.acceptRanges", laid_unicode_utf8_acceptRanges), ("compositor/iface.kinds", laid_compositor_iface_kinds), ("unicode/utf8.first", laid_unicode_utf8_first)], narrowed := true }
def IfaceNamesUptoSaid : Prop := ifaceNamesUptoRow.holds Tryd.pinned (OpenSpec.upto ifaceNamesSpec)

/-- 'compositorlaw12.IfaceTable', WHERE WHAT IT READS IS OF BULK AT MOST 1048576: true; the input reads as it did. -/
def ifaceTableUptoRow : OpenClaim := { program := "ytdblaloadklcfaadoor", sum := "67e1c8f2cb2fe316a145b6f2bce66e0c67a4eeb95d52602e74fe02d1d9e28370", func := "compositor/compositorlaw12.IfaceTable", spec := "ifaceTable", inPlace := ["internal/bytealg.CountString", "internal/bytealg.IndexByteString", "internal/bytealg.IndexString"], named := ["unicode/utf8.first", "unicode/utf8.acceptRanges", "internal/bytealg.MaxLen", "compositor/iface.kinds"], apart := false, laid := [("unicode/utf8.acceptRanges", laid_unicode_utf8_acceptRanges), ("compositor/iface.kinds", laid_compositor_iface_kinds), ("unicode/utf8.first", laid_unicode_utf8_first)], narrowed := true }
def IfaceTableUptoSaid : Prop := ifaceTableUptoRow.holds Tryd.pinned (OpenSpec.upto ifaceTableSpec)

end Rows
end Go.Proofs.YtdblaloadklcfaaDoor
