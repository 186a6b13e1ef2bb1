/-
  NARROWER THAN 'FOR EVERY INPUT', by the rows' own cells (each row's printed sentence says how): ClientStreaming: laid · ClientLives: laid · ClientSends: laid · ClientSteps: laid · ClientNil: laid · ClientDisconnects: laid · ClientServerIDs: laid.
  DERIVED. THE GIVEN ROWS OF THIS SEAT. 7 by the template 'for every input the law returns true; each argument reads behind the call as it read before'; 0 by the template 'total and deterministic' (their statements: YtehjnpokalknkaaGreatDoorTotals.lean).
  GIVEN WITH THE SEED: the statements are not yours to turn. If you find one false, say at which input.
  Laid BY PROGRAM, IN A SANDBOX (cutbox-rows.mjs): the forced cells as the released guide's own fill.sh prints them over the translation 610bc11e8cc49ef3… (all of the seat's roots in one cut). By AI agents, Wed Nov 11 2026. No macro, syntax, notation, axiom, sorry.
-/
import Derived.Test.YtehjnpokalknkaaGreatDoorChecked
import GoSem.PinnedTables
import GoSem.Claim
import GoSem.ClaimJoined
import GoSem.ClaimMapViews
import Derived.JoinedTies
import Derived.KernelRfl
namespace Go.Proofs.YtehjnpokalknkaaGreatDoor
/- THE CELL 'sum', in the pinned program and in every row, IS THE sha256 OF THE DUMP (.gsa) THAT YtehjnpokalknkaaGreatDoorProg.lean LOADS. Nothing in Lean hashes anything: it is a label: what it is worth is what the hold of that sum in a sandbox is worth. -/
noncomputable def Tryz.pinned : Pinned := { name := "ytehjnpokalknkaagreatdoor", sum := "610bc11e8cc49ef3c41cc731e2974f78f91e1e6d79060342433874fef041ada5", checked := Tryz.checked }
namespace Rows
def none {H : Type} : Left H := { results := [], args := [] }

/- WHAT THE LISTED PACKAGE-LEVEL VARIABLES READ AS WHEN THE CALL BEGINS. Each datum BY PROGRAM (the guide's laid-datum.mjs) off the statement by which the dump's own 'gosem.cut.vars' lays the variable. In a bare row this is a premise. The card (YtehjnpokalknkaaGreatDoorCards.lean) ties it to the program's text. -/
def laid_unicode_utf8_acceptRanges {H : Type} : DataW H := .agg [.agg [.lit (.int .u8 128), .lit (.int .u8 191)], .agg [.lit (.int .u8 160), .lit (.int .u8 191)], .agg [.lit (.int .u8 128), .lit (.int .u8 159)], .agg [.lit (.int .u8 144), .lit (.int .u8 191)], .agg [.lit (.int .u8 128), .lit (.int .u8 143)], .agg [.lit (.int .u8 0), .lit (.int .u8 0)], .agg [.lit (.int .u8 0), .lit (.int .u8 0)], .agg [.lit (.int .u8 0), .lit (.int .u8 0)], .agg [.lit (.int .u8 0), .lit (.int .u8 0)], .agg [.lit (.int .u8 0), .lit (.int .u8 0)], .agg [.lit (.int .u8 0), .lit (.int .u8 0)], .agg [.lit (.int .u8 0), .lit (.int .u8 0)], .agg [.lit (.int .u8 0), .lit (.int .u8 0)], .agg [.lit (.int .u8 0), .lit (.int .u8 0)], .agg [.lit (.int .u8 0), .lit (.int .u8 0)], .agg [.lit (.int .u8 0), .lit (.int .u8 0)]]
def laid_compositor_iface_kinds {H : Type} : DataW H := .agg [.lit (.int .i64 7), .lit (.int .i64 0), .lit (.int .i64 0), .lit (.int .i64 0), .lit (.int .i64 0), .lit (.int .i64 3), .lit (.int .i64 0), .lit (.int .i64 0), .lit (.int .i64 1), .lit (.int .i64 0), .lit (.int .i64 0), .lit (.int .i64 0), .lit (.int .i64 0), .lit (.int .i64 6), .lit (.int .i64 5), .lit (.int .i64 0), .lit (.int .i64 0), .lit (.int .i64 0), .lit (.int .i64 4), .lit (.int .i64 0), .lit (.int .i64 2), .lit (.int .i64 0), .lit (.int .i64 0), .lit (.int .i64 0), .lit (.int .i64 0), .lit (.int .i64 0)]
/-- One of Go's own tables, pinned by name: the form's constant. -/
def laid_unicode_utf8_first : DataW Unit := Go.Pinned.utf8First

/-- 'compositorlaw46.ClientStreaming': WHATEVER THE INPUT: true; the input reads as it did. -/
def clientStreamingSpec : ChangeSpec := { name := "clientStreaming", fn := fun _ => fun
  | [d1, d2, d3] => { results := [.lit (.bool true)], args := [d1, d2, d3] }
  | _ => none }
def clientStreamingRow : OpenClaim := { program := "ytehjnpokalknkaagreatdoor", sum := "610bc11e8cc49ef3c41cc731e2974f78f91e1e6d79060342433874fef041ada5", func := "compositor/compositorlaw46.ClientStreaming", spec := "clientStreaming", inPlace := ["internal/bytealg.CountString", "internal/bytealg.IndexByteString", "internal/bytealg.IndexString"], unfollowed := true, recurses := true, named := ["unicode/utf8.first", "unicode/utf8.acceptRanges", "internal/bytealg.MaxLen", "compositor/iface.kinds"], apart := false, laid := [("unicode/utf8.acceptRanges", laid_unicode_utf8_acceptRanges), ("compositor/iface.kinds", laid_compositor_iface_kinds), ("unicode/utf8.first", laid_unicode_utf8_first)] }
def ClientStreamingSaid : Prop := clientStreamingRow.holds Tryz.pinned (OpenSpec.ofChange clientStreamingSpec)

/-- ITS FALSE NEIGHBOUR: 'it returns false'. Refute it at one input. -/
def clientStreamingWrong : ChangeSpec := { name := "clientStreaming", fn := fun _ => fun
  | [d1, d2, d3] => { results := [.lit (.bool false)], args := [d1, d2, d3] }
  | _ => none }
def ClientStreamingWrongFalsely : Prop := clientStreamingRow.holds Tryz.pinned (OpenSpec.ofChange clientStreamingWrong)

/-- 'compositorlaw46.ClientLives': WHATEVER THE INPUT: true; the input reads as it did. -/
def clientLivesSpec : ChangeSpec := { name := "clientLives", fn := fun _ => fun
  | [d1, d2, d3] => { results := [.lit (.bool true)], args := [d1, d2, d3] }
  | _ => none }
def clientLivesRow : OpenClaim := { program := "ytehjnpokalknkaagreatdoor", sum := "610bc11e8cc49ef3c41cc731e2974f78f91e1e6d79060342433874fef041ada5", func := "compositor/compositorlaw46.ClientLives", spec := "clientLives", inPlace := ["internal/bytealg.CountString", "internal/bytealg.IndexByteString", "internal/bytealg.IndexString"], unfollowed := true, recurses := true, named := ["unicode/utf8.first", "unicode/utf8.acceptRanges", "internal/bytealg.MaxLen", "compositor/iface.kinds"], apart := false, laid := [("unicode/utf8.acceptRanges", laid_unicode_utf8_acceptRanges), ("compositor/iface.kinds", laid_compositor_iface_kinds), ("unicode/utf8.first", laid_unicode_utf8_first)] }
def ClientLivesSaid : Prop := clientLivesRow.holds Tryz.pinned (OpenSpec.ofChange clientLivesSpec)

/-- ITS FALSE NEIGHBOUR: 'it returns false'. Refute it at one input. -/
def clientLivesWrong : ChangeSpec := { name := "clientLives", fn := fun _ => fun
  | [d1, d2, d3] => { results := [.lit (.bool false)], args := [d1, d2, d3] }
  | _ => none }
def ClientLivesWrongFalsely : Prop := clientLivesRow.holds Tryz.pinned (OpenSpec.ofChange clientLivesWrong)

/-- 'compositorlaw46.ClientSends': WHATEVER THE INPUT: true; the input reads as it did. -/
def clientSendsSpec : ChangeSpec := { name := "clientSends", fn := fun _ => fun
  | [d1, d2, d3] => { results := [.lit (.bool true)], args := [d1, d2, d3] }
  | _ => none }
def clientSendsRow : OpenClaim := { program := "ytehjnpokalknkaagreatdoor", sum := "610bc11e8cc49ef3c41cc731e2974f78f91e1e6d79060342433874fef041ada5", func := "compositor/compositorlaw46.ClientSends", spec := "clientSends", inPlace := ["internal/bytealg.CountString", "internal/bytealg.IndexByteString", "internal/bytealg.IndexString"], unfollowed := true, recurses := true, named := ["unicode/utf8.first", "unicode/utf8.acceptRanges", "internal/bytealg.MaxLen", "compositor/iface.kinds"], apart := false, laid := [("unicode/utf8.acceptRanges", laid_unicode_utf8_acceptRanges), ("compositor/iface.kinds", laid_compositor_iface_kinds), ("unicode/utf8.first", laid_unicode_utf8_first)] }
def ClientSendsSaid : Prop := clientSendsRow.holds Tryz.pinned (OpenSpec.ofChange clientSendsSpec)

/-- ITS FALSE NEIGHBOUR: 'it returns false'. Refute it at one input. -/
def clientSendsWrong : ChangeSpec := { name := "clientSends", fn := fun _ => fun
  | [d1, d2, d3] => { results := [.lit (.bool false)], args := [d1, d2, d3] }
  | _ => none }
def ClientSendsWrongFalsely : Prop := clientSendsRow.holds Tryz.pinned (OpenSpec.ofChange clientSendsWrong)

/-- 'compositorlaw46.ClientSteps': WHATEVER THE INPUT: true; the input reads as it did. -/
def clientStepsSpec : ChangeSpec := { name := "clientSteps", fn := fun _ => fun
  | [d1, d2] => { results := [.lit (.bool true)], args := [d1, d2] }
  | _ => none }
def clientStepsRow : OpenClaim := { program := "ytehjnpokalknkaagreatdoor", sum := "610bc11e8cc49ef3c41cc731e2974f78f91e1e6d79060342433874fef041ada5", func := "compositor/compositorlaw46.ClientSteps", spec := "clientSteps", inPlace := ["internal/bytealg.CountString", "internal/bytealg.IndexByteString", "internal/bytealg.IndexString"], unfollowed := true, recurses := true, named := ["unicode/utf8.first", "unicode/utf8.acceptRanges", "internal/bytealg.MaxLen", "compositor/iface.kinds"], apart := false, laid := [("unicode/utf8.acceptRanges", laid_unicode_utf8_acceptRanges), ("compositor/iface.kinds", laid_compositor_iface_kinds), ("unicode/utf8.first", laid_unicode_utf8_first)] }
def ClientStepsSaid : Prop := clientStepsRow.holds Tryz.pinned (OpenSpec.ofChange clientStepsSpec)

/-- ITS FALSE NEIGHBOUR: 'it returns false'. Refute it at one input. -/
def clientStepsWrong : ChangeSpec := { name := "clientSteps", fn := fun _ => fun
  | [d1, d2] => { results := [.lit (.bool false)], args := [d1, d2] }
  | _ => none }
def ClientStepsWrongFalsely : Prop := clientStepsRow.holds Tryz.pinned (OpenSpec.ofChange clientStepsWrong)

/-- 'compositorlaw46.ClientNil': WHATEVER THE INPUT: true; the input reads as it did. -/
def clientNilSpec : ChangeSpec := { name := "clientNil", fn := fun _ => fun
  | [d] => { results := [.lit (.bool true)], args := [d] }
  | _ => none }
def clientNilRow : OpenClaim := { program := "ytehjnpokalknkaagreatdoor", sum := "610bc11e8cc49ef3c41cc731e2974f78f91e1e6d79060342433874fef041ada5", func := "compositor/compositorlaw46.ClientNil", spec := "clientNil", inPlace := ["internal/bytealg.IndexByteString", "internal/bytealg.CountString", "internal/bytealg.IndexString"], unfollowed := true, recurses := true, named := ["compositor/iface.kinds", "unicode/utf8.first", "unicode/utf8.acceptRanges", "internal/bytealg.MaxLen"], apart := false, laid := [("unicode/utf8.acceptRanges", laid_unicode_utf8_acceptRanges), ("compositor/iface.kinds", laid_compositor_iface_kinds), ("unicode/utf8.first", laid_unicode_utf8_first)] }
def ClientNilSaid : Prop := clientNilRow.holds Tryz.pinned (OpenSpec.ofChange clientNilSpec)

/-- ITS FALSE NEIGHBOUR: 'it returns false'. Refute it at one input. -/
def clientNilWrong : ChangeSpec := { name := "clientNil", fn := fun _ => fun
  | [d] => { results := [.lit (.bool false)], args := [d] }
  | _ => none }
def ClientNilWrongFalsely : Prop := clientNilRow.holds Tryz.pinned (OpenSpec.ofChange clientNilWrong)

/-- 'compositorlaw46.ClientDisconnects': WHATEVER THE INPUT: true; the input reads as it did. -/
def clientDisconnectsSpec : ChangeSpec := { name := "clientDisconnects", fn := fun _ => fun
  | [d1, d2, d3] => { results := [.lit (.bool true)], args := [d1, d2, d3] }
  | _ => none }
def clientDisconnectsRow : OpenClaim := { program := "ytehjnpokalknkaagreatdoor", sum := "610bc11e8cc49ef3c41cc731e2974f78f91e1e6d79060342433874fef041ada5", func := "compositor/compositorlaw46.ClientDisconnects", spec := "clientDisconnects", inPlace := ["internal/bytealg.CountString", "internal/bytealg.IndexByteString", "internal/bytealg.IndexString"], unfollowed := true, recurses := true, named := ["unicode/utf8.first", "unicode/utf8.acceptRanges", "internal/bytealg.MaxLen", "compositor/iface.kinds"], apart := false, laid := [("unicode/utf8.acceptRanges", laid_unicode_utf8_acceptRanges), ("compositor/iface.kinds", laid_compositor_iface_kinds), ("unicode/utf8.first", laid_unicode_utf8_first)] }
def ClientDisconnectsSaid : Prop := clientDisconnectsRow.holds Tryz.pinned (OpenSpec.ofChange clientDisconnectsSpec)

/-- ITS FALSE NEIGHBOUR: 'it returns false'. Refute it at one input. -/
def clientDisconnectsWrong : ChangeSpec := { name := "clientDisconnects", fn := fun _ => fun
  | [d1, d2, d3] => { results := [.lit (.bool false)], args := [d1, d2, d3] }
  | _ => none }
def ClientDisconnectsWrongFalsely : Prop := clientDisconnectsRow.holds Tryz.pinned (OpenSpec.ofChange clientDisconnectsWrong)

/-- 'compositorlaw46.ClientServerIDs': WHATEVER THE INPUT: true; the input reads as it did. -/
def clientServerIDsSpec : ChangeSpec := { name := "clientServerIDs", fn := fun _ => fun
  | [d1, d2] => { results := [.lit (.bool true)], args := [d1, d2] }
  | _ => none }
def clientServerIDsRow : OpenClaim := { program := "ytehjnpokalknkaagreatdoor", sum := "610bc11e8cc49ef3c41cc731e2974f78f91e1e6d79060342433874fef041ada5", func := "compositor/compositorlaw46.ClientServerIDs", spec := "clientServerIDs", inPlace := ["internal/bytealg.CountString", "internal/bytealg.IndexByteString", "internal/bytealg.IndexString"], unfollowed := true, recurses := true, named := ["unicode/utf8.first", "unicode/utf8.acceptRanges", "internal/bytealg.MaxLen", "compositor/iface.kinds"], apart := false, laid := [("unicode/utf8.acceptRanges", laid_unicode_utf8_acceptRanges), ("compositor/iface.kinds", laid_compositor_iface_kinds), ("unicode/utf8.first", laid_unicode_utf8_first)] }
def ClientServerIDsSaid : Prop := clientServerIDsRow.holds Tryz.pinned (OpenSpec.ofChange clientServerIDsSpec)

/-- ITS FALSE NEIGHBOUR: 'it returns false'. Refute it at one input. -/
def clientServerIDsWrong : ChangeSpec := { name := "clientServerIDs", fn := fun _ => fun
  | [d1, d2] => { results := [.lit (.bool false)], args := [d1, d2] }
  | _ => none }
def ClientServerIDsWrongFalsely : Prop := clientServerIDsRow.holds Tryz.pinned (OpenSpec.ofChange clientServerIDsWrong)

/- THE SECOND FORM. 'bulk': how many values and letters a reading holds, each counted each time it is reached (what is shared counts as often as it is met; a slice's spare places count too). A statement '..UptoSaid' is the law's where the arguments, and the package variables that the reading takes, are together of bulk at most 1048576: NARROWER than '..Said'. Prove '..Said' where nothing that the law and all that it calls make is longer than what came in: it says more and counts as full. Else prove '..UptoSaid'. A law counts once. -/
mutual
def uptoBulk {H : Type} : DataW H → Nat
  | .lit (.string bytes) => bytes.length + 1
  | .lit _ => 1
  | .nil => 1
  | .ptr d => uptoBulk d + 1
  | .slice elems spare => uptoBulkAll elems + uptoBulkAll spare + 1
  | .agg parts => uptoBulkAll parts + 1
  | .iface _ d => uptoBulk d + 1
  | .map entries => uptoBulkEntries entries + 1
  | .held _ => 1
def uptoBulkAll {H : Type} : List (DataW H) → Nat
  | [] => 0
  | d :: r => uptoBulk d + uptoBulkAll r
def uptoBulkEntries {H : Type} : List (Lit × DataW H) → Nat
  | [] => 0
  | x :: r => uptoBulkEntry x + uptoBulkEntries r
def uptoBulkEntry {H : Type} : Lit × DataW H → Nat
  | (.string bytes, d) => bytes.length + uptoBulk d + 1
  | (_, d) => uptoBulk d + 1
 end
def uptoSmall : (H : Type) → List (DataW H) → Bool := fun _ ds => decide (uptoBulkAll ds ≤ 1048576)
def OpenSpec.upto (s : _root_.Go.ChangeSpec) : _root_.Go.OpenSpec := { _root_.Go.OpenSpec.ofChange s with cond := some uptoSmall }

/-- 'compositorlaw46.ClientStreaming', WHERE WHAT IT READS IS OF BULK AT MOST 1048576: true; the input reads as it did. -/
def clientStreamingUptoRow : OpenClaim := { program := "ytehjnpokalknkaagreatdoor", sum := "610bc11e8cc49ef3c41cc731e2974f78f91e1e6d79060342433874fef041ada5", func := "compositor/compositorlaw46.ClientStreaming", spec := "clientStreaming", inPlace := ["internal/bytealg.CountString", "internal/bytealg.IndexByteString", "internal/bytealg.IndexString"], unfollowed := true, recurses := true, named := ["unicode/utf8.first", "unicode/utf8.acceptRanges", "internal/bytealg.MaxLen", "compositor/iface.kinds"], apart := false, laid := [("unicode/utf8.acceptRanges", laid_unicode_utf8_acceptRanges), ("compositor/iface.kinds", laid_compositor_iface_kinds), ("unicode/utf8.first", laid_unicode_utf8_first)], narrowed := true }
def ClientStreamingUptoSaid : Prop := clientStreamingUptoRow.holds Tryz.pinned (OpenSpec.upto clientStreamingSpec)

/-- 'compositorlaw46.ClientLives', WHERE WHAT IT READS IS OF BULK AT MOST 1048576: true; the input reads as it did. -/
def clientLivesUptoRow : OpenClaim := { program := "ytehjnpokalknkaagreatdoor", sum := "610bc11e8cc49ef3c41cc731e2974f78f91e1e6d79060342433874fef041ada5", func := "compositor/compositorlaw46.ClientLives", spec := "clientLives", inPlace := ["internal/bytealg.CountString", "internal/bytealg.IndexByteString", "internal/bytealg.IndexString"], unfollowed := true, recurses := true, named := ["unicode/utf8.first", "unicode/utf8.acceptRanges", "internal/bytealg.MaxLen", "compositor/iface.kinds"], apart := false, laid := [("unicode/utf8.acceptRanges", laid_unicode_utf8_acceptRanges), ("compositor/iface.kinds", laid_compositor_iface_kinds), ("unicode/utf8.first", laid_unicode_utf8_first)], narrowed := true }
def ClientLivesUptoSaid : Prop := clientLivesUptoRow.holds Tryz.pinned (OpenSpec.upto clientLivesSpec)

/-- 'compositorlaw46.ClientSends', WHERE WHAT IT READS IS OF BULK AT MOST 1048576: true; the input reads as it did. -/
def clientSendsUptoRow : OpenClaim := { program := "ytehjnpokalknkaagreatdoor", sum := "610bc11e8cc49ef3c41cc731e2974f78f91e1e6d79060342433874fef041ada5", func := "compositor/compositorlaw46.ClientSends", spec := "clientSends", inPlace := ["internal/bytealg.CountString", "internal/bytealg.IndexByteString", "internal/bytealg.IndexString"], unfollowed := true, recurses := true, named := ["unicode/utf8.first", "unicode/utf8.acceptRanges", "internal/bytealg.MaxLen", "compositor/iface.kinds"], apart := false, laid := [("unicode/utf8.acceptRanges", laid_unicode_utf8_acceptRanges), ("compositor/iface.kinds", laid_compositor_iface_kinds), ("unicode/utf8.first", laid_unicode_utf8_first)], narrowed := true }
def ClientSendsUptoSaid : Prop := clientSendsUptoRow.holds Tryz.pinned (OpenSpec.upto clientSendsSpec)

/-- 'compositorlaw46.ClientSteps', WHERE WHAT IT READS IS OF BULK AT MOST 1048576: true; the input reads as it did. -/
def clientStepsUptoRow : OpenClaim := { program := "ytehjnpokalknkaagreatdoor", sum := "610bc11e8cc49ef3c41cc731e2974f78f91e1e6d79060342433874fef041ada5", func := "compositor/compositorlaw46.ClientSteps", spec := "clientSteps", inPlace := ["internal/bytealg.CountString", "internal/bytealg.IndexByteString", "internal/bytealg.IndexString"], unfollowed := true, recurses := true, named := ["unicode/utf8.first", "unicode/utf8.acceptRanges", "internal/bytealg.MaxLen", "compositor/iface.kinds"], apart := false, laid := [("unicode/utf8.acceptRanges", laid_unicode_utf8_acceptRanges), ("compositor/iface.kinds", laid_compositor_iface_kinds), ("unicode/utf8.first", laid_unicode_utf8_first)], narrowed := true }
def ClientStepsUptoSaid : Prop := clientStepsUptoRow.holds Tryz.pinned (OpenSpec.upto clientStepsSpec)

/-- 'compositorlaw46.ClientNil', WHERE WHAT IT READS IS OF BULK AT MOST 1048576: true; the input reads as it did. -/
def clientNilUptoRow : OpenClaim := { program := "ytehjnpokalknkaagreatdoor", sum := "610bc11e8cc49ef3c41cc731e2974f78f91e1e6d79060342433874fef041ada5", func := "compositor/compositorlaw46.ClientNil", spec := "clientNil", inPlace := ["internal/bytealg.IndexByteString", "internal/bytealg.CountString", "internal/bytealg.IndexString"], unfollowed := true, recurses := true, named := ["compositor/iface.kinds", "unicode/utf8.first", "unicode/utf8.acceptRanges", "internal/bytealg.MaxLen"], apart := false, laid := [("unicode/utf8.acceptRanges", laid_unicode_utf8_acceptRanges), ("compositor/iface.kinds", laid_compositor_iface_kinds), ("unicode/utf8.first", laid_unicode_utf8_first)], narrowed := true }
def ClientNilUptoSaid : Prop := clientNilUptoRow.holds Tryz.pinned (OpenSpec.upto clientNilSpec)

/-- 'compositorlaw46.ClientDisconnects', WHERE WHAT IT READS IS OF BULK AT MOST 1048576: true; the input reads as it did. -/
def clientDisconnectsUptoRow : OpenClaim := { program := "ytehjnpokalknkaagreatdoor", sum := "610bc11e8cc49ef3c41cc731e2974f78f91e1e6d79060342433874fef041ada5", func := "compositor/compositorlaw46.ClientDisconnects", spec := "clientDisconnects", inPlace := ["internal/bytealg.CountString", "internal/bytealg.IndexByteString", "internal/bytealg.IndexString"], unfollowed := true, recurses := true, named := ["unicode/utf8.first", "unicode/utf8.acceptRanges", "internal/bytealg.MaxLen", "compositor/iface.kinds"], apart := false, laid := [("unicode/utf8.acceptRanges", laid_unicode_utf8_acceptRanges), ("compositor/iface.kinds", laid_compositor_iface_kinds), ("unicode/utf8.first", laid_unicode_utf8_first)], narrowed := true }
def ClientDisconnectsUptoSaid : Prop := clientDisconnectsUptoRow.holds Tryz.pinned (OpenSpec.upto clientDisconnectsSpec)

/-- 'compositorlaw46.ClientServerIDs', WHERE WHAT IT READS IS OF BULK AT MOST 1048576: true; the input reads as it did. -/
def clientServerIDsUptoRow : OpenClaim := { program := "ytehjnpokalknkaagreatdoor", sum := "610bc11e8cc49ef3c41cc731e2974f78f91e1e6d79060342433874fef041ada5", func := "compositor/compositorlaw46.ClientServerIDs", spec := "clientServerIDs", inPlace := ["internal/bytealg.CountString", "internal/bytealg.IndexByteString", "internal/bytealg.IndexString"], unfollowed := true, recurses := true, named := ["unicode/utf8.first", "unicode/utf8.acceptRanges", "internal/bytealg.MaxLen", "compositor/iface.kinds"], apart := false, laid := [("unicode/utf8.acceptRanges", laid_unicode_utf8_acceptRanges), ("compositor/iface.kinds", laid_compositor_iface_kinds), ("unicode/utf8.first", laid_unicode_utf8_first)], narrowed := true }
def ClientServerIDsUptoSaid : Prop := clientServerIDsUptoRow.holds Tryz.pinned (OpenSpec.upto clientServerIDsSpec)

end Rows
end Go.Proofs.YtehjnpokalknkaaGreatDoor
