/-
  NARROWER THAN 'FOR EVERY INPUT', by the rows' own cells (each row's printed sentence says how): FixedRoundTrip: laid · FixedParse: laid · FixedFromInt: laid · FixedRatio: laid · FixedNearest: laid · FixedFloor: laid · FixedArith: laid · FixedAlgebra: laid.
  DERIVED. THE GIVEN ROWS OF THIS SEAT. 8 by the template 'for every input the law returns true; each argument reads behind the call as it read before'; 0 by the template 'total and deterministic' (their statements: YtkjfpjammlihpaaDoorTotals.lean).
  GIVEN WITH THE SEED: the statements are not yours to turn. If you find one false, say at which input.
  Laid BY PROGRAM, IN A SANDBOX (cutbox-rows.mjs): the forced cells as the released guide's own fill.sh prints them over the translation 85a6945c3d020f87… (all of the seat's roots in one cut). By AI agents, Wed Nov 11 2026. No macro, syntax, notation, axiom, sorry.
-/
import Derived.Test.YtkjfpjammlihpaaDoorChecked
import GoSem.Claim
import GoSem.ClaimJoined
import GoSem.ClaimMapViews
import Derived.JoinedTies
import Derived.KernelRfl
namespace Go.Proofs.YtkjfpjammlihpaaDoor
/- THE CELL 'sum', in the pinned program and in every row, IS THE sha256 OF THE DUMP (.gsa) THAT YtkjfpjammlihpaaDoorProg.lean LOADS. Nothing in Lean hashes anything: it is a label: what it is worth is what the hold of that sum in a sandbox is worth. -/
noncomputable def Tryd.pinned : Pinned := { name := "ytkjfpjammlihpaadoor", sum := "85a6945c3d020f87108851feebed153a48ffe7b10d7d330bed3de458323c70b5", checked := Tryd.checked }
namespace Rows
def none {H : Type} : Left H := { results := [], args := [] }

/- WHAT THE LISTED PACKAGE-LEVEL VARIABLES READ AS WHEN THE CALL BEGINS. Each datum BY PROGRAM (the guide's laid-datum.mjs) off the statement by which the dump's own 'gosem.cut.vars' lays the variable. In a bare row this is a premise. The card (YtkjfpjammlihpaaDoorCards.lean) ties it to the program's text. -/
def laid_math_bits_deBruijn32tab {H : Type} : DataW H := .agg [.lit (.int .u8 0), .lit (.int .u8 1), .lit (.int .u8 28), .lit (.int .u8 2), .lit (.int .u8 29), .lit (.int .u8 14), .lit (.int .u8 24), .lit (.int .u8 3), .lit (.int .u8 30), .lit (.int .u8 22), .lit (.int .u8 20), .lit (.int .u8 15), .lit (.int .u8 25), .lit (.int .u8 17), .lit (.int .u8 4), .lit (.int .u8 8), .lit (.int .u8 31), .lit (.int .u8 27), .lit (.int .u8 13), .lit (.int .u8 23), .lit (.int .u8 21), .lit (.int .u8 19), .lit (.int .u8 16), .lit (.int .u8 7), .lit (.int .u8 26), .lit (.int .u8 12), .lit (.int .u8 18), .lit (.int .u8 6), .lit (.int .u8 11), .lit (.int .u8 5), .lit (.int .u8 10), .lit (.int .u8 9)]
def laid_math_bits_deBruijn64tab {H : Type} : DataW H := .agg [.lit (.int .u8 0), .lit (.int .u8 1), .lit (.int .u8 56), .lit (.int .u8 2), .lit (.int .u8 57), .lit (.int .u8 49), .lit (.int .u8 28), .lit (.int .u8 3), .lit (.int .u8 61), .lit (.int .u8 58), .lit (.int .u8 42), .lit (.int .u8 50), .lit (.int .u8 38), .lit (.int .u8 29), .lit (.int .u8 17), .lit (.int .u8 4), .lit (.int .u8 62), .lit (.int .u8 47), .lit (.int .u8 59), .lit (.int .u8 36), .lit (.int .u8 45), .lit (.int .u8 43), .lit (.int .u8 51), .lit (.int .u8 22), .lit (.int .u8 53), .lit (.int .u8 39), .lit (.int .u8 33), .lit (.int .u8 30), .lit (.int .u8 24), .lit (.int .u8 18), .lit (.int .u8 12), .lit (.int .u8 5), .lit (.int .u8 63), .lit (.int .u8 55), .lit (.int .u8 48), .lit (.int .u8 27), .lit (.int .u8 60), .lit (.int .u8 41), .lit (.int .u8 37), .lit (.int .u8 16), .lit (.int .u8 46), .lit (.int .u8 35), .lit (.int .u8 44), .lit (.int .u8 21), .lit (.int .u8 52), .lit (.int .u8 32), .lit (.int .u8 23), .lit (.int .u8 11), .lit (.int .u8 54), .lit (.int .u8 26), .lit (.int .u8 40), .lit (.int .u8 15), .lit (.int .u8 34), .lit (.int .u8 20), .lit (.int .u8 31), .lit (.int .u8 10), .lit (.int .u8 25), .lit (.int .u8 14), .lit (.int .u8 19), .lit (.int .u8 9), .lit (.int .u8 13), .lit (.int .u8 8), .lit (.int .u8 7), .lit (.int .u8 6)]
def laid_internal_strconv_uint64pow10 {H : Type} : DataW H := .agg [.lit (.int .u64 1), .lit (.int .u64 10), .lit (.int .u64 100), .lit (.int .u64 1000), .lit (.int .u64 10000), .lit (.int .u64 100000), .lit (.int .u64 1000000), .lit (.int .u64 10000000), .lit (.int .u64 100000000), .lit (.int .u64 1000000000), .lit (.int .u64 10000000000), .lit (.int .u64 100000000000), .lit (.int .u64 1000000000000), .lit (.int .u64 10000000000000), .lit (.int .u64 100000000000000), .lit (.int .u64 1000000000000000), .lit (.int .u64 10000000000000000), .lit (.int .u64 100000000000000000), .lit (.int .u64 1000000000000000000), .lit (.int .u64 10000000000000000000)]

/-- 'compositorlaw06.FixedRoundTrip': WHATEVER THE INPUT: true; the input reads as it did. -/
def fixedRoundTripSpec : ChangeSpec := { name := "fixedRoundTrip", fn := fun _ => fun
  | [d] => { results := [.lit (.bool true)], args := [d] }
  | _ => none }
def fixedRoundTripRow : OpenClaim := { program := "ytkjfpjammlihpaadoor", sum := "85a6945c3d020f87108851feebed153a48ffe7b10d7d330bed3de458323c70b5", func := "compositor/compositorlaw06.FixedRoundTrip", spec := "fixedRoundTrip", inPlace := ["internal/bytealg.IndexByteString", "internal/bytealg.IndexString"], unfollowed := true, recurses := true, named := ["internal/strconv.uint64pow10", "math/bits.deBruijn32tab", "math/bits.deBruijn64tab", "internal/bytealg.MaxLen", "math/bits.divideError", "math/bits.overflowError"], apart := false, laid := [("math/bits.deBruijn32tab", laid_math_bits_deBruijn32tab), ("math/bits.deBruijn64tab", laid_math_bits_deBruijn64tab), ("internal/strconv.uint64pow10", laid_internal_strconv_uint64pow10)] }
def FixedRoundTripSaid : Prop := fixedRoundTripRow.holds Tryd.pinned (OpenSpec.ofChange fixedRoundTripSpec)

/-- ITS FALSE NEIGHBOUR: 'it returns false'. Refute it at one input. -/
def fixedRoundTripWrong : ChangeSpec := { name := "fixedRoundTrip", fn := fun _ => fun
  | [d] => { results := [.lit (.bool false)], args := [d] }
  | _ => none }
def FixedRoundTripWrongFalsely : Prop := fixedRoundTripRow.holds Tryd.pinned (OpenSpec.ofChange fixedRoundTripWrong)

/-- 'compositorlaw06.FixedParse': WHATEVER THE INPUT: true; the input reads as it did. -/
def fixedParseSpec : ChangeSpec := { name := "fixedParse", fn := fun _ => fun
  | [d] => { results := [.lit (.bool true)], args := [d] }
  | _ => none }
def fixedParseRow : OpenClaim := { program := "ytkjfpjammlihpaadoor", sum := "85a6945c3d020f87108851feebed153a48ffe7b10d7d330bed3de458323c70b5", func := "compositor/compositorlaw06.FixedParse", spec := "fixedParse", inPlace := ["internal/bytealg.IndexByteString", "internal/bytealg.IndexString"], unfollowed := true, recurses := true, named := ["math/bits.divideError", "math/bits.overflowError", "internal/bytealg.MaxLen", "internal/strconv.uint64pow10", "math/bits.deBruijn32tab", "math/bits.deBruijn64tab"], apart := false, laid := [("math/bits.deBruijn32tab", laid_math_bits_deBruijn32tab), ("math/bits.deBruijn64tab", laid_math_bits_deBruijn64tab), ("internal/strconv.uint64pow10", laid_internal_strconv_uint64pow10)] }
def FixedParseSaid : Prop := fixedParseRow.holds Tryd.pinned (OpenSpec.ofChange fixedParseSpec)

/-- ITS FALSE NEIGHBOUR: 'it returns false'. Refute it at one input. -/
def fixedParseWrong : ChangeSpec := { name := "fixedParse", fn := fun _ => fun
  | [d] => { results := [.lit (.bool false)], args := [d] }
  | _ => none }
def FixedParseWrongFalsely : Prop := fixedParseRow.holds Tryd.pinned (OpenSpec.ofChange fixedParseWrong)

/-- 'compositorlaw06.FixedFromInt': WHATEVER THE INPUT: true; the input reads as it did. -/
def fixedFromIntSpec : ChangeSpec := { name := "fixedFromInt", fn := fun _ => fun
  | [d] => { results := [.lit (.bool true)], args := [d] }
  | _ => none }
def fixedFromIntRow : OpenClaim := { program := "ytkjfpjammlihpaadoor", sum := "85a6945c3d020f87108851feebed153a48ffe7b10d7d330bed3de458323c70b5", func := "compositor/compositorlaw06.FixedFromInt", spec := "fixedFromInt", inPlace := ["internal/bytealg.IndexByteString", "internal/bytealg.IndexString"], unfollowed := true, recurses := true, named := ["math/bits.divideError", "math/bits.overflowError", "internal/bytealg.MaxLen", "internal/strconv.uint64pow10", "math/bits.deBruijn32tab", "math/bits.deBruijn64tab"], apart := false, laid := [("math/bits.deBruijn32tab", laid_math_bits_deBruijn32tab), ("math/bits.deBruijn64tab", laid_math_bits_deBruijn64tab), ("internal/strconv.uint64pow10", laid_internal_strconv_uint64pow10)] }
def FixedFromIntSaid : Prop := fixedFromIntRow.holds Tryd.pinned (OpenSpec.ofChange fixedFromIntSpec)

/-- ITS FALSE NEIGHBOUR: 'it returns false'. Refute it at one input. -/
def fixedFromIntWrong : ChangeSpec := { name := "fixedFromInt", fn := fun _ => fun
  | [d] => { results := [.lit (.bool false)], args := [d] }
  | _ => none }
def FixedFromIntWrongFalsely : Prop := fixedFromIntRow.holds Tryd.pinned (OpenSpec.ofChange fixedFromIntWrong)

/-- 'compositorlaw06.FixedRatio': WHATEVER THE INPUT: true; the input reads as it did. -/
def fixedRatioSpec : ChangeSpec := { name := "fixedRatio", fn := fun _ => fun
  | [d1, d2] => { results := [.lit (.bool true)], args := [d1, d2] }
  | _ => none }
def fixedRatioRow : OpenClaim := { program := "ytkjfpjammlihpaadoor", sum := "85a6945c3d020f87108851feebed153a48ffe7b10d7d330bed3de458323c70b5", func := "compositor/compositorlaw06.FixedRatio", spec := "fixedRatio", inPlace := ["internal/bytealg.IndexByteString", "internal/bytealg.IndexString"], unfollowed := true, recurses := true, named := ["math/bits.divideError", "math/bits.overflowError", "internal/bytealg.MaxLen", "internal/strconv.uint64pow10", "math/bits.deBruijn32tab", "math/bits.deBruijn64tab"], apart := false, laid := [("math/bits.deBruijn32tab", laid_math_bits_deBruijn32tab), ("math/bits.deBruijn64tab", laid_math_bits_deBruijn64tab), ("internal/strconv.uint64pow10", laid_internal_strconv_uint64pow10)] }
def FixedRatioSaid : Prop := fixedRatioRow.holds Tryd.pinned (OpenSpec.ofChange fixedRatioSpec)

/-- ITS FALSE NEIGHBOUR: 'it returns false'. Refute it at one input. -/
def fixedRatioWrong : ChangeSpec := { name := "fixedRatio", fn := fun _ => fun
  | [d1, d2] => { results := [.lit (.bool false)], args := [d1, d2] }
  | _ => none }
def FixedRatioWrongFalsely : Prop := fixedRatioRow.holds Tryd.pinned (OpenSpec.ofChange fixedRatioWrong)

/-- 'compositorlaw06.FixedNearest': WHATEVER THE INPUT: true; the input reads as it did. -/
def fixedNearestSpec : ChangeSpec := { name := "fixedNearest", fn := fun _ => fun
  | [d1, d2] => { results := [.lit (.bool true)], args := [d1, d2] }
  | _ => none }
def fixedNearestRow : OpenClaim := { program := "ytkjfpjammlihpaadoor", sum := "85a6945c3d020f87108851feebed153a48ffe7b10d7d330bed3de458323c70b5", func := "compositor/compositorlaw06.FixedNearest", spec := "fixedNearest", inPlace := ["internal/bytealg.IndexByteString", "internal/bytealg.IndexString"], unfollowed := true, recurses := true, named := ["math/bits.divideError", "math/bits.overflowError", "internal/bytealg.MaxLen", "internal/strconv.uint64pow10", "math/bits.deBruijn32tab", "math/bits.deBruijn64tab"], apart := false, laid := [("math/bits.deBruijn32tab", laid_math_bits_deBruijn32tab), ("math/bits.deBruijn64tab", laid_math_bits_deBruijn64tab), ("internal/strconv.uint64pow10", laid_internal_strconv_uint64pow10)] }
def FixedNearestSaid : Prop := fixedNearestRow.holds Tryd.pinned (OpenSpec.ofChange fixedNearestSpec)

/-- ITS FALSE NEIGHBOUR: 'it returns false'. Refute it at one input. -/
def fixedNearestWrong : ChangeSpec := { name := "fixedNearest", fn := fun _ => fun
  | [d1, d2] => { results := [.lit (.bool false)], args := [d1, d2] }
  | _ => none }
def FixedNearestWrongFalsely : Prop := fixedNearestRow.holds Tryd.pinned (OpenSpec.ofChange fixedNearestWrong)

/-- 'compositorlaw06.FixedFloor': WHATEVER THE INPUT: true; the input reads as it did. -/
def fixedFloorSpec : ChangeSpec := { name := "fixedFloor", fn := fun _ => fun
  | [d] => { results := [.lit (.bool true)], args := [d] }
  | _ => none }
def fixedFloorRow : OpenClaim := { program := "ytkjfpjammlihpaadoor", sum := "85a6945c3d020f87108851feebed153a48ffe7b10d7d330bed3de458323c70b5", func := "compositor/compositorlaw06.FixedFloor", spec := "fixedFloor", inPlace := ["internal/bytealg.IndexByteString", "internal/bytealg.IndexString"], unfollowed := true, recurses := true, named := ["math/bits.divideError", "math/bits.overflowError", "internal/bytealg.MaxLen", "internal/strconv.uint64pow10", "math/bits.deBruijn32tab", "math/bits.deBruijn64tab"], apart := false, laid := [("math/bits.deBruijn32tab", laid_math_bits_deBruijn32tab), ("math/bits.deBruijn64tab", laid_math_bits_deBruijn64tab), ("internal/strconv.uint64pow10", laid_internal_strconv_uint64pow10)] }
def FixedFloorSaid : Prop := fixedFloorRow.holds Tryd.pinned (OpenSpec.ofChange fixedFloorSpec)

/-- ITS FALSE NEIGHBOUR: 'it returns false'. Refute it at one input. -/
def fixedFloorWrong : ChangeSpec := { name := "fixedFloor", fn := fun _ => fun
  | [d] => { results := [.lit (.bool false)], args := [d] }
  | _ => none }
def FixedFloorWrongFalsely : Prop := fixedFloorRow.holds Tryd.pinned (OpenSpec.ofChange fixedFloorWrong)

/-- 'compositorlaw06.FixedArith': WHATEVER THE INPUT: true; the input reads as it did. -/
def fixedArithSpec : ChangeSpec := { name := "fixedArith", fn := fun _ => fun
  | [d1, d2] => { results := [.lit (.bool true)], args := [d1, d2] }
  | _ => none }
def fixedArithRow : OpenClaim := { program := "ytkjfpjammlihpaadoor", sum := "85a6945c3d020f87108851feebed153a48ffe7b10d7d330bed3de458323c70b5", func := "compositor/compositorlaw06.FixedArith", spec := "fixedArith", inPlace := ["internal/bytealg.IndexByteString", "internal/bytealg.IndexString"], unfollowed := true, recurses := true, named := ["math/bits.divideError", "math/bits.overflowError", "internal/bytealg.MaxLen", "internal/strconv.uint64pow10", "math/bits.deBruijn32tab", "math/bits.deBruijn64tab"], apart := false, laid := [("math/bits.deBruijn32tab", laid_math_bits_deBruijn32tab), ("math/bits.deBruijn64tab", laid_math_bits_deBruijn64tab), ("internal/strconv.uint64pow10", laid_internal_strconv_uint64pow10)] }
def FixedArithSaid : Prop := fixedArithRow.holds Tryd.pinned (OpenSpec.ofChange fixedArithSpec)

/-- ITS FALSE NEIGHBOUR: 'it returns false'. Refute it at one input. -/
def fixedArithWrong : ChangeSpec := { name := "fixedArith", fn := fun _ => fun
  | [d1, d2] => { results := [.lit (.bool false)], args := [d1, d2] }
  | _ => none }
def FixedArithWrongFalsely : Prop := fixedArithRow.holds Tryd.pinned (OpenSpec.ofChange fixedArithWrong)

/-- 'compositorlaw06.FixedAlgebra': WHATEVER THE INPUT: true; the input reads as it did. -/
def fixedAlgebraSpec : ChangeSpec := { name := "fixedAlgebra", fn := fun _ => fun
  | [d1, d2] => { results := [.lit (.bool true)], args := [d1, d2] }
  | _ => none }
def fixedAlgebraRow : OpenClaim := { program := "ytkjfpjammlihpaadoor", sum := "85a6945c3d020f87108851feebed153a48ffe7b10d7d330bed3de458323c70b5", func := "compositor/compositorlaw06.FixedAlgebra", spec := "fixedAlgebra", inPlace := ["internal/bytealg.IndexByteString", "internal/bytealg.IndexString"], unfollowed := true, recurses := true, named := ["math/bits.divideError", "math/bits.overflowError", "internal/bytealg.MaxLen", "internal/strconv.uint64pow10", "math/bits.deBruijn32tab", "math/bits.deBruijn64tab"], apart := false, laid := [("math/bits.deBruijn32tab", laid_math_bits_deBruijn32tab), ("math/bits.deBruijn64tab", laid_math_bits_deBruijn64tab), ("internal/strconv.uint64pow10", laid_internal_strconv_uint64pow10)] }
def FixedAlgebraSaid : Prop := fixedAlgebraRow.holds Tryd.pinned (OpenSpec.ofChange fixedAlgebraSpec)

/-- ITS FALSE NEIGHBOUR: 'it returns false'. Refute it at one input. -/
def fixedAlgebraWrong : ChangeSpec := { name := "fixedAlgebra", fn := fun _ => fun
  | [d1, d2] => { results := [.lit (.bool false)], args := [d1, d2] }
  | _ => none }
def FixedAlgebraWrongFalsely : Prop := fixedAlgebraRow.holds Tryd.pinned (OpenSpec.ofChange fixedAlgebraWrong)

/- THE SECOND FORM. 'bulk': how many values and letters a reading holds, each counted each time it is reached (what is shared counts as often as it is met; a slice's spare places count too). A statement '..UptoSaid' is the law's where the arguments, and the package variables that the reading takes, are together of bulk at most 1048576: NARROWER than '..Said'. Prove '..Said' where nothing that the law and all that it calls make is longer than what came in: it says more and counts as full. Else prove '..UptoSaid'. A law counts once. -/
mutual
def uptoBulk {H : Type} : DataW H → Nat
  | .lit (.string bytes) => bytes.length + 1
  | .lit _ => 1
  | .nil => 1
  | .ptr d => uptoBulk d + 1
  | .slice elems spare => uptoBulkAll elems + uptoBulkAll spare + 1
  | .agg parts => uptoBulkAll parts + 1
  | .iface _ d => uptoBulk d + 1
  | .map entries => uptoBulkEntries entries + 1
  | .held _ => 1
def uptoBulkAll {H : Type} : List (DataW H) → Nat
  | [] => 0
  | d :: r => uptoBulk d + uptoBulkAll r
def uptoBulkEntries {H : Type} : List (Lit × DataW H) → Nat
  | [] => 0
  | x :: r => uptoBulkEntry x + uptoBulkEntries r
def uptoBulkEntry {H : Type} : Lit × DataW H → Nat
  | (.string bytes, d) => bytes.length + uptoBulk d + 1
  | (_, d) => uptoBulk d + 1
 end
def uptoSmall : (H : Type) → List (DataW H) → Bool := fun _ ds => decide (uptoBulkAll ds ≤ 1048576)
def OpenSpec.upto (s : _root_.Go.ChangeSpec) : _root_.Go.OpenSpec := { _root_.Go.OpenSpec.ofChange s with cond := some uptoSmall }

/-- 'compositorlaw06.FixedRoundTrip', WHERE WHAT IT READS IS OF BULK AT MOST 1048576: true; the input reads as it did. -/
def fixedRoundTripUptoRow : OpenClaim := { program := "ytkjfpjammlihpaadoor", sum := "85a6945c3d020f87108851feebed153a48ffe7b10d7d330bed3de458323c70b5", func := "compositor/compositorlaw06.FixedRoundTrip", spec := "fixedRoundTrip", inPlace := ["internal/bytealg.IndexByteString", "internal/bytealg.IndexString"], unfollowed := true, recurses := true, named := ["internal/strconv.uint64pow10", "math/bits.deBruijn32tab", "math/bits.deBruijn64tab", "internal/bytealg.MaxLen", "math/bits.divideError", "math/bits.overflowError"], apart := false, laid := [("math/bits.deBruijn32tab", laid_math_bits_deBruijn32tab), ("math/bits.deBruijn64tab", laid_math_bits_deBruijn64tab), ("internal/strconv.uint64pow10", laid_internal_strconv_uint64pow10)], narrowed := true }
def FixedRoundTripUptoSaid : Prop := fixedRoundTripUptoRow.holds Tryd.pinned (OpenSpec.upto fixedRoundTripSpec)

/-- 'compositorlaw06.FixedParse', WHERE WHAT IT READS IS OF BULK AT MOST 1048576: true; the input reads as it did. -/
def fixedParseUptoRow : OpenClaim := { program := "ytkjfpjammlihpaadoor", sum := "85a6945c3d020f87108851feebed153a48ffe7b10d7d330bed3de458323c70b5", func := "compositor/compositorlaw06.FixedParse", spec := "fixedParse", inPlace := ["internal/bytealg.IndexByteString", "internal/bytealg.IndexString"], unfollowed := true, recurses := true, named := ["math/bits.divideError", "math/bits.overflowError", "internal/bytealg.MaxLen", "internal/strconv.uint64pow10", "math/bits.deBruijn32tab", "math/bits.deBruijn64tab"], apart := false, laid := [("math/bits.deBruijn32tab", laid_math_bits_deBruijn32tab), ("math/bits.deBruijn64tab", laid_math_bits_deBruijn64tab), ("internal/strconv.uint64pow10", laid_internal_strconv_uint64pow10)], narrowed := true }
def FixedParseUptoSaid : Prop := fixedParseUptoRow.holds Tryd.pinned (OpenSpec.upto fixedParseSpec)

/-- 'compositorlaw06.FixedFromInt', WHERE WHAT IT READS IS OF BULK AT MOST 1048576: true; the input reads as it did. -/
def fixedFromIntUptoRow : OpenClaim := { program := "ytkjfpjammlihpaadoor", sum := "85a6945c3d020f87108851feebed153a48ffe7b10d7d330bed3de458323c70b5", func := "compositor/compositorlaw06.FixedFromInt", spec := "fixedFromInt", inPlace := ["internal/bytealg.IndexByteString", "internal/bytealg.IndexString"], unfollowed := true, recurses := true, named := ["math/bits.divideError", "math/bits.overflowError", "internal/bytealg.MaxLen", "internal/strconv.uint64pow10", "math/bits.deBruijn32tab", "math/bits.deBruijn64tab"], apart := false, laid := [("math/bits.deBruijn32tab", laid_math_bits_deBruijn32tab), ("math/bits.deBruijn64tab", laid_math_bits_deBruijn64tab), ("internal/strconv.uint64pow10", laid_internal_strconv_uint64pow10)], narrowed := true }
def FixedFromIntUptoSaid : Prop := fixedFromIntUptoRow.holds Tryd.pinned (OpenSpec.upto fixedFromIntSpec)

/-- 'compositorlaw06.FixedRatio', WHERE WHAT IT READS IS OF BULK AT MOST 1048576: true; the input reads as it did. -/
def fixedRatioUptoRow : OpenClaim := { program := "ytkjfpjammlihpaadoor", sum := "85a6945c3d020f87108851feebed153a48ffe7b10d7d330bed3de458323c70b5", func := "compositor/compositorlaw06.FixedRatio", spec := "fixedRatio", inPlace := ["internal/bytealg.IndexByteString", "internal/bytealg.IndexString"], unfollowed := true, recurses := true, named := ["math/bits.divideError", "math/bits.overflowError", "internal/bytealg.MaxLen", "internal/strconv.uint64pow10", "math/bits.deBruijn32tab", "math/bits.deBruijn64tab"], apart := false, laid := [("math/bits.deBruijn32tab", laid_math_bits_deBruijn32tab), ("math/bits.deBruijn64tab", laid_math_bits_deBruijn64tab), ("internal/strconv.uint64pow10", laid_internal_strconv_uint64pow10)], narrowed := true }
def FixedRatioUptoSaid : Prop := fixedRatioUptoRow.holds Tryd.pinned (OpenSpec.upto fixedRatioSpec)

/-- 'compositorlaw06.FixedNearest', WHERE WHAT IT READS IS OF BULK AT MOST 1048576: true; the input reads as it did. -/
def fixedNearestUptoRow : OpenClaim := { program := "ytkjfpjammlihpaadoor", sum := "85a6945c3d020f87108851feebed153a48ffe7b10d7d330bed3de458323c70b5", func := "compositor/compositorlaw06.FixedNearest", spec := "fixedNearest", inPlace := ["internal/bytealg.IndexByteString", "internal/bytealg.IndexString"], unfollowed := true, recurses := true, named := ["math/bits.divideError", "math/bits.overflowError", "internal/bytealg.MaxLen", "internal/strconv.uint64pow10", "math/bits.deBruijn32tab", "math/bits.deBruijn64tab"], apart := false, laid := [("math/bits.deBruijn32tab", laid_math_bits_deBruijn32tab), ("math/bits.deBruijn64tab", laid_math_bits_deBruijn64tab), ("internal/strconv.uint64pow10", laid_internal_strconv_uint64pow10)], narrowed := true }
def FixedNearestUptoSaid : Prop := fixedNearestUptoRow.holds Tryd.pinned (OpenSpec.upto fixedNearestSpec)

/-- 'compositorlaw06.FixedFloor', WHERE WHAT IT READS IS OF BULK AT MOST 1048576: true; the input reads as it did. -/
def fixedFloorUptoRow : OpenClaim := { program := "ytkjfpjammlihpaadoor", sum := "85a6945c3d020f87108851feebed153a48ffe7b10d7d330bed3de458323c70b5", func := "compositor/compositorlaw06.FixedFloor", spec := "fixedFloor", inPlace := ["internal/bytealg.IndexByteString", "internal/bytealg.IndexString"], unfollowed := true, recurses := true, named := ["math/bits.divideError", "math/bits.overflowError", "internal/bytealg.MaxLen", "internal/strconv.uint64pow10", "math/bits.deBruijn32tab", "math/bits.deBruijn64tab"], apart := false, laid := [("math/bits.deBruijn32tab", laid_math_bits_deBruijn32tab), ("math/bits.deBruijn64tab", laid_math_bits_deBruijn64tab), ("internal/strconv.uint64pow10", laid_internal_strconv_uint64pow10)], narrowed := true }
def FixedFloorUptoSaid : Prop := fixedFloorUptoRow.holds Tryd.pinned (OpenSpec.upto fixedFloorSpec)

/-- 'compositorlaw06.FixedArith', WHERE WHAT IT READS IS OF BULK AT MOST 1048576: true; the input reads as it did. -/
def fixedArithUptoRow : OpenClaim := { program := "ytkjfpjammlihpaadoor", sum := "85a6945c3d020f87108851feebed153a48ffe7b10d7d330bed3de458323c70b5", func := "compositor/compositorlaw06.FixedArith", spec := "fixedArith", inPlace := ["internal/bytealg.IndexByteString", "internal/bytealg.IndexString"], unfollowed := true, recurses := true, named := ["math/bits.divideError", "math/bits.overflowError", "internal/bytealg.MaxLen", "internal/strconv.uint64pow10", "math/bits.deBruijn32tab", "math/bits.deBruijn64tab"], apart := false, laid := [("math/bits.deBruijn32tab", laid_math_bits_deBruijn32tab), ("math/bits.deBruijn64tab", laid_math_bits_deBruijn64tab), ("internal/strconv.uint64pow10", laid_internal_strconv_uint64pow10)], narrowed := true }
def FixedArithUptoSaid : Prop := fixedArithUptoRow.holds Tryd.pinned (OpenSpec.upto fixedArithSpec)

/-- 'compositorlaw06.FixedAlgebra', WHERE WHAT IT READS IS OF BULK AT MOST 1048576: true; the input reads as it did. -/
def fixedAlgebraUptoRow : OpenClaim := { program := "ytkjfpjammlihpaadoor", sum := "85a6945c3d020f87108851feebed153a48ffe7b10d7d330bed3de458323c70b5", func := "compositor/compositorlaw06.FixedAlgebra", spec := "fixedAlgebra", inPlace := ["internal/bytealg.IndexByteString", "internal/bytealg.IndexString"], unfollowed := true, recurses := true, named := ["math/bits.divideError", "math/bits.overflowError", "internal/bytealg.MaxLen", "internal/strconv.uint64pow10", "math/bits.deBruijn32tab", "math/bits.deBruijn64tab"], apart := false, laid := [("math/bits.deBruijn32tab", laid_math_bits_deBruijn32tab), ("math/bits.deBruijn64tab", laid_math_bits_deBruijn64tab), ("internal/strconv.uint64pow10", laid_internal_strconv_uint64pow10)], narrowed := true }
def FixedAlgebraUptoSaid : Prop := fixedAlgebraUptoRow.holds Tryd.pinned (OpenSpec.upto fixedAlgebraSpec)

end Rows
end Go.Proofs.YtkjfpjammlihpaaDoor
