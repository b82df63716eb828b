/-
  NARROWER THAN 'FOR EVERY INPUT', by the rows' own cells (each row's printed sentence says how): FramesNews: laid · FramesLowest: laid · FramesOwn: laid · FramesCounts: laid · FramesFresh: laid · FramesTables: laid · FramesPlays: laid · ConsoleBytes: laid.
  DERIVED. THE GIVEN ROWS OF THIS SEAT. 8 by the template 'for every input the law returns true; each argument reads behind the call as it read before'; 0 by the template 'total and deterministic' (their statements: YthpodlcbikialaaDoorTotals.lean).
  GIVEN WITH THE SEED: the statements are not yours to turn. If you find one false, say at which input.
  Laid BY PROGRAM, IN A SANDBOX (cutbox-rows.mjs): the forced cells as the released guide's own fill.sh prints them over the translation 6f81f7f6a7015e4a… (all of the seat's roots in one cut). By AI agents, Wed Nov 11 2026. No macro, syntax, notation, axiom, sorry.
-/
import Derived.Test.YthpodlcbikialaaDoorChecked
import GoSem.Claim
import GoSem.ClaimJoined
import GoSem.ClaimMapViews
import Derived.JoinedTies
import Derived.KernelRfl
namespace Go.Proofs.YthpodlcbikialaaDoor
/- THE CELL 'sum', in the pinned program and in every row, IS THE sha256 OF THE DUMP (.gsa) THAT YthpodlcbikialaaDoorProg.lean LOADS. Nothing in Lean hashes anything: it is a label: what it is worth is what the hold of that sum in a sandbox is worth. -/
noncomputable def Tryd.pinned : Pinned := { name := "ythpodlcbikialaadoor", sum := "6f81f7f6a7015e4aac6b5a940f7fb7e4db9ecbbd8b911a56994c2cafaf397559", checked := Tryd.checked }
namespace Rows
def none {H : Type} : Left H := { results := [], args := [] }

/- WHAT THE LISTED PACKAGE-LEVEL VARIABLES READ AS WHEN THE CALL BEGINS. Each datum BY PROGRAM (the guide's laid-datum.mjs) off the statement by which the dump's own 'gosem.cut.vars' lays the variable. In a bare row this is a premise. The card (YthpodlcbikialaaDoorCards.lean) ties it to the program's text. -/
def laid_math_bits_deBruijn64tab {H : Type} : DataW H := .agg [.lit (.int .u8 0), .lit (.int .u8 1), .lit (.int .u8 56), .lit (.int .u8 2), .lit (.int .u8 57), .lit (.int .u8 49), .lit (.int .u8 28), .lit (.int .u8 3), .lit (.int .u8 61), .lit (.int .u8 58), .lit (.int .u8 42), .lit (.int .u8 50), .lit (.int .u8 38), .lit (.int .u8 29), .lit (.int .u8 17), .lit (.int .u8 4), .lit (.int .u8 62), .lit (.int .u8 47), .lit (.int .u8 59), .lit (.int .u8 36), .lit (.int .u8 45), .lit (.int .u8 43), .lit (.int .u8 51), .lit (.int .u8 22), .lit (.int .u8 53), .lit (.int .u8 39), .lit (.int .u8 33), .lit (.int .u8 30), .lit (.int .u8 24), .lit (.int .u8 18), .lit (.int .u8 12), .lit (.int .u8 5), .lit (.int .u8 63), .lit (.int .u8 55), .lit (.int .u8 48), .lit (.int .u8 27), .lit (.int .u8 60), .lit (.int .u8 41), .lit (.int .u8 37), .lit (.int .u8 16), .lit (.int .u8 46), .lit (.int .u8 35), .lit (.int .u8 44), .lit (.int .u8 21), .lit (.int .u8 52), .lit (.int .u8 32), .lit (.int .u8 23), .lit (.int .u8 11), .lit (.int .u8 54), .lit (.int .u8 26), .lit (.int .u8 40), .lit (.int .u8 15), .lit (.int .u8 34), .lit (.int .u8 20), .lit (.int .u8 31), .lit (.int .u8 10), .lit (.int .u8 25), .lit (.int .u8 14), .lit (.int .u8 19), .lit (.int .u8 9), .lit (.int .u8 13), .lit (.int .u8 8), .lit (.int .u8 7), .lit (.int .u8 6)]
def laid_math_bits_deBruijn32tab {H : Type} : DataW H := .agg [.lit (.int .u8 0), .lit (.int .u8 1), .lit (.int .u8 28), .lit (.int .u8 2), .lit (.int .u8 29), .lit (.int .u8 14), .lit (.int .u8 24), .lit (.int .u8 3), .lit (.int .u8 30), .lit (.int .u8 22), .lit (.int .u8 20), .lit (.int .u8 15), .lit (.int .u8 25), .lit (.int .u8 17), .lit (.int .u8 4), .lit (.int .u8 8), .lit (.int .u8 31), .lit (.int .u8 27), .lit (.int .u8 13), .lit (.int .u8 23), .lit (.int .u8 21), .lit (.int .u8 19), .lit (.int .u8 16), .lit (.int .u8 7), .lit (.int .u8 26), .lit (.int .u8 12), .lit (.int .u8 18), .lit (.int .u8 6), .lit (.int .u8 11), .lit (.int .u8 5), .lit (.int .u8 10), .lit (.int .u8 9)]
def laid_internal_strconv_uint64pow10 {H : Type} : DataW H := .agg [.lit (.int .u64 1), .lit (.int .u64 10), .lit (.int .u64 100), .lit (.int .u64 1000), .lit (.int .u64 10000), .lit (.int .u64 100000), .lit (.int .u64 1000000), .lit (.int .u64 10000000), .lit (.int .u64 100000000), .lit (.int .u64 1000000000), .lit (.int .u64 10000000000), .lit (.int .u64 100000000000), .lit (.int .u64 1000000000000), .lit (.int .u64 10000000000000), .lit (.int .u64 100000000000000), .lit (.int .u64 1000000000000000), .lit (.int .u64 10000000000000000), .lit (.int .u64 100000000000000000), .lit (.int .u64 1000000000000000000), .lit (.int .u64 10000000000000000000)]
def laid_strconv_ErrRange {H : Type} : DataW H := .iface "*errors.errorString" (.ptr (.agg [.lit (.string [118, 97, 108, 117, 101, 32, 111, 117, 116, 32, 111, 102, 32, 114, 97, 110, 103, 101])]))
def laid_strconv_ErrSyntax {H : Type} : DataW H := .iface "*errors.errorString" (.ptr (.agg [.lit (.string [105, 110, 118, 97, 108, 105, 100, 32, 115, 121, 110, 116, 97, 120])]))

/-- 'atlaslaw04.FramesNews': WHATEVER THE INPUT: true; the input reads as it did. -/
def framesNewsSpec : ChangeSpec := { name := "framesNews", fn := fun _ => fun
  | [d1, d2, d3] => { results := [.lit (.bool true)], args := [d1, d2, d3] }
  | _ => none }
def framesNewsRow : OpenClaim := { program := "ythpodlcbikialaadoor", sum := "6f81f7f6a7015e4aac6b5a940f7fb7e4db9ecbbd8b911a56994c2cafaf397559", func := "atlas/atlaslaw04.FramesNews", spec := "framesNews", named := ["math/bits.deBruijn64tab"], apart := false, laid := [("math/bits.deBruijn64tab", laid_math_bits_deBruijn64tab)] }
def FramesNewsSaid : Prop := framesNewsRow.holds Tryd.pinned (OpenSpec.ofChange framesNewsSpec)

/-- ITS FALSE NEIGHBOUR: 'it returns false'. Refute it at one input. -/
def framesNewsWrong : ChangeSpec := { name := "framesNews", fn := fun _ => fun
  | [d1, d2, d3] => { results := [.lit (.bool false)], args := [d1, d2, d3] }
  | _ => none }
def FramesNewsWrongFalsely : Prop := framesNewsRow.holds Tryd.pinned (OpenSpec.ofChange framesNewsWrong)

/-- 'atlaslaw04.FramesLowest': WHATEVER THE INPUT: true; the input reads as it did. -/
def framesLowestSpec : ChangeSpec := { name := "framesLowest", fn := fun _ => fun
  | [d1, d2, d3, d4, d5] => { results := [.lit (.bool true)], args := [d1, d2, d3, d4, d5] }
  | _ => none }
def framesLowestRow : OpenClaim := { program := "ythpodlcbikialaadoor", sum := "6f81f7f6a7015e4aac6b5a940f7fb7e4db9ecbbd8b911a56994c2cafaf397559", func := "atlas/atlaslaw04.FramesLowest", spec := "framesLowest", named := ["math/bits.deBruijn64tab"], apart := false, laid := [("math/bits.deBruijn64tab", laid_math_bits_deBruijn64tab)] }
def FramesLowestSaid : Prop := framesLowestRow.holds Tryd.pinned (OpenSpec.ofChange framesLowestSpec)

/-- ITS FALSE NEIGHBOUR: 'it returns false'. Refute it at one input. -/
def framesLowestWrong : ChangeSpec := { name := "framesLowest", fn := fun _ => fun
  | [d1, d2, d3, d4, d5] => { results := [.lit (.bool false)], args := [d1, d2, d3, d4, d5] }
  | _ => none }
def FramesLowestWrongFalsely : Prop := framesLowestRow.holds Tryd.pinned (OpenSpec.ofChange framesLowestWrong)

/-- 'atlaslaw04.FramesOwn': WHATEVER THE INPUT: true; the input reads as it did. -/
def framesOwnSpec : ChangeSpec := { name := "framesOwn", fn := fun _ => fun
  | [d1, d2, d3] => { results := [.lit (.bool true)], args := [d1, d2, d3] }
  | _ => none }
def framesOwnRow : OpenClaim := { program := "ythpodlcbikialaadoor", sum := "6f81f7f6a7015e4aac6b5a940f7fb7e4db9ecbbd8b911a56994c2cafaf397559", func := "atlas/atlaslaw04.FramesOwn", spec := "framesOwn", named := ["math/bits.deBruijn64tab"], apart := false, laid := [("math/bits.deBruijn64tab", laid_math_bits_deBruijn64tab)] }
def FramesOwnSaid : Prop := framesOwnRow.holds Tryd.pinned (OpenSpec.ofChange framesOwnSpec)

/-- ITS FALSE NEIGHBOUR: 'it returns false'. Refute it at one input. -/
def framesOwnWrong : ChangeSpec := { name := "framesOwn", fn := fun _ => fun
  | [d1, d2, d3] => { results := [.lit (.bool false)], args := [d1, d2, d3] }
  | _ => none }
def FramesOwnWrongFalsely : Prop := framesOwnRow.holds Tryd.pinned (OpenSpec.ofChange framesOwnWrong)

/-- 'atlaslaw04.FramesCounts': WHATEVER THE INPUT: true; the input reads as it did. -/
def framesCountsSpec : ChangeSpec := { name := "framesCounts", fn := fun _ => fun
  | [d1, d2, d3] => { results := [.lit (.bool true)], args := [d1, d2, d3] }
  | _ => none }
def framesCountsRow : OpenClaim := { program := "ythpodlcbikialaadoor", sum := "6f81f7f6a7015e4aac6b5a940f7fb7e4db9ecbbd8b911a56994c2cafaf397559", func := "atlas/atlaslaw04.FramesCounts", spec := "framesCounts", named := ["math/bits.deBruijn64tab"], apart := false, laid := [("math/bits.deBruijn64tab", laid_math_bits_deBruijn64tab)] }
def FramesCountsSaid : Prop := framesCountsRow.holds Tryd.pinned (OpenSpec.ofChange framesCountsSpec)

/-- ITS FALSE NEIGHBOUR: 'it returns false'. Refute it at one input. -/
def framesCountsWrong : ChangeSpec := { name := "framesCounts", fn := fun _ => fun
  | [d1, d2, d3] => { results := [.lit (.bool false)], args := [d1, d2, d3] }
  | _ => none }
def FramesCountsWrongFalsely : Prop := framesCountsRow.holds Tryd.pinned (OpenSpec.ofChange framesCountsWrong)

/-- 'atlaslaw04.FramesFresh': WHATEVER THE INPUT: true; the input reads as it did. -/
def framesFreshSpec : ChangeSpec := { name := "framesFresh", fn := fun _ => fun
  | [d1, d2, d3] => { results := [.lit (.bool true)], args := [d1, d2, d3] }
  | _ => none }
def framesFreshRow : OpenClaim := { program := "ythpodlcbikialaadoor", sum := "6f81f7f6a7015e4aac6b5a940f7fb7e4db9ecbbd8b911a56994c2cafaf397559", func := "atlas/atlaslaw04.FramesFresh", spec := "framesFresh", named := ["math/bits.deBruijn64tab"], apart := false, laid := [("math/bits.deBruijn64tab", laid_math_bits_deBruijn64tab)] }
def FramesFreshSaid : Prop := framesFreshRow.holds Tryd.pinned (OpenSpec.ofChange framesFreshSpec)

/-- ITS FALSE NEIGHBOUR: 'it returns false'. Refute it at one input. -/
def framesFreshWrong : ChangeSpec := { name := "framesFresh", fn := fun _ => fun
  | [d1, d2, d3] => { results := [.lit (.bool false)], args := [d1, d2, d3] }
  | _ => none }
def FramesFreshWrongFalsely : Prop := framesFreshRow.holds Tryd.pinned (OpenSpec.ofChange framesFreshWrong)

/-- 'atlaslaw04.FramesTables': WHATEVER THE INPUT: true; the input reads as it did. -/
def framesTablesSpec : ChangeSpec := { name := "framesTables", fn := fun _ => fun
  | [d1, d2, d3] => { results := [.lit (.bool true)], args := [d1, d2, d3] }
  | _ => none }
def framesTablesRow : OpenClaim := { program := "ythpodlcbikialaadoor", sum := "6f81f7f6a7015e4aac6b5a940f7fb7e4db9ecbbd8b911a56994c2cafaf397559", func := "atlas/atlaslaw04.FramesTables", spec := "framesTables", named := ["math/bits.deBruijn64tab"], apart := false, laid := [("math/bits.deBruijn64tab", laid_math_bits_deBruijn64tab)] }
def FramesTablesSaid : Prop := framesTablesRow.holds Tryd.pinned (OpenSpec.ofChange framesTablesSpec)

/-- ITS FALSE NEIGHBOUR: 'it returns false'. Refute it at one input. -/
def framesTablesWrong : ChangeSpec := { name := "framesTables", fn := fun _ => fun
  | [d1, d2, d3] => { results := [.lit (.bool false)], args := [d1, d2, d3] }
  | _ => none }
def FramesTablesWrongFalsely : Prop := framesTablesRow.holds Tryd.pinned (OpenSpec.ofChange framesTablesWrong)

/-- 'atlaslaw04.FramesPlays': WHATEVER THE INPUT: true; the input reads as it did. -/
def framesPlaysSpec : ChangeSpec := { name := "framesPlays", fn := fun _ => fun
  | [d1, d2, d3] => { results := [.lit (.bool true)], args := [d1, d2, d3] }
  | _ => none }
def framesPlaysRow : OpenClaim := { program := "ythpodlcbikialaadoor", sum := "6f81f7f6a7015e4aac6b5a940f7fb7e4db9ecbbd8b911a56994c2cafaf397559", func := "atlas/atlaslaw04.FramesPlays", spec := "framesPlays", named := ["math/bits.deBruijn64tab"], apart := false, laid := [("math/bits.deBruijn64tab", laid_math_bits_deBruijn64tab)] }
def FramesPlaysSaid : Prop := framesPlaysRow.holds Tryd.pinned (OpenSpec.ofChange framesPlaysSpec)

/-- ITS FALSE NEIGHBOUR: 'it returns false'. Refute it at one input. -/
def framesPlaysWrong : ChangeSpec := { name := "framesPlays", fn := fun _ => fun
  | [d1, d2, d3] => { results := [.lit (.bool false)], args := [d1, d2, d3] }
  | _ => none }
def FramesPlaysWrongFalsely : Prop := framesPlaysRow.holds Tryd.pinned (OpenSpec.ofChange framesPlaysWrong)

/-- 'atlaslaw30.ConsoleBytes': WHATEVER THE INPUT: true; the input reads as it did. -/
def consoleBytesSpec : ChangeSpec := { name := "consoleBytes", fn := fun _ => fun
  | [d1, d2] => { results := [.lit (.bool true)], args := [d1, d2] }
  | _ => none }
def consoleBytesRow : OpenClaim := { program := "ythpodlcbikialaadoor", sum := "6f81f7f6a7015e4aac6b5a940f7fb7e4db9ecbbd8b911a56994c2cafaf397559", func := "atlas/atlaslaw30.ConsoleBytes", spec := "consoleBytes", named := ["strconv.ErrSyntax", "strconv.ErrRange", "internal/strconv.uint64pow10", "math/bits.deBruijn32tab", "math/bits.deBruijn64tab"], apart := false, laid := [("math/bits.deBruijn32tab", laid_math_bits_deBruijn32tab), ("math/bits.deBruijn64tab", laid_math_bits_deBruijn64tab), ("internal/strconv.uint64pow10", laid_internal_strconv_uint64pow10), ("strconv.ErrRange", laid_strconv_ErrRange), ("strconv.ErrSyntax", laid_strconv_ErrSyntax)] }
def ConsoleBytesSaid : Prop := consoleBytesRow.holds Tryd.pinned (OpenSpec.ofChange consoleBytesSpec)

/-- ITS FALSE NEIGHBOUR: 'it returns false'. Refute it at one input. -/
def consoleBytesWrong : ChangeSpec := { name := "consoleBytes", fn := fun _ => fun
  | [d1, d2] => { results := [.lit (.bool false)], args := [d1, d2] }
  | _ => none }
def ConsoleBytesWrongFalsely : Prop := consoleBytesRow.holds Tryd.pinned (OpenSpec.ofChange consoleBytesWrong)

/- THE SECOND FORM. 'bulk': how many values and letters a reading holds, each counted each time it is reached (what is shared counts as often as it is met; a slice's spare places count too). A statement '..UptoSaid' is the law's where the arguments, and the package variables that the reading takes, are together of bulk at most 1048576: NARROWER than '..Said'. Prove '..Said' where nothing that the law and all that it calls make is longer than what came in: it says more and counts as full. Else prove '..UptoSaid'. A law counts once. -/
mutual
def uptoBulk {H : Type} : DataW H → Nat
  | .lit (.string bytes) => bytes.length + 1
  | .lit _ => 1
  | .nil => 1
  | .ptr d => uptoBulk d + 1
  | .slice elems spare => uptoBulkAll elems + uptoBulkAll spare + 1
  | .agg parts => uptoBulkAll parts + 1
  | .iface _ d => uptoBulk d + 1
  | .map entries => uptoBulkEntries entries + 1
  | .held _ => 1
def uptoBulkAll {H : Type} : List (DataW H) → Nat
  | [] => 0
  | d :: r => uptoBulk d + uptoBulkAll r
def uptoBulkEntries {H : Type} : List (Lit × DataW H) → Nat
  | [] => 0
  | x :: r => uptoBulkEntry x + uptoBulkEntries r
def uptoBulkEntry {H : Type} : Lit × DataW H → Nat
  | (.string bytes, d) => bytes.length + uptoBulk d + 1
  | (_, d) => uptoBulk d + 1
 end
def uptoSmall : (H : Type) → List (DataW H) → Bool := fun _ ds => decide (uptoBulkAll ds ≤ 1048576)
def OpenSpec.upto (s : _root_.Go.ChangeSpec) : _root_.Go.OpenSpec := { _root_.Go.OpenSpec.ofChange s with cond := some uptoSmall }

/-- 'atlaslaw04.FramesNews', WHERE WHAT IT READS IS OF BULK AT MOST 1048576: true; the input reads as it did. -/
def framesNewsUptoRow : OpenClaim := { program := "ythpodlcbikialaadoor", sum := "6f81f7f6a7015e4aac6b5a940f7fb7e4db9ecbbd8b911a56994c2cafaf397559", func := "atlas/atlaslaw04.FramesNews", spec := "framesNews", named := ["math/bits.deBruijn64tab"], apart := false, laid := [("math/bits.deBruijn64tab", laid_math_bits_deBruijn64tab)], narrowed := true }
def FramesNewsUptoSaid : Prop := framesNewsUptoRow.holds Tryd.pinned (OpenSpec.upto framesNewsSpec)

/-- 'atlaslaw04.FramesLowest', WHERE WHAT IT READS IS OF BULK AT MOST 1048576: true; the input reads as it did. -/
def framesLowestUptoRow : OpenClaim := { program := "ythpodlcbikialaadoor", sum := "6f81f7f6a7015e4aac6b5a940f7fb7e4db9ecbbd8b911a56994c2cafaf397559", func := "atlas/atlaslaw04.FramesLowest", spec := "framesLowest", named := ["math/bits.deBruijn64tab"], apart := false, laid := [("math/bits.deBruijn64tab", laid_math_bits_deBruijn64tab)], narrowed := true }
def FramesLowestUptoSaid : Prop := framesLowestUptoRow.holds Tryd.pinned (OpenSpec.upto framesLowestSpec)

/-- 'atlaslaw04.FramesOwn', WHERE WHAT IT READS IS OF BULK AT MOST 1048576: true; the input reads as it did. -/
def framesOwnUptoRow : OpenClaim := { program := "ythpodlcbikialaadoor", sum := "6f81f7f6a7015e4aac6b5a940f7fb7e4db9ecbbd8b911a56994c2cafaf397559", func := "atlas/atlaslaw04.FramesOwn", spec := "framesOwn", named := ["math/bits.deBruijn64tab"], apart := false, laid := [("math/bits.deBruijn64tab", laid_math_bits_deBruijn64tab)], narrowed := true }
def FramesOwnUptoSaid : Prop := framesOwnUptoRow.holds Tryd.pinned (OpenSpec.upto framesOwnSpec)

/-- 'atlaslaw04.FramesCounts', WHERE WHAT IT READS IS OF BULK AT MOST 1048576: true; the input reads as it did. -/
def framesCountsUptoRow : OpenClaim := { program := "ythpodlcbikialaadoor", sum := "6f81f7f6a7015e4aac6b5a940f7fb7e4db9ecbbd8b911a56994c2cafaf397559", func := "atlas/atlaslaw04.FramesCounts", spec := "framesCounts", named := ["math/bits.deBruijn64tab"], apart := false, laid := [("math/bits.deBruijn64tab", laid_math_bits_deBruijn64tab)], narrowed := true }
def FramesCountsUptoSaid : Prop := framesCountsUptoRow.holds Tryd.pinned (OpenSpec.upto framesCountsSpec)

/-- 'atlaslaw04.FramesFresh', WHERE WHAT IT READS IS OF BULK AT MOST 1048576: true; the input reads as it did. -/
def framesFreshUptoRow : OpenClaim := { program := "ythpodlcbikialaadoor", sum := "6f81f7f6a7015e4aac6b5a940f7fb7e4db9ecbbd8b911a56994c2cafaf397559", func := "atlas/atlaslaw04.FramesFresh", spec := "framesFresh", named := ["math/bits.deBruijn64tab"], apart := false, laid := [("math/bits.deBruijn64tab", laid_math_bits_deBruijn64tab)], narrowed := true }
def FramesFreshUptoSaid : Prop := framesFreshUptoRow.holds Tryd.pinned (OpenSpec.upto framesFreshSpec)

/-- 'atlaslaw04.FramesTables', WHERE WHAT IT READS IS OF BULK AT MOST 1048576: true; the input reads as it did. -/
def framesTablesUptoRow : OpenClaim := { program := "ythpodlcbikialaadoor", sum := "6f81f7f6a7015e4aac6b5a940f7fb7e4db9ecbbd8b911a56994c2cafaf397559", func := "atlas/atlaslaw04.FramesTables", spec := "framesTables", named := ["math/bits.deBruijn64tab"], apart := false, laid := [("math/bits.deBruijn64tab", laid_math_bits_deBruijn64tab)], narrowed := true }
def FramesTablesUptoSaid : Prop := framesTablesUptoRow.holds Tryd.pinned (OpenSpec.upto framesTablesSpec)

/-- 'atlaslaw04.FramesPlays', WHERE WHAT IT READS IS OF BULK AT MOST 1048576: true; the input reads as it did. -/
def framesPlaysUptoRow : OpenClaim := { program := "ythpodlcbikialaadoor", sum := "6f81f7f6a7015e4aac6b5a940f7fb7e4db9ecbbd8b911a56994c2cafaf397559", func := "atlas/atlaslaw04.FramesPlays", spec := "framesPlays", named := ["math/bits.deBruijn64tab"], apart := false, laid := [("math/bits.deBruijn64tab", laid_math_bits_deBruijn64tab)], narrowed := true }
def FramesPlaysUptoSaid : Prop := framesPlaysUptoRow.holds Tryd.pinned (OpenSpec.upto framesPlaysSpec)

/-- 'atlaslaw30.ConsoleBytes', WHERE WHAT IT READS IS OF BULK AT MOST 1048576: true; the input reads as it did. -/
def consoleBytesUptoRow : OpenClaim := { program := "ythpodlcbikialaadoor", sum := "6f81f7f6a7015e4aac6b5a940f7fb7e4db9ecbbd8b911a56994c2cafaf397559", func := "atlas/atlaslaw30.ConsoleBytes", spec := "consoleBytes", named := ["strconv.ErrSyntax", "strconv.ErrRange", "internal/strconv.uint64pow10", "math/bits.deBruijn32tab", "math/bits.deBruijn64tab"], apart := false, laid := [("math/bits.deBruijn32tab", laid_math_bits_deBruijn32tab), ("math/bits.deBruijn64tab", laid_math_bits_deBruijn64tab), ("internal/strconv.uint64pow10", laid_internal_strconv_uint64pow10), ("strconv.ErrRange", laid_strconv_ErrRange), ("strconv.ErrSyntax", laid_strconv_ErrSyntax)], narrowed := true }
def ConsoleBytesUptoSaid : Prop := consoleBytesUptoRow.holds Tryd.pinned (OpenSpec.upto consoleBytesSpec)

end Rows
end Go.Proofs.YthpodlcbikialaaDoor
