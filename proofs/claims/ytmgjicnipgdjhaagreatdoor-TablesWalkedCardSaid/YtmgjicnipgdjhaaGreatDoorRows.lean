/-
  NARROWER THAN 'FOR EVERY INPUT', by the rows' own cells (each row's printed sentence says how): TablesWalked: laid · TablesBack: laid · TablesFresh: laid · TablesCount: laid · TablesRefused: laid · TablesUnseen: laid.
  DERIVED. THE GIVEN ROWS OF THIS SEAT. 6 by the template 'for every input the law returns true; each argument reads behind the call as it read before'; 0 by the template 'total and deterministic' (their statements: YtmgjicnipgdjhaaGreatDoorTotals.lean).
  GIVEN WITH THE SEED: the statements are not yours to turn. If you find one false, say at which input.
  Laid BY PROGRAM, IN A SANDBOX (cutbox-rows.mjs): the forced cells as the released guide's own fill.sh prints them over the translation 897044bb9d1e4edf… (all of the seat's roots in one cut). By AI agents, Wed Nov 11 2026. No macro, syntax, notation, axiom, sorry.
-/
import Derived.Test.YtmgjicnipgdjhaaGreatDoorChecked
import GoSem.Claim
import GoSem.ClaimJoined
import GoSem.ClaimMapViews
import Derived.JoinedTies
import Derived.KernelRfl
namespace Go.Proofs.YtmgjicnipgdjhaaGreatDoor
/- THE CELL 'sum', in the pinned program and in every row, IS THE sha256 OF THE DUMP (.gsa) THAT YtmgjicnipgdjhaaGreatDoorProg.lean LOADS. Nothing in Lean hashes anything: it is a label: what it is worth is what the hold of that sum in a sandbox is worth. -/
noncomputable def Tryz.pinned : Pinned := { name := "ytmgjicnipgdjhaagreatdoor", sum := "897044bb9d1e4edf3ed19de3cee33845a1b4347feef7da25b797850880470291", checked := Tryz.checked }
namespace Rows
def none {H : Type} : Left H := { results := [], args := [] }

/- WHAT THE LISTED PACKAGE-LEVEL VARIABLES READ AS WHEN THE CALL BEGINS. Each datum BY PROGRAM (the guide's laid-datum.mjs) off the statement by which the dump's own 'gosem.cut.vars' lays the variable. In a bare row this is a premise. The card (YtmgjicnipgdjhaaGreatDoorCards.lean) ties it to the program's text. -/
def laid_math_bits_deBruijn64tab {H : Type} : DataW H := .agg [.lit (.int .u8 0), .lit (.int .u8 1), .lit (.int .u8 56), .lit (.int .u8 2), .lit (.int .u8 57), .lit (.int .u8 49), .lit (.int .u8 28), .lit (.int .u8 3), .lit (.int .u8 61), .lit (.int .u8 58), .lit (.int .u8 42), .lit (.int .u8 50), .lit (.int .u8 38), .lit (.int .u8 29), .lit (.int .u8 17), .lit (.int .u8 4), .lit (.int .u8 62), .lit (.int .u8 47), .lit (.int .u8 59), .lit (.int .u8 36), .lit (.int .u8 45), .lit (.int .u8 43), .lit (.int .u8 51), .lit (.int .u8 22), .lit (.int .u8 53), .lit (.int .u8 39), .lit (.int .u8 33), .lit (.int .u8 30), .lit (.int .u8 24), .lit (.int .u8 18), .lit (.int .u8 12), .lit (.int .u8 5), .lit (.int .u8 63), .lit (.int .u8 55), .lit (.int .u8 48), .lit (.int .u8 27), .lit (.int .u8 60), .lit (.int .u8 41), .lit (.int .u8 37), .lit (.int .u8 16), .lit (.int .u8 46), .lit (.int .u8 35), .lit (.int .u8 44), .lit (.int .u8 21), .lit (.int .u8 52), .lit (.int .u8 32), .lit (.int .u8 23), .lit (.int .u8 11), .lit (.int .u8 54), .lit (.int .u8 26), .lit (.int .u8 40), .lit (.int .u8 15), .lit (.int .u8 34), .lit (.int .u8 20), .lit (.int .u8 31), .lit (.int .u8 10), .lit (.int .u8 25), .lit (.int .u8 14), .lit (.int .u8 19), .lit (.int .u8 9), .lit (.int .u8 13), .lit (.int .u8 8), .lit (.int .u8 7), .lit (.int .u8 6)]
def laid_atlas_cp15_rules {H : Type} : DataW H := .agg [.agg [.agg [.lit (.int .i64 1), .lit (.int .i64 0), .lit (.int .i64 0), .lit (.int .i64 0)], .lit (.int .u32 805306369), .lit (.int .u32 0)], .agg [.agg [.lit (.int .i64 2), .lit (.int .i64 0), .lit (.int .i64 0), .lit (.int .i64 0)], .lit (.int .u32 4294967168), .lit (.int .u32 0)], .agg [.agg [.lit (.int .i64 2), .lit (.int .i64 0), .lit (.int .i64 0), .lit (.int .i64 1)], .lit (.int .u32 4294950912), .lit (.int .u32 0)], .agg [.agg [.lit (.int .i64 2), .lit (.int .i64 0), .lit (.int .i64 0), .lit (.int .i64 2)], .lit (.int .u32 55), .lit (.int .u32 0)], .agg [.agg [.lit (.int .i64 3), .lit (.int .i64 0), .lit (.int .i64 0), .lit (.int .i64 0)], .lit (.int .u32 4294967295), .lit (.int .u32 0)], .agg [.agg [.lit (.int .i64 5), .lit (.int .i64 0), .lit (.int .i64 0), .lit (.int .i64 0)], .lit (.int .u32 7423), .lit (.int .u32 0)], .agg [.agg [.lit (.int .i64 5), .lit (.int .i64 0), .lit (.int .i64 0), .lit (.int .i64 1)], .lit (.int .u32 5135), .lit (.int .u32 0)], .agg [.agg [.lit (.int .i64 6), .lit (.int .i64 0), .lit (.int .i64 0), .lit (.int .i64 0)], .lit (.int .u32 4294967295), .lit (.int .u32 0)], .agg [.agg [.lit (.int .i64 6), .lit (.int .i64 0), .lit (.int .i64 0), .lit (.int .i64 2)], .lit (.int .u32 4294967295), .lit (.int .u32 0)], .agg [.agg [.lit (.int .i64 7), .lit (.int .i64 0), .lit (.int .i64 4), .lit (.int .i64 0)], .lit (.int .u32 4294967295), .lit (.int .u32 0)], .agg [.agg [.lit (.int .i64 10), .lit (.int .i64 0), .lit (.int .i64 2), .lit (.int .i64 0)], .lit (.int .u32 4279238655), .lit (.int .u32 625316)], .agg [.agg [.lit (.int .i64 10), .lit (.int .i64 0), .lit (.int .i64 2), .lit (.int .i64 1)], .lit (.int .u32 4294967295), .lit (.int .u32 1155549408)], .agg [.agg [.lit (.int .i64 13), .lit (.int .i64 0), .lit (.int .i64 0), .lit (.int .i64 1)], .lit (.int .u32 4294967295), .lit (.int .u32 0)]]
def laid_atlas_desc_shifts {H : Type} : DataW H := .agg [.lit (.int .u64 0), .lit (.int .u64 12), .lit (.int .u64 16), .lit (.int .u64 20), .lit (.int .u64 24)]
def laid_atlas_desc_kinds {H : Type} : DataW H := .agg [.lit (.int .i64 0), .lit (.int .i64 5), .lit (.int .i64 4), .lit (.int .i64 2), .lit (.int .i64 3)]
def laid_atlas_rights_plain {H : Type} : DataW H := .agg [.agg [.lit (.int .i64 0), .lit (.int .i64 0)], .agg [.lit (.int .i64 0), .lit (.int .i64 3)], .agg [.lit (.int .i64 1), .lit (.int .i64 3)], .agg [.lit (.int .i64 3), .lit (.int .i64 3)], .agg [.lit (.int .i64 0), .lit (.int .i64 0)], .agg [.lit (.int .i64 0), .lit (.int .i64 1)], .agg [.lit (.int .i64 1), .lit (.int .i64 1)], .agg [.lit (.int .i64 1), .lit (.int .i64 1)]]
def laid_atlas_rights_flagged {H : Type} : DataW H := .agg [.agg [.lit (.int .i64 0), .lit (.int .i64 3)], .agg [.lit (.int .i64 3), .lit (.int .i64 3)], .agg [.lit (.int .i64 0), .lit (.int .i64 1)], .agg [.lit (.int .i64 1), .lit (.int .i64 1)]]
def laid_atlas_attr_plain {H : Type} : DataW H := .agg [.agg [.lit (.bool true), .lit (.int .i64 0), .lit (.int .i64 0), .lit (.int .i64 0), .lit (.int .i64 2)], .agg [.lit (.bool true), .lit (.int .i64 1), .lit (.int .i64 0), .lit (.int .i64 0), .lit (.int .i64 2)], .agg [.lit (.bool true), .lit (.int .i64 2), .lit (.int .i64 2), .lit (.int .i64 2), .lit (.int .i64 0)], .agg [.lit (.bool true), .lit (.int .i64 2), .lit (.int .i64 3), .lit (.int .i64 3), .lit (.int .i64 0)], .agg [.lit (.bool true), .lit (.int .i64 2), .lit (.int .i64 0), .lit (.int .i64 0), .lit (.int .i64 0)], .agg [.lit (.bool false), .lit (.int .i64 0), .lit (.int .i64 0), .lit (.int .i64 0), .lit (.int .i64 0)], .agg [.lit (.bool false), .lit (.int .i64 0), .lit (.int .i64 0), .lit (.int .i64 0), .lit (.int .i64 0)], .agg [.lit (.bool true), .lit (.int .i64 2), .lit (.int .i64 1), .lit (.int .i64 1), .lit (.int .i64 0)], .agg [.lit (.bool true), .lit (.int .i64 1), .lit (.int .i64 0), .lit (.int .i64 0), .lit (.int .i64 0)], .agg [.lit (.bool false), .lit (.int .i64 0), .lit (.int .i64 0), .lit (.int .i64 0), .lit (.int .i64 0)], .agg [.lit (.bool false), .lit (.int .i64 0), .lit (.int .i64 0), .lit (.int .i64 0), .lit (.int .i64 0)], .agg [.lit (.bool false), .lit (.int .i64 0), .lit (.int .i64 0), .lit (.int .i64 0), .lit (.int .i64 0)], .agg [.lit (.bool false), .lit (.int .i64 0), .lit (.int .i64 0), .lit (.int .i64 0), .lit (.int .i64 0)], .agg [.lit (.bool false), .lit (.int .i64 0), .lit (.int .i64 0), .lit (.int .i64 0), .lit (.int .i64 0)], .agg [.lit (.bool false), .lit (.int .i64 0), .lit (.int .i64 0), .lit (.int .i64 0), .lit (.int .i64 0)], .agg [.lit (.bool false), .lit (.int .i64 0), .lit (.int .i64 0), .lit (.int .i64 0), .lit (.int .i64 0)]]

/-- 'atlaslaw14.TablesWalked': WHATEVER THE INPUT: true; the input reads as it did. -/
def tablesWalkedSpec : ChangeSpec := { name := "tablesWalked", fn := fun _ => fun
  | [d1, d2] => { results := [.lit (.bool true)], args := [d1, d2] }
  | _ => none }
def tablesWalkedRow : OpenClaim := { program := "ytmgjicnipgdjhaagreatdoor", sum := "897044bb9d1e4edf3ed19de3cee33845a1b4347feef7da25b797850880470291", func := "atlas/atlaslaw14.TablesWalked", spec := "tablesWalked", inPlace := ["slices.overlaps[atlas/api.Trans]"], unfollowed := true, recurses := true, named := ["atlas/cp15.rules", "math/bits.deBruijn64tab", "atlas/desc.shifts", "atlas/desc.kinds", "atlas/rights.plain", "atlas/rights.flagged", "atlas/attr.plain"], plainKeys := false, apart := false, laid := [("math/bits.deBruijn64tab", laid_math_bits_deBruijn64tab), ("atlas/cp15.rules", laid_atlas_cp15_rules), ("atlas/desc.shifts", laid_atlas_desc_shifts), ("atlas/desc.kinds", laid_atlas_desc_kinds), ("atlas/rights.plain", laid_atlas_rights_plain), ("atlas/rights.flagged", laid_atlas_rights_flagged), ("atlas/attr.plain", laid_atlas_attr_plain)] }
def TablesWalkedSaid : Prop := tablesWalkedRow.holds Tryz.pinned (OpenSpec.ofChange tablesWalkedSpec)

/-- ITS FALSE NEIGHBOUR: 'it returns false'. Refute it at one input. -/
def tablesWalkedWrong : ChangeSpec := { name := "tablesWalked", fn := fun _ => fun
  | [d1, d2] => { results := [.lit (.bool false)], args := [d1, d2] }
  | _ => none }
def TablesWalkedWrongFalsely : Prop := tablesWalkedRow.holds Tryz.pinned (OpenSpec.ofChange tablesWalkedWrong)

/-- 'atlaslaw14.TablesBack': WHATEVER THE INPUT: true; the input reads as it did. -/
def tablesBackSpec : ChangeSpec := { name := "tablesBack", fn := fun _ => fun
  | [d1, d2] => { results := [.lit (.bool true)], args := [d1, d2] }
  | _ => none }
def tablesBackRow : OpenClaim := { program := "ytmgjicnipgdjhaagreatdoor", sum := "897044bb9d1e4edf3ed19de3cee33845a1b4347feef7da25b797850880470291", func := "atlas/atlaslaw14.TablesBack", spec := "tablesBack", inPlace := ["slices.overlaps[atlas/api.Trans]"], unfollowed := true, recurses := true, named := ["atlas/cp15.rules", "math/bits.deBruijn64tab", "atlas/desc.shifts", "atlas/desc.kinds", "atlas/rights.plain", "atlas/rights.flagged", "atlas/attr.plain"], plainKeys := false, apart := false, laid := [("math/bits.deBruijn64tab", laid_math_bits_deBruijn64tab), ("atlas/cp15.rules", laid_atlas_cp15_rules), ("atlas/desc.shifts", laid_atlas_desc_shifts), ("atlas/desc.kinds", laid_atlas_desc_kinds), ("atlas/rights.plain", laid_atlas_rights_plain), ("atlas/rights.flagged", laid_atlas_rights_flagged), ("atlas/attr.plain", laid_atlas_attr_plain)] }
def TablesBackSaid : Prop := tablesBackRow.holds Tryz.pinned (OpenSpec.ofChange tablesBackSpec)

/-- ITS FALSE NEIGHBOUR: 'it returns false'. Refute it at one input. -/
def tablesBackWrong : ChangeSpec := { name := "tablesBack", fn := fun _ => fun
  | [d1, d2] => { results := [.lit (.bool false)], args := [d1, d2] }
  | _ => none }
def TablesBackWrongFalsely : Prop := tablesBackRow.holds Tryz.pinned (OpenSpec.ofChange tablesBackWrong)

/-- 'atlaslaw14.TablesFresh': WHATEVER THE INPUT: true; the input reads as it did. -/
def tablesFreshSpec : ChangeSpec := { name := "tablesFresh", fn := fun _ => fun
  | [d1, d2, d3] => { results := [.lit (.bool true)], args := [d1, d2, d3] }
  | _ => none }
def tablesFreshRow : OpenClaim := { program := "ytmgjicnipgdjhaagreatdoor", sum := "897044bb9d1e4edf3ed19de3cee33845a1b4347feef7da25b797850880470291", func := "atlas/atlaslaw14.TablesFresh", spec := "tablesFresh", inPlace := ["slices.overlaps[atlas/api.Trans]"], unfollowed := true, recurses := true, named := ["atlas/cp15.rules", "math/bits.deBruijn64tab", "atlas/desc.shifts", "atlas/desc.kinds", "atlas/rights.plain", "atlas/rights.flagged", "atlas/attr.plain"], plainKeys := false, apart := false, laid := [("math/bits.deBruijn64tab", laid_math_bits_deBruijn64tab), ("atlas/cp15.rules", laid_atlas_cp15_rules), ("atlas/desc.shifts", laid_atlas_desc_shifts), ("atlas/desc.kinds", laid_atlas_desc_kinds), ("atlas/rights.plain", laid_atlas_rights_plain), ("atlas/rights.flagged", laid_atlas_rights_flagged), ("atlas/attr.plain", laid_atlas_attr_plain)] }
def TablesFreshSaid : Prop := tablesFreshRow.holds Tryz.pinned (OpenSpec.ofChange tablesFreshSpec)

/-- ITS FALSE NEIGHBOUR: 'it returns false'. Refute it at one input. -/
def tablesFreshWrong : ChangeSpec := { name := "tablesFresh", fn := fun _ => fun
  | [d1, d2, d3] => { results := [.lit (.bool false)], args := [d1, d2, d3] }
  | _ => none }
def TablesFreshWrongFalsely : Prop := tablesFreshRow.holds Tryz.pinned (OpenSpec.ofChange tablesFreshWrong)

/-- 'atlaslaw14.TablesCount': WHATEVER THE INPUT: true; the input reads as it did. -/
def tablesCountSpec : ChangeSpec := { name := "tablesCount", fn := fun _ => fun
  | [d1, d2] => { results := [.lit (.bool true)], args := [d1, d2] }
  | _ => none }
def tablesCountRow : OpenClaim := { program := "ytmgjicnipgdjhaagreatdoor", sum := "897044bb9d1e4edf3ed19de3cee33845a1b4347feef7da25b797850880470291", func := "atlas/atlaslaw14.TablesCount", spec := "tablesCount", inPlace := ["slices.overlaps[atlas/api.Trans]"], unfollowed := true, recurses := true, named := ["atlas/cp15.rules", "math/bits.deBruijn64tab", "atlas/desc.shifts", "atlas/desc.kinds", "atlas/rights.plain", "atlas/rights.flagged", "atlas/attr.plain"], plainKeys := false, apart := false, laid := [("math/bits.deBruijn64tab", laid_math_bits_deBruijn64tab), ("atlas/cp15.rules", laid_atlas_cp15_rules), ("atlas/desc.shifts", laid_atlas_desc_shifts), ("atlas/desc.kinds", laid_atlas_desc_kinds), ("atlas/rights.plain", laid_atlas_rights_plain), ("atlas/rights.flagged", laid_atlas_rights_flagged), ("atlas/attr.plain", laid_atlas_attr_plain)] }
def TablesCountSaid : Prop := tablesCountRow.holds Tryz.pinned (OpenSpec.ofChange tablesCountSpec)

/-- ITS FALSE NEIGHBOUR: 'it returns false'. Refute it at one input. -/
def tablesCountWrong : ChangeSpec := { name := "tablesCount", fn := fun _ => fun
  | [d1, d2] => { results := [.lit (.bool false)], args := [d1, d2] }
  | _ => none }
def TablesCountWrongFalsely : Prop := tablesCountRow.holds Tryz.pinned (OpenSpec.ofChange tablesCountWrong)

/-- 'atlaslaw14.TablesRefused': WHATEVER THE INPUT: true; the input reads as it did. -/
def tablesRefusedSpec : ChangeSpec := { name := "tablesRefused", fn := fun _ => fun
  | [d1, d2] => { results := [.lit (.bool true)], args := [d1, d2] }
  | _ => none }
def tablesRefusedRow : OpenClaim := { program := "ytmgjicnipgdjhaagreatdoor", sum := "897044bb9d1e4edf3ed19de3cee33845a1b4347feef7da25b797850880470291", func := "atlas/atlaslaw14.TablesRefused", spec := "tablesRefused", inPlace := ["slices.overlaps[atlas/api.Trans]"], unfollowed := true, recurses := true, named := ["atlas/cp15.rules", "math/bits.deBruijn64tab", "atlas/desc.shifts", "atlas/desc.kinds", "atlas/rights.plain", "atlas/rights.flagged", "atlas/attr.plain"], plainKeys := false, apart := false, laid := [("math/bits.deBruijn64tab", laid_math_bits_deBruijn64tab), ("atlas/cp15.rules", laid_atlas_cp15_rules), ("atlas/desc.shifts", laid_atlas_desc_shifts), ("atlas/desc.kinds", laid_atlas_desc_kinds), ("atlas/rights.plain", laid_atlas_rights_plain), ("atlas/rights.flagged", laid_atlas_rights_flagged), ("atlas/attr.plain", laid_atlas_attr_plain)] }
def TablesRefusedSaid : Prop := tablesRefusedRow.holds Tryz.pinned (OpenSpec.ofChange tablesRefusedSpec)

/-- ITS FALSE NEIGHBOUR: 'it returns false'. Refute it at one input. -/
def tablesRefusedWrong : ChangeSpec := { name := "tablesRefused", fn := fun _ => fun
  | [d1, d2] => { results := [.lit (.bool false)], args := [d1, d2] }
  | _ => none }
def TablesRefusedWrongFalsely : Prop := tablesRefusedRow.holds Tryz.pinned (OpenSpec.ofChange tablesRefusedWrong)

/-- 'atlaslaw14.TablesUnseen': WHATEVER THE INPUT: true; the input reads as it did. -/
def tablesUnseenSpec : ChangeSpec := { name := "tablesUnseen", fn := fun _ => fun
  | [d1, d2, d3] => { results := [.lit (.bool true)], args := [d1, d2, d3] }
  | _ => none }
def tablesUnseenRow : OpenClaim := { program := "ytmgjicnipgdjhaagreatdoor", sum := "897044bb9d1e4edf3ed19de3cee33845a1b4347feef7da25b797850880470291", func := "atlas/atlaslaw14.TablesUnseen", spec := "tablesUnseen", inPlace := ["slices.overlaps[atlas/api.Trans]"], unfollowed := true, recurses := true, named := ["atlas/cp15.rules", "math/bits.deBruijn64tab", "atlas/desc.shifts", "atlas/desc.kinds", "atlas/rights.plain", "atlas/rights.flagged", "atlas/attr.plain"], plainKeys := false, apart := false, laid := [("math/bits.deBruijn64tab", laid_math_bits_deBruijn64tab), ("atlas/cp15.rules", laid_atlas_cp15_rules), ("atlas/desc.shifts", laid_atlas_desc_shifts), ("atlas/desc.kinds", laid_atlas_desc_kinds), ("atlas/rights.plain", laid_atlas_rights_plain), ("atlas/rights.flagged", laid_atlas_rights_flagged), ("atlas/attr.plain", laid_atlas_attr_plain)] }
def TablesUnseenSaid : Prop := tablesUnseenRow.holds Tryz.pinned (OpenSpec.ofChange tablesUnseenSpec)

/-- ITS FALSE NEIGHBOUR: 'it returns false'. Refute it at one input. -/
def tablesUnseenWrong : ChangeSpec := { name := "tablesUnseen", fn := fun _ => fun
  | [d1, d2, d3] => { results := [.lit (.bool false)], args := [d1, d2, d3] }
  | _ => none }
def TablesUnseenWrongFalsely : Prop := tablesUnseenRow.holds Tryz.pinned (OpenSpec.ofChange tablesUnseenWrong)

/- THE SECOND FORM. 'bulk': how many values and letters a reading holds, each counted each time it is reached (what is shared counts as often as it is met; a slice's spare places count too). A statement '..UptoSaid' is the law's where the arguments, and the package variables that the reading takes, are together of bulk at most 1048576: NARROWER than '..Said'. Prove '..Said' where nothing that the law and all that it calls make is longer than what came in: it says more and counts as full. Else prove '..UptoSaid'. A law counts once. -/
mutual
def uptoBulk {H : Type} : DataW H → Nat
  | .lit (.string bytes) => bytes.length + 1
  | .lit _ => 1
  | .nil => 1
  | .ptr d => uptoBulk d + 1
  | .slice elems spare => uptoBulkAll elems + uptoBulkAll spare + 1
  | .agg parts => uptoBulkAll parts + 1
  | .iface _ d => uptoBulk d + 1
  | .map entries => uptoBulkEntries entries + 1
  | .held _ => 1
def uptoBulkAll {H : Type} : List (DataW H) → Nat
  | [] => 0
  | d :: r => uptoBulk d + uptoBulkAll r
def uptoBulkEntries {H : Type} : List (Lit × DataW H) → Nat
  | [] => 0
  | x :: r => uptoBulkEntry x + uptoBulkEntries r
def uptoBulkEntry {H : Type} : Lit × DataW H → Nat
  | (.string bytes, d) => bytes.length + uptoBulk d + 1
  | (_, d) => uptoBulk d + 1
 end
def uptoSmall : (H : Type) → List (DataW H) → Bool := fun _ ds => decide (uptoBulkAll ds ≤ 1048576)
def OpenSpec.upto (s : _root_.Go.ChangeSpec) : _root_.Go.OpenSpec := { _root_.Go.OpenSpec.ofChange s with cond := some uptoSmall }

/-- 'atlaslaw14.TablesWalked', WHERE WHAT IT READS IS OF BULK AT MOST 1048576: true; the input reads as it did. -/
def tablesWalkedUptoRow : OpenClaim := { program := "ytmgjicnipgdjhaagreatdoor", sum := "897044bb9d1e4edf3ed19de3cee33845a1b4347feef7da25b797850880470291", func := "atlas/atlaslaw14.TablesWalked", spec := "tablesWalked", inPlace := ["slices.overlaps[atlas/api.Trans]"], unfollowed := true, recurses := true, named := ["atlas/cp15.rules", "math/bits.deBruijn64tab", "atlas/desc.shifts", "atlas/desc.kinds", "atlas/rights.plain", "atlas/rights.flagged", "atlas/attr.plain"], plainKeys := false, apart := false, laid := [("math/bits.deBruijn64tab", laid_math_bits_deBruijn64tab), ("atlas/cp15.rules", laid_atlas_cp15_rules), ("atlas/desc.shifts", laid_atlas_desc_shifts), ("atlas/desc.kinds", laid_atlas_desc_kinds), ("atlas/rights.plain", laid_atlas_rights_plain), ("atlas/rights.flagged", laid_atlas_rights_flagged), ("atlas/attr.plain", laid_atlas_attr_plain)], narrowed := true }
def TablesWalkedUptoSaid : Prop := tablesWalkedUptoRow.holds Tryz.pinned (OpenSpec.upto tablesWalkedSpec)

/-- 'atlaslaw14.TablesBack', WHERE WHAT IT READS IS OF BULK AT MOST 1048576: true; the input reads as it did. -/
def tablesBackUptoRow : OpenClaim := { program := "ytmgjicnipgdjhaagreatdoor", sum := "897044bb9d1e4edf3ed19de3cee33845a1b4347feef7da25b797850880470291", func := "atlas/atlaslaw14.TablesBack", spec := "tablesBack", inPlace := ["slices.overlaps[atlas/api.Trans]"], unfollowed := true, recurses := true, named := ["atlas/cp15.rules", "math/bits.deBruijn64tab", "atlas/desc.shifts", "atlas/desc.kinds", "atlas/rights.plain", "atlas/rights.flagged", "atlas/attr.plain"], plainKeys := false, apart := false, laid := [("math/bits.deBruijn64tab", laid_math_bits_deBruijn64tab), ("atlas/cp15.rules", laid_atlas_cp15_rules), ("atlas/desc.shifts", laid_atlas_desc_shifts), ("atlas/desc.kinds", laid_atlas_desc_kinds), ("atlas/rights.plain", laid_atlas_rights_plain), ("atlas/rights.flagged", laid_atlas_rights_flagged), ("atlas/attr.plain", laid_atlas_attr_plain)], narrowed := true }
def TablesBackUptoSaid : Prop := tablesBackUptoRow.holds Tryz.pinned (OpenSpec.upto tablesBackSpec)

/-- 'atlaslaw14.TablesFresh', WHERE WHAT IT READS IS OF BULK AT MOST 1048576: true; the input reads as it did. -/
def tablesFreshUptoRow : OpenClaim := { program := "ytmgjicnipgdjhaagreatdoor", sum := "897044bb9d1e4edf3ed19de3cee33845a1b4347feef7da25b797850880470291", func := "atlas/atlaslaw14.TablesFresh", spec := "tablesFresh", inPlace := ["slices.overlaps[atlas/api.Trans]"], unfollowed := true, recurses := true, named := ["atlas/cp15.rules", "math/bits.deBruijn64tab", "atlas/desc.shifts", "atlas/desc.kinds", "atlas/rights.plain", "atlas/rights.flagged", "atlas/attr.plain"], plainKeys := false, apart := false, laid := [("math/bits.deBruijn64tab", laid_math_bits_deBruijn64tab), ("atlas/cp15.rules", laid_atlas_cp15_rules), ("atlas/desc.shifts", laid_atlas_desc_shifts), ("atlas/desc.kinds", laid_atlas_desc_kinds), ("atlas/rights.plain", laid_atlas_rights_plain), ("atlas/rights.flagged", laid_atlas_rights_flagged), ("atlas/attr.plain", laid_atlas_attr_plain)], narrowed := true }
def TablesFreshUptoSaid : Prop := tablesFreshUptoRow.holds Tryz.pinned (OpenSpec.upto tablesFreshSpec)

/-- 'atlaslaw14.TablesCount', WHERE WHAT IT READS IS OF BULK AT MOST 1048576: true; the input reads as it did. -/
def tablesCountUptoRow : OpenClaim := { program := "ytmgjicnipgdjhaagreatdoor", sum := "897044bb9d1e4edf3ed19de3cee33845a1b4347feef7da25b797850880470291", func := "atlas/atlaslaw14.TablesCount", spec := "tablesCount", inPlace := ["slices.overlaps[atlas/api.Trans]"], unfollowed := true, recurses := true, named := ["atlas/cp15.rules", "math/bits.deBruijn64tab", "atlas/desc.shifts", "atlas/desc.kinds", "atlas/rights.plain", "atlas/rights.flagged", "atlas/attr.plain"], plainKeys := false, apart := false, laid := [("math/bits.deBruijn64tab", laid_math_bits_deBruijn64tab), ("atlas/cp15.rules", laid_atlas_cp15_rules), ("atlas/desc.shifts", laid_atlas_desc_shifts), ("atlas/desc.kinds", laid_atlas_desc_kinds), ("atlas/rights.plain", laid_atlas_rights_plain), ("atlas/rights.flagged", laid_atlas_rights_flagged), ("atlas/attr.plain", laid_atlas_attr_plain)], narrowed := true }
def TablesCountUptoSaid : Prop := tablesCountUptoRow.holds Tryz.pinned (OpenSpec.upto tablesCountSpec)

/-- 'atlaslaw14.TablesRefused', WHERE WHAT IT READS IS OF BULK AT MOST 1048576: true; the input reads as it did. -/
def tablesRefusedUptoRow : OpenClaim := { program := "ytmgjicnipgdjhaagreatdoor", sum := "897044bb9d1e4edf3ed19de3cee33845a1b4347feef7da25b797850880470291", func := "atlas/atlaslaw14.TablesRefused", spec := "tablesRefused", inPlace := ["slices.overlaps[atlas/api.Trans]"], unfollowed := true, recurses := true, named := ["atlas/cp15.rules", "math/bits.deBruijn64tab", "atlas/desc.shifts", "atlas/desc.kinds", "atlas/rights.plain", "atlas/rights.flagged", "atlas/attr.plain"], plainKeys := false, apart := false, laid := [("math/bits.deBruijn64tab", laid_math_bits_deBruijn64tab), ("atlas/cp15.rules", laid_atlas_cp15_rules), ("atlas/desc.shifts", laid_atlas_desc_shifts), ("atlas/desc.kinds", laid_atlas_desc_kinds), ("atlas/rights.plain", laid_atlas_rights_plain), ("atlas/rights.flagged", laid_atlas_rights_flagged), ("atlas/attr.plain", laid_atlas_attr_plain)], narrowed := true }
def TablesRefusedUptoSaid : Prop := tablesRefusedUptoRow.holds Tryz.pinned (OpenSpec.upto tablesRefusedSpec)

/-- 'atlaslaw14.TablesUnseen', WHERE WHAT IT READS IS OF BULK AT MOST 1048576: true; the input reads as it did. -/
def tablesUnseenUptoRow : OpenClaim := { program := "ytmgjicnipgdjhaagreatdoor", sum := "897044bb9d1e4edf3ed19de3cee33845a1b4347feef7da25b797850880470291", func := "atlas/atlaslaw14.TablesUnseen", spec := "tablesUnseen", inPlace := ["slices.overlaps[atlas/api.Trans]"], unfollowed := true, recurses := true, named := ["atlas/cp15.rules", "math/bits.deBruijn64tab", "atlas/desc.shifts", "atlas/desc.kinds", "atlas/rights.plain", "atlas/rights.flagged", "atlas/attr.plain"], plainKeys := false, apart := false, laid := [("math/bits.deBruijn64tab", laid_math_bits_deBruijn64tab), ("atlas/cp15.rules", laid_atlas_cp15_rules), ("atlas/desc.shifts", laid_atlas_desc_shifts), ("atlas/desc.kinds", laid_atlas_desc_kinds), ("atlas/rights.plain", laid_atlas_rights_plain), ("atlas/rights.flagged", laid_atlas_rights_flagged), ("atlas/attr.plain", laid_atlas_attr_plain)], narrowed := true }
def TablesUnseenUptoSaid : Prop := tablesUnseenUptoRow.holds Tryz.pinned (OpenSpec.upto tablesUnseenSpec)

end Rows
end Go.Proofs.YtmgjicnipgdjhaaGreatDoor
