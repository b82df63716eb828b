/-
  DERIVED. GIVEN WITH THE SEED: THE PROGRAM's TIES (one call each: nine closed facts by the kernel) AND EACH ROW's TIE, after the 31st guide's Derived/Test/Toyas{Tie, Card}.lean. No idea stands in it: it is a product of the set-up. Laid BY PROGRAM, IN A SANDBOX (cutbox-door.mjs). By AI agents, Wed Nov 11 2026. No macro, syntax, notation, axiom, sorry.
-/
import Derived.Test.YtmgjicnipgdjhaaGreatDoorRows
import Derived.LaidByTextLater
import Derived.SevenTiedAt
import Derived.LaidSub
import Derived.LaidOnce
namespace Go.Proofs.YtmgjicnipgdjhaaGreatDoor
open Go
set_option maxRecDepth 100000
theorem seatTie1 : Tryz.prog.laidByTextLater [("math/bits.deBruijn64tab", Rows.laid_math_bits_deBruijn64tab), ("atlas/cp15.rules", Rows.laid_atlas_cp15_rules), ("atlas/desc.shifts", Rows.laid_atlas_desc_shifts), ("atlas/desc.kinds", Rows.laid_atlas_desc_kinds), ("atlas/rights.plain", Rows.laid_atlas_rights_plain), ("atlas/rights.flagged", Rows.laid_atlas_rights_flagged), ("atlas/attr.plain", Rows.laid_atlas_attr_plain)] [.data, .data, .data, .data, .data, .data, .data] true :=
  Program.laidByTextLater_by_one 89 8 81 (by kernel_rfl) (by kernel_rfl) (by kernel_rfl) (by kernel_rfl) (by kernel_rfl) (by kernel_rfl) (fun _ _ => by kernel_rfl)
theorem noOwnUnsafe : Tryz.pinned.checked.prog.headLifts.contains "ownunsafe" = false := by kernel_rfl
theorem tie : Tryz.prog.laidByTextLater [("math/bits.deBruijn64tab", Rows.laid_math_bits_deBruijn64tab), ("atlas/cp15.rules", Rows.laid_atlas_cp15_rules), ("atlas/desc.shifts", Rows.laid_atlas_desc_shifts), ("atlas/desc.kinds", Rows.laid_atlas_desc_kinds), ("atlas/rights.plain", Rows.laid_atlas_rights_plain), ("atlas/rights.flagged", Rows.laid_atlas_rights_flagged), ("atlas/attr.plain", Rows.laid_atlas_attr_plain)] [.data, .data, .data, .data, .data, .data, .data] true :=
  Program.laidByTextLater.sub seatTie1 ["math/bits.deBruijn64tab", "atlas/cp15.rules", "atlas/desc.shifts", "atlas/desc.kinds", "atlas/rights.plain", "atlas/rights.flagged", "atlas/attr.plain"] (by kernel_rfl) (by kernel_rfl)
theorem tablesWalked_row_tie : Rows.tablesWalkedRow.laidByTextAt .later Tryz.pinned [.data, .data, .data, .data, .data, .data, .data] true :=
  OpenClaim.laidByTextAt_later rfl rfl tie noOwnUnsafe
theorem tablesBack_row_tie : Rows.tablesBackRow.laidByTextAt .later Tryz.pinned [.data, .data, .data, .data, .data, .data, .data] true :=
  OpenClaim.laidByTextAt_later rfl rfl tie noOwnUnsafe
theorem tablesFresh_row_tie : Rows.tablesFreshRow.laidByTextAt .later Tryz.pinned [.data, .data, .data, .data, .data, .data, .data] true :=
  OpenClaim.laidByTextAt_later rfl rfl tie noOwnUnsafe
theorem tablesCount_row_tie : Rows.tablesCountRow.laidByTextAt .later Tryz.pinned [.data, .data, .data, .data, .data, .data, .data] true :=
  OpenClaim.laidByTextAt_later rfl rfl tie noOwnUnsafe
theorem tablesRefused_row_tie : Rows.tablesRefusedRow.laidByTextAt .later Tryz.pinned [.data, .data, .data, .data, .data, .data, .data] true :=
  OpenClaim.laidByTextAt_later rfl rfl tie noOwnUnsafe
theorem tablesUnseen_row_tie : Rows.tablesUnseenRow.laidByTextAt .later Tryz.pinned [.data, .data, .data, .data, .data, .data, .data] true :=
  OpenClaim.laidByTextAt_later rfl rfl tie noOwnUnsafe
theorem tablesWalkedUpto_row_tie : Rows.tablesWalkedUptoRow.laidByTextAt .later Tryz.pinned [.data, .data, .data, .data, .data, .data, .data] true :=
  OpenClaim.laidByTextAt_later rfl rfl tie noOwnUnsafe
theorem tablesBackUpto_row_tie : Rows.tablesBackUptoRow.laidByTextAt .later Tryz.pinned [.data, .data, .data, .data, .data, .data, .data] true :=
  OpenClaim.laidByTextAt_later rfl rfl tie noOwnUnsafe
theorem tablesFreshUpto_row_tie : Rows.tablesFreshUptoRow.laidByTextAt .later Tryz.pinned [.data, .data, .data, .data, .data, .data, .data] true :=
  OpenClaim.laidByTextAt_later rfl rfl tie noOwnUnsafe
theorem tablesCountUpto_row_tie : Rows.tablesCountUptoRow.laidByTextAt .later Tryz.pinned [.data, .data, .data, .data, .data, .data, .data] true :=
  OpenClaim.laidByTextAt_later rfl rfl tie noOwnUnsafe
theorem tablesRefusedUpto_row_tie : Rows.tablesRefusedUptoRow.laidByTextAt .later Tryz.pinned [.data, .data, .data, .data, .data, .data, .data] true :=
  OpenClaim.laidByTextAt_later rfl rfl tie noOwnUnsafe
theorem tablesUnseenUpto_row_tie : Rows.tablesUnseenUptoRow.laidByTextAt .later Tryz.pinned [.data, .data, .data, .data, .data, .data, .data] true :=
  OpenClaim.laidByTextAt_later rfl rfl tie noOwnUnsafe
end Go.Proofs.YtmgjicnipgdjhaaGreatDoor
