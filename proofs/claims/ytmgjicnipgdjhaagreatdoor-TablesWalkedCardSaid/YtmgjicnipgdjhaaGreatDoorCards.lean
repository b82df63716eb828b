/-
  DERIVED. GIVEN WITH THE SEED: THE CARDS: each row of YtmgjicnipgdjhaaGreatDoorRows.lean that lists a variable, with what it lists TIED to the program's text (the seventh form; the later family's looks); each row that meets fmt, with fmt's text TOLD by the authors' own Lean function (tested against real Go, not proved from fmt's source: count such statements apart). THE CARD IS WHAT COUNTS. Prove the row's statement (the work); the ties are given (YtmgjicnipgdjhaaGreatDoorTie.lean); close each card by the builder's one call (the guide's Derived/Test/ToyasCard.lean, 'card_holds'). Laid BY PROGRAM, IN A SANDBOX (cutbox-door.mjs). By AI agents, Wed Nov 11 2026. No macro, syntax, notation, axiom, sorry.
-/
import Derived.Test.YtmgjicnipgdjhaaGreatDoorRows
import GoSem.ClaimSeven
namespace Go.Proofs.YtmgjicnipgdjhaaGreatDoor
namespace Rows

/-- THE TIED CARD OF 'atlaslaw14.TablesWalked'. -/
def tablesWalkedCard : Claim7 := { stood := { row := tablesWalkedRow, standIns := [], harness := (true, "ca8ffcf12cb7c6657e0385e9b4c82b659debdd1bd1523d97f9ba2196798b61cd"), looks := true }, kinds := [], alts := [], laidByText := true, laidKinds := [.data, .data, .data, .data, .data, .data, .data], laidTests := true, laidLooks := .later }
def TablesWalkedCardSaid : Prop := Claim7.holds Tryz.pinned (.plain (OpenSpec.ofChange tablesWalkedSpec)) tablesWalkedCard

/-- THE TIED CARD OF 'atlaslaw14.TablesBack'. -/
def tablesBackCard : Claim7 := { stood := { row := tablesBackRow, standIns := [], harness := (true, "ca8ffcf12cb7c6657e0385e9b4c82b659debdd1bd1523d97f9ba2196798b61cd"), looks := true }, kinds := [], alts := [], laidByText := true, laidKinds := [.data, .data, .data, .data, .data, .data, .data], laidTests := true, laidLooks := .later }
def TablesBackCardSaid : Prop := Claim7.holds Tryz.pinned (.plain (OpenSpec.ofChange tablesBackSpec)) tablesBackCard

/-- THE TIED CARD OF 'atlaslaw14.TablesFresh'. -/
def tablesFreshCard : Claim7 := { stood := { row := tablesFreshRow, standIns := [], harness := (true, "ca8ffcf12cb7c6657e0385e9b4c82b659debdd1bd1523d97f9ba2196798b61cd"), looks := true }, kinds := [], alts := [], laidByText := true, laidKinds := [.data, .data, .data, .data, .data, .data, .data], laidTests := true, laidLooks := .later }
def TablesFreshCardSaid : Prop := Claim7.holds Tryz.pinned (.plain (OpenSpec.ofChange tablesFreshSpec)) tablesFreshCard

/-- THE TIED CARD OF 'atlaslaw14.TablesCount'. -/
def tablesCountCard : Claim7 := { stood := { row := tablesCountRow, standIns := [], harness := (true, "ca8ffcf12cb7c6657e0385e9b4c82b659debdd1bd1523d97f9ba2196798b61cd"), looks := true }, kinds := [], alts := [], laidByText := true, laidKinds := [.data, .data, .data, .data, .data, .data, .data], laidTests := true, laidLooks := .later }
def TablesCountCardSaid : Prop := Claim7.holds Tryz.pinned (.plain (OpenSpec.ofChange tablesCountSpec)) tablesCountCard

/-- THE TIED CARD OF 'atlaslaw14.TablesRefused'. -/
def tablesRefusedCard : Claim7 := { stood := { row := tablesRefusedRow, standIns := [], harness := (true, "ca8ffcf12cb7c6657e0385e9b4c82b659debdd1bd1523d97f9ba2196798b61cd"), looks := true }, kinds := [], alts := [], laidByText := true, laidKinds := [.data, .data, .data, .data, .data, .data, .data], laidTests := true, laidLooks := .later }
def TablesRefusedCardSaid : Prop := Claim7.holds Tryz.pinned (.plain (OpenSpec.ofChange tablesRefusedSpec)) tablesRefusedCard

/-- THE TIED CARD OF 'atlaslaw14.TablesUnseen'. -/
def tablesUnseenCard : Claim7 := { stood := { row := tablesUnseenRow, standIns := [], harness := (true, "ca8ffcf12cb7c6657e0385e9b4c82b659debdd1bd1523d97f9ba2196798b61cd"), looks := true }, kinds := [], alts := [], laidByText := true, laidKinds := [.data, .data, .data, .data, .data, .data, .data], laidTests := true, laidLooks := .later }
def TablesUnseenCardSaid : Prop := Claim7.holds Tryz.pinned (.plain (OpenSpec.ofChange tablesUnseenSpec)) tablesUnseenCard

/-- THE SECOND FORM's CARD OF 'atlaslaw14.TablesWalked'. -/
def tablesWalkedUptoCard : Claim7 := { stood := { row := tablesWalkedUptoRow, standIns := [], harness := (true, "ca8ffcf12cb7c6657e0385e9b4c82b659debdd1bd1523d97f9ba2196798b61cd"), looks := true }, kinds := [], alts := [], laidByText := true, laidKinds := [.data, .data, .data, .data, .data, .data, .data], laidTests := true, laidLooks := .later }
def TablesWalkedUptoCardSaid : Prop := Claim7.holds Tryz.pinned (.plain (OpenSpec.upto tablesWalkedSpec)) tablesWalkedUptoCard

/-- THE SECOND FORM's CARD OF 'atlaslaw14.TablesBack'. -/
def tablesBackUptoCard : Claim7 := { stood := { row := tablesBackUptoRow, standIns := [], harness := (true, "ca8ffcf12cb7c6657e0385e9b4c82b659debdd1bd1523d97f9ba2196798b61cd"), looks := true }, kinds := [], alts := [], laidByText := true, laidKinds := [.data, .data, .data, .data, .data, .data, .data], laidTests := true, laidLooks := .later }
def TablesBackUptoCardSaid : Prop := Claim7.holds Tryz.pinned (.plain (OpenSpec.upto tablesBackSpec)) tablesBackUptoCard

/-- THE SECOND FORM's CARD OF 'atlaslaw14.TablesFresh'. -/
def tablesFreshUptoCard : Claim7 := { stood := { row := tablesFreshUptoRow, standIns := [], harness := (true, "ca8ffcf12cb7c6657e0385e9b4c82b659debdd1bd1523d97f9ba2196798b61cd"), looks := true }, kinds := [], alts := [], laidByText := true, laidKinds := [.data, .data, .data, .data, .data, .data, .data], laidTests := true, laidLooks := .later }
def TablesFreshUptoCardSaid : Prop := Claim7.holds Tryz.pinned (.plain (OpenSpec.upto tablesFreshSpec)) tablesFreshUptoCard

/-- THE SECOND FORM's CARD OF 'atlaslaw14.TablesCount'. -/
def tablesCountUptoCard : Claim7 := { stood := { row := tablesCountUptoRow, standIns := [], harness := (true, "ca8ffcf12cb7c6657e0385e9b4c82b659debdd1bd1523d97f9ba2196798b61cd"), looks := true }, kinds := [], alts := [], laidByText := true, laidKinds := [.data, .data, .data, .data, .data, .data, .data], laidTests := true, laidLooks := .later }
def TablesCountUptoCardSaid : Prop := Claim7.holds Tryz.pinned (.plain (OpenSpec.upto tablesCountSpec)) tablesCountUptoCard

/-- THE SECOND FORM's CARD OF 'atlaslaw14.TablesRefused'. -/
def tablesRefusedUptoCard : Claim7 := { stood := { row := tablesRefusedUptoRow, standIns := [], harness := (true, "ca8ffcf12cb7c6657e0385e9b4c82b659debdd1bd1523d97f9ba2196798b61cd"), looks := true }, kinds := [], alts := [], laidByText := true, laidKinds := [.data, .data, .data, .data, .data, .data, .data], laidTests := true, laidLooks := .later }
def TablesRefusedUptoCardSaid : Prop := Claim7.holds Tryz.pinned (.plain (OpenSpec.upto tablesRefusedSpec)) tablesRefusedUptoCard

/-- THE SECOND FORM's CARD OF 'atlaslaw14.TablesUnseen'. -/
def tablesUnseenUptoCard : Claim7 := { stood := { row := tablesUnseenUptoRow, standIns := [], harness := (true, "ca8ffcf12cb7c6657e0385e9b4c82b659debdd1bd1523d97f9ba2196798b61cd"), looks := true }, kinds := [], alts := [], laidByText := true, laidKinds := [.data, .data, .data, .data, .data, .data, .data], laidTests := true, laidLooks := .later }
def TablesUnseenUptoCardSaid : Prop := Claim7.holds Tryz.pinned (.plain (OpenSpec.upto tablesUnseenSpec)) tablesUnseenUptoCard
end Rows
end Go.Proofs.YtmgjicnipgdjhaaGreatDoor
