/-
  DERIVED. GIVEN WITH THE SEED: THE CARDS: each row of YthpodlcbikialaaDoorRows.lean that lists a variable, with what it lists TIED to the program's text (the seventh form; the later family's looks); each row that meets fmt, with fmt's text TOLD by the authors' own Lean function (tested against real Go, not proved from fmt's source: count such statements apart). THE CARD IS WHAT COUNTS. Prove the row's statement (the work); the ties are given (YthpodlcbikialaaDoorTie.lean); close each card by the builder's one call (the guide's Derived/Test/ToyasCard.lean, 'card_holds'). Laid BY PROGRAM, IN A SANDBOX (cutbox-door.mjs). By AI agents, Wed Nov 11 2026. No macro, syntax, notation, axiom, sorry.
-/
import Derived.Test.YthpodlcbikialaaDoorRows
import GoSem.ClaimSeven
namespace Go.Proofs.YthpodlcbikialaaDoor
namespace Rows

/-- THE TIED CARD OF 'atlaslaw04.FramesNews'. -/
def framesNewsCard : Claim7 := { stood := { row := framesNewsRow, standIns := [], harness := (true, "63b1580c144fb363c12efed743bb8cf06248ca75a98fbbc4991d0401cc00c212"), looks := true }, kinds := [], alts := [], laidByText := true, laidKinds := [.data], laidTests := true, laidLooks := .later }
def FramesNewsCardSaid : Prop := Claim7.holds Tryd.pinned (.plain (OpenSpec.ofChange framesNewsSpec)) framesNewsCard

/-- THE TIED CARD OF 'atlaslaw04.FramesLowest'. -/
def framesLowestCard : Claim7 := { stood := { row := framesLowestRow, standIns := [], harness := (true, "63b1580c144fb363c12efed743bb8cf06248ca75a98fbbc4991d0401cc00c212"), looks := true }, kinds := [], alts := [], laidByText := true, laidKinds := [.data], laidTests := true, laidLooks := .later }
def FramesLowestCardSaid : Prop := Claim7.holds Tryd.pinned (.plain (OpenSpec.ofChange framesLowestSpec)) framesLowestCard

/-- THE TIED CARD OF 'atlaslaw04.FramesOwn'. -/
def framesOwnCard : Claim7 := { stood := { row := framesOwnRow, standIns := [], harness := (true, "63b1580c144fb363c12efed743bb8cf06248ca75a98fbbc4991d0401cc00c212"), looks := true }, kinds := [], alts := [], laidByText := true, laidKinds := [.data], laidTests := true, laidLooks := .later }
def FramesOwnCardSaid : Prop := Claim7.holds Tryd.pinned (.plain (OpenSpec.ofChange framesOwnSpec)) framesOwnCard

/-- THE TIED CARD OF 'atlaslaw04.FramesCounts'. -/
def framesCountsCard : Claim7 := { stood := { row := framesCountsRow, standIns := [], harness := (true, "63b1580c144fb363c12efed743bb8cf06248ca75a98fbbc4991d0401cc00c212"), looks := true }, kinds := [], alts := [], laidByText := true, laidKinds := [.data], laidTests := true, laidLooks := .later }
def FramesCountsCardSaid : Prop := Claim7.holds Tryd.pinned (.plain (OpenSpec.ofChange framesCountsSpec)) framesCountsCard

/-- THE TIED CARD OF 'atlaslaw04.FramesFresh'. -/
def framesFreshCard : Claim7 := { stood := { row := framesFreshRow, standIns := [], harness := (true, "63b1580c144fb363c12efed743bb8cf06248ca75a98fbbc4991d0401cc00c212"), looks := true }, kinds := [], alts := [], laidByText := true, laidKinds := [.data], laidTests := true, laidLooks := .later }
def FramesFreshCardSaid : Prop := Claim7.holds Tryd.pinned (.plain (OpenSpec.ofChange framesFreshSpec)) framesFreshCard

/-- THE TIED CARD OF 'atlaslaw04.FramesTables'. -/
def framesTablesCard : Claim7 := { stood := { row := framesTablesRow, standIns := [], harness := (true, "63b1580c144fb363c12efed743bb8cf06248ca75a98fbbc4991d0401cc00c212"), looks := true }, kinds := [], alts := [], laidByText := true, laidKinds := [.data], laidTests := true, laidLooks := .later }
def FramesTablesCardSaid : Prop := Claim7.holds Tryd.pinned (.plain (OpenSpec.ofChange framesTablesSpec)) framesTablesCard

/-- THE TIED CARD OF 'atlaslaw04.FramesPlays'. -/
def framesPlaysCard : Claim7 := { stood := { row := framesPlaysRow, standIns := [], harness := (true, "63b1580c144fb363c12efed743bb8cf06248ca75a98fbbc4991d0401cc00c212"), looks := true }, kinds := [], alts := [], laidByText := true, laidKinds := [.data], laidTests := true, laidLooks := .later }
def FramesPlaysCardSaid : Prop := Claim7.holds Tryd.pinned (.plain (OpenSpec.ofChange framesPlaysSpec)) framesPlaysCard

/-- THE TIED CARD OF 'atlaslaw30.ConsoleBytes'. -/
def consoleBytesCard : Claim7 := { stood := { row := consoleBytesRow, standIns := [], harness := (true, "63b1580c144fb363c12efed743bb8cf06248ca75a98fbbc4991d0401cc00c212"), looks := true }, kinds := [], alts := [], laidByText := true, laidKinds := [.data, .data, .data, .sentinel, .sentinel], laidTests := true, laidLooks := .later }
def ConsoleBytesCardSaid : Prop := Claim7.holds Tryd.pinned (.plain (OpenSpec.ofChange consoleBytesSpec)) consoleBytesCard

/-- THE SECOND FORM's CARD OF 'atlaslaw04.FramesNews'. -/
def framesNewsUptoCard : Claim7 := { stood := { row := framesNewsUptoRow, standIns := [], harness := (true, "63b1580c144fb363c12efed743bb8cf06248ca75a98fbbc4991d0401cc00c212"), looks := true }, kinds := [], alts := [], laidByText := true, laidKinds := [.data], laidTests := true, laidLooks := .later }
def FramesNewsUptoCardSaid : Prop := Claim7.holds Tryd.pinned (.plain (OpenSpec.upto framesNewsSpec)) framesNewsUptoCard

/-- THE SECOND FORM's CARD OF 'atlaslaw04.FramesLowest'. -/
def framesLowestUptoCard : Claim7 := { stood := { row := framesLowestUptoRow, standIns := [], harness := (true, "63b1580c144fb363c12efed743bb8cf06248ca75a98fbbc4991d0401cc00c212"), looks := true }, kinds := [], alts := [], laidByText := true, laidKinds := [.data], laidTests := true, laidLooks := .later }
def FramesLowestUptoCardSaid : Prop := Claim7.holds Tryd.pinned (.plain (OpenSpec.upto framesLowestSpec)) framesLowestUptoCard

/-- THE SECOND FORM's CARD OF 'atlaslaw04.FramesOwn'. -/
def framesOwnUptoCard : Claim7 := { stood := { row := framesOwnUptoRow, standIns := [], harness := (true, "63b1580c144fb363c12efed743bb8cf06248ca75a98fbbc4991d0401cc00c212"), looks := true }, kinds := [], alts := [], laidByText := true, laidKinds := [.data], laidTests := true, laidLooks := .later }
def FramesOwnUptoCardSaid : Prop := Claim7.holds Tryd.pinned (.plain (OpenSpec.upto framesOwnSpec)) framesOwnUptoCard

/-- THE SECOND FORM's CARD OF 'atlaslaw04.FramesCounts'. -/
def framesCountsUptoCard : Claim7 := { stood := { row := framesCountsUptoRow, standIns := [], harness := (true, "63b1580c144fb363c12efed743bb8cf06248ca75a98fbbc4991d0401cc00c212"), looks := true }, kinds := [], alts := [], laidByText := true, laidKinds := [.data], laidTests := true, laidLooks := .later }
def FramesCountsUptoCardSaid : Prop := Claim7.holds Tryd.pinned (.plain (OpenSpec.upto framesCountsSpec)) framesCountsUptoCard

/-- THE SECOND FORM's CARD OF 'atlaslaw04.FramesFresh'. -/
def framesFreshUptoCard : Claim7 := { stood := { row := framesFreshUptoRow, standIns := [], harness := (true, "63b1580c144fb363c12efed743bb8cf06248ca75a98fbbc4991d0401cc00c212"), looks := true }, kinds := [], alts := [], laidByText := true, laidKinds := [.data], laidTests := true, laidLooks := .later }
def FramesFreshUptoCardSaid : Prop := Claim7.holds Tryd.pinned (.plain (OpenSpec.upto framesFreshSpec)) framesFreshUptoCard

/-- THE SECOND FORM's CARD OF 'atlaslaw04.FramesTables'. -/
def framesTablesUptoCard : Claim7 := { stood := { row := framesTablesUptoRow, standIns := [], harness := (true, "63b1580c144fb363c12efed743bb8cf06248ca75a98fbbc4991d0401cc00c212"), looks := true }, kinds := [], alts := [], laidByText := true, laidKinds := [.data], laidTests := true, laidLooks := .later }
def FramesTablesUptoCardSaid : Prop := Claim7.holds Tryd.pinned (.plain (OpenSpec.upto framesTablesSpec)) framesTablesUptoCard

/-- THE SECOND FORM's CARD OF 'atlaslaw04.FramesPlays'. -/
def framesPlaysUptoCard : Claim7 := { stood := { row := framesPlaysUptoRow, standIns := [], harness := (true, "63b1580c144fb363c12efed743bb8cf06248ca75a98fbbc4991d0401cc00c212"), looks := true }, kinds := [], alts := [], laidByText := true, laidKinds := [.data], laidTests := true, laidLooks := .later }
def FramesPlaysUptoCardSaid : Prop := Claim7.holds Tryd.pinned (.plain (OpenSpec.upto framesPlaysSpec)) framesPlaysUptoCard

/-- THE SECOND FORM's CARD OF 'atlaslaw30.ConsoleBytes'. -/
def consoleBytesUptoCard : Claim7 := { stood := { row := consoleBytesUptoRow, standIns := [], harness := (true, "63b1580c144fb363c12efed743bb8cf06248ca75a98fbbc4991d0401cc00c212"), looks := true }, kinds := [], alts := [], laidByText := true, laidKinds := [.data, .data, .data, .sentinel, .sentinel], laidTests := true, laidLooks := .later }
def ConsoleBytesUptoCardSaid : Prop := Claim7.holds Tryd.pinned (.plain (OpenSpec.upto consoleBytesSpec)) consoleBytesUptoCard
end Rows
end Go.Proofs.YthpodlcbikialaaDoor
