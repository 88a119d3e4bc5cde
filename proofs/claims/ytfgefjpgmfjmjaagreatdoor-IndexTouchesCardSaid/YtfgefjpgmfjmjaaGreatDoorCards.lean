/-
  DERIVED. GIVEN WITH THE SEED: THE CARDS: each row of YtfgefjpgmfjmjaaGreatDoorRows.lean that lists a variable, with what it lists TIED to the program's text (the seventh form; the later family's looks); each row that meets fmt, with fmt's text TOLD by the authors' own Lean function (tested against real Go, not proved from fmt's source: count such statements apart). THE CARD IS WHAT COUNTS. Prove the row's statement (the work); the ties are given (YtfgefjpgmfjmjaaGreatDoorTie.lean); close each card by the builder's one call (the guide's Derived/Test/ToyasCard.lean, 'card_holds'). Laid BY PROGRAM, IN A SANDBOX (cutbox-door.mjs). By AI agents, Wed Nov 11 2026. No macro, syntax, notation, axiom, sorry.
-/
import Derived.Test.YtfgefjpgmfjmjaaGreatDoorRows
import GoSem.ClaimSeven
namespace Go.Proofs.YtfgefjpgmfjmjaaGreatDoor
namespace Rows

/-- THE TIED CARD OF 'shipwrightlaw17.IndexBuilds'. -/
def indexBuildsCard : Claim7 := { stood := { row := indexBuildsRow, standIns := [], harness := (true, "dbf429ebc0870c0f63e9654ade9ba0efcba9faf24e15560db4bbccc4d2a4cf75"), looks := true }, kinds := [], alts := [], laidByText := true, laidKinds := [.data, .data, .data, .data, .sentinel, .sentinel, .pinned], laidTests := true, laidLooks := .later }
def IndexBuildsCardSaid : Prop := Claim7.holds Tryz.pinned (.plain (OpenSpec.ofChange indexBuildsSpec)) indexBuildsCard

/-- THE TIED CARD OF 'shipwrightlaw17.IndexSymbols'. -/
def indexSymbolsCard : Claim7 := { stood := { row := indexSymbolsRow, standIns := [], harness := (true, "dbf429ebc0870c0f63e9654ade9ba0efcba9faf24e15560db4bbccc4d2a4cf75"), looks := true }, kinds := [], alts := [], laidByText := true, laidKinds := [.data, .data, .data, .data, .sentinel, .sentinel, .pinned], laidTests := true, laidLooks := .later }
def IndexSymbolsCardSaid : Prop := Claim7.holds Tryz.pinned (.plain (OpenSpec.ofChange indexSymbolsSpec)) indexSymbolsCard

/-- THE TIED CARD OF 'shipwrightlaw17.IndexFinds'. -/
def indexFindsCard : Claim7 := { stood := { row := indexFindsRow, standIns := [], harness := (true, "dbf429ebc0870c0f63e9654ade9ba0efcba9faf24e15560db4bbccc4d2a4cf75"), looks := true }, kinds := [], alts := [], laidByText := true, laidKinds := [.data, .data, .data, .data, .sentinel, .sentinel, .pinned], laidTests := true, laidLooks := .later }
def IndexFindsCardSaid : Prop := Claim7.holds Tryz.pinned (.plain (OpenSpec.ofChange indexFindsSpec)) indexFindsCard

/-- THE TIED CARD OF 'shipwrightlaw17.IndexTouches'. -/
def indexTouchesCard : Claim7 := { stood := { row := indexTouchesRow, standIns := [], harness := (true, "dbf429ebc0870c0f63e9654ade9ba0efcba9faf24e15560db4bbccc4d2a4cf75"), looks := true }, kinds := [], alts := [], laidByText := true, laidKinds := [.data, .data, .data, .data, .sentinel, .sentinel, .pinned], laidTests := true, laidLooks := .later }
def IndexTouchesCardSaid : Prop := Claim7.holds Tryz.pinned (.plain (OpenSpec.ofChange indexTouchesSpec)) indexTouchesCard

/-- THE TIED CARD OF 'shipwrightlaw17.IndexOnce'. -/
def indexOnceCard : Claim7 := { stood := { row := indexOnceRow, standIns := [], harness := (true, "dbf429ebc0870c0f63e9654ade9ba0efcba9faf24e15560db4bbccc4d2a4cf75"), looks := true }, kinds := [], alts := [], laidByText := true, laidKinds := [.data, .data, .data, .data, .sentinel, .sentinel, .pinned], laidTests := true, laidLooks := .later }
def IndexOnceCardSaid : Prop := Claim7.holds Tryz.pinned (.plain (OpenSpec.ofChange indexOnceSpec)) indexOnceCard

/-- THE SECOND FORM's CARD OF 'shipwrightlaw17.IndexBuilds'. -/
def indexBuildsUptoCard : Claim7 := { stood := { row := indexBuildsUptoRow, standIns := [], harness := (true, "dbf429ebc0870c0f63e9654ade9ba0efcba9faf24e15560db4bbccc4d2a4cf75"), looks := true }, kinds := [], alts := [], laidByText := true, laidKinds := [.data, .data, .data, .data, .sentinel, .sentinel, .pinned], laidTests := true, laidLooks := .later }
def IndexBuildsUptoCardSaid : Prop := Claim7.holds Tryz.pinned (.plain (OpenSpec.upto indexBuildsSpec)) indexBuildsUptoCard

/-- THE SECOND FORM's CARD OF 'shipwrightlaw17.IndexSymbols'. -/
def indexSymbolsUptoCard : Claim7 := { stood := { row := indexSymbolsUptoRow, standIns := [], harness := (true, "dbf429ebc0870c0f63e9654ade9ba0efcba9faf24e15560db4bbccc4d2a4cf75"), looks := true }, kinds := [], alts := [], laidByText := true, laidKinds := [.data, .data, .data, .data, .sentinel, .sentinel, .pinned], laidTests := true, laidLooks := .later }
def IndexSymbolsUptoCardSaid : Prop := Claim7.holds Tryz.pinned (.plain (OpenSpec.upto indexSymbolsSpec)) indexSymbolsUptoCard

/-- THE SECOND FORM's CARD OF 'shipwrightlaw17.IndexFinds'. -/
def indexFindsUptoCard : Claim7 := { stood := { row := indexFindsUptoRow, standIns := [], harness := (true, "dbf429ebc0870c0f63e9654ade9ba0efcba9faf24e15560db4bbccc4d2a4cf75"), looks := true }, kinds := [], alts := [], laidByText := true, laidKinds := [.data, .data, .data, .data, .sentinel, .sentinel, .pinned], laidTests := true, laidLooks := .later }
def IndexFindsUptoCardSaid : Prop := Claim7.holds Tryz.pinned (.plain (OpenSpec.upto indexFindsSpec)) indexFindsUptoCard

/-- THE SECOND FORM's CARD OF 'shipwrightlaw17.IndexTouches'. -/
def indexTouchesUptoCard : Claim7 := { stood := { row := indexTouchesUptoRow, standIns := [], harness := (true, "dbf429ebc0870c0f63e9654ade9ba0efcba9faf24e15560db4bbccc4d2a4cf75"), looks := true }, kinds := [], alts := [], laidByText := true, laidKinds := [.data, .data, .data, .data, .sentinel, .sentinel, .pinned], laidTests := true, laidLooks := .later }
def IndexTouchesUptoCardSaid : Prop := Claim7.holds Tryz.pinned (.plain (OpenSpec.upto indexTouchesSpec)) indexTouchesUptoCard

/-- THE SECOND FORM's CARD OF 'shipwrightlaw17.IndexOnce'. -/
def indexOnceUptoCard : Claim7 := { stood := { row := indexOnceUptoRow, standIns := [], harness := (true, "dbf429ebc0870c0f63e9654ade9ba0efcba9faf24e15560db4bbccc4d2a4cf75"), looks := true }, kinds := [], alts := [], laidByText := true, laidKinds := [.data, .data, .data, .data, .sentinel, .sentinel, .pinned], laidTests := true, laidLooks := .later }
def IndexOnceUptoCardSaid : Prop := Claim7.holds Tryz.pinned (.plain (OpenSpec.upto indexOnceSpec)) indexOnceUptoCard
end Rows
end Go.Proofs.YtfgefjpgmfjmjaaGreatDoor
