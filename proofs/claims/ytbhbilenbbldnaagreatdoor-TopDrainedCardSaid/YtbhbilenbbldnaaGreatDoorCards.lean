/-
  DERIVED. GIVEN WITH THE SEED: THE CARDS: each row of YtbhbilenbbldnaaGreatDoorRows.lean that lists a variable, with what it lists TIED to the program's text (the seventh form; the later family's looks); each row that meets fmt, with fmt's text TOLD by the authors' own Lean function (tested against real Go, not proved from fmt's source: count such statements apart). THE CARD IS WHAT COUNTS. Prove the row's statement (the work); the ties are given (YtbhbilenbbldnaaGreatDoorTie.lean); close each card by the builder's one call (the guide's Derived/Test/ToyasCard.lean, 'card_holds'). Laid BY PROGRAM, IN A SANDBOX (cutbox-door.mjs). By AI agents, Wed Nov 11 2026. No macro, syntax, notation, axiom, sorry.
-/
import Derived.Test.YtbhbilenbbldnaaGreatDoorRows
import GoSem.ClaimSeven
namespace Go.Proofs.YtbhbilenbbldnaaGreatDoor
namespace Rows

/-- THE TIED CARD OF 'tollbarkeep.ScriptsGood'. -/
def scriptsGoodCard : Claim7 := { stood := { row := scriptsGoodRow, standIns := [], harness := (true, "85bf2f38d809f294f33925da4d454a4eedfa9cc73b3d46f54cc94a82a7fb9a22"), looks := true }, kinds := [], alts := [], laidByText := true, laidKinds := [.data, .data, .data, .data, .sentinel, .sentinel, .pinned], laidTests := true, laidLooks := .later }
def ScriptsGoodCardSaid : Prop := Claim7.holds Tryz.pinned (.plain (OpenSpec.ofChange scriptsGoodSpec)) scriptsGoodCard

/-- THE TIED CARD OF 'tollbarkeep.SendsSpoilt'. -/
def sendsSpoiltCard : Claim7 := { stood := { row := sendsSpoiltRow, standIns := [], harness := (true, "85bf2f38d809f294f33925da4d454a4eedfa9cc73b3d46f54cc94a82a7fb9a22"), looks := true }, kinds := [], alts := [], laidByText := true, laidKinds := [.data, .data, .data, .data, .sentinel, .sentinel, .pinned], laidTests := true, laidLooks := .later }
def SendsSpoiltCardSaid : Prop := Claim7.holds Tryz.pinned (.plain (OpenSpec.ofChange sendsSpoiltSpec)) sendsSpoiltCard

/-- THE TIED CARD OF 'tollbartop.TopSteps'. -/
def topStepsCard : Claim7 := { stood := { row := topStepsRow, standIns := [], harness := (true, "85bf2f38d809f294f33925da4d454a4eedfa9cc73b3d46f54cc94a82a7fb9a22"), looks := true }, kinds := [], alts := [], laidByText := true, laidKinds := [.data, .data, .data, .data, .sentinel, .sentinel, .pinned], laidTests := true, laidLooks := .later }
def TopStepsCardSaid : Prop := Claim7.holds Tryz.pinned (.plain (OpenSpec.ofChange topStepsSpec)) topStepsCard

/-- THE TIED CARD OF 'tollbartop.TopSame'. -/
def topSameCard : Claim7 := { stood := { row := topSameRow, standIns := [], harness := (true, "85bf2f38d809f294f33925da4d454a4eedfa9cc73b3d46f54cc94a82a7fb9a22"), looks := true }, kinds := [], alts := [], laidByText := true, laidKinds := [.data, .data, .data, .data, .sentinel, .sentinel, .pinned], laidTests := true, laidLooks := .later }
def TopSameCardSaid : Prop := Claim7.holds Tryz.pinned (.plain (OpenSpec.ofChange topSameSpec)) topSameCard

/-- THE TIED CARD OF 'tollbartop.TopWalks'. -/
def topWalksCard : Claim7 := { stood := { row := topWalksRow, standIns := [], harness := (true, "85bf2f38d809f294f33925da4d454a4eedfa9cc73b3d46f54cc94a82a7fb9a22"), looks := true }, kinds := [], alts := [], laidByText := true, laidKinds := [.data, .data, .data, .data, .sentinel, .sentinel, .pinned], laidTests := true, laidLooks := .later }
def TopWalksCardSaid : Prop := Claim7.holds Tryz.pinned (.plain (OpenSpec.ofChange topWalksSpec)) topWalksCard

/-- THE TIED CARD OF 'tollbartop.TopDrained'. -/
def topDrainedCard : Claim7 := { stood := { row := topDrainedRow, standIns := [], harness := (true, "85bf2f38d809f294f33925da4d454a4eedfa9cc73b3d46f54cc94a82a7fb9a22"), looks := true }, kinds := [], alts := [], laidByText := true, laidKinds := [.data, .data, .data, .data, .sentinel, .sentinel, .pinned], laidTests := true, laidLooks := .later }
def TopDrainedCardSaid : Prop := Claim7.holds Tryz.pinned (.plain (OpenSpec.ofChange topDrainedSpec)) topDrainedCard

/-- THE TIED CARD OF 'tollbartop.TopTables'. -/
def topTablesCard : Claim7 := { stood := { row := topTablesRow, standIns := [], harness := (true, "85bf2f38d809f294f33925da4d454a4eedfa9cc73b3d46f54cc94a82a7fb9a22"), looks := true }, kinds := [], alts := [], laidByText := true, laidKinds := [.data, .data, .data, .data, .sentinel, .sentinel, .pinned], laidTests := true, laidLooks := .later }
def TopTablesCardSaid : Prop := Claim7.holds Tryz.pinned (.plain (OpenSpec.ofChange topTablesSpec)) topTablesCard

/-- THE TIED CARD OF 'tollbartop.TopQuiet'. -/
def topQuietCard : Claim7 := { stood := { row := topQuietRow, standIns := [], harness := (true, "85bf2f38d809f294f33925da4d454a4eedfa9cc73b3d46f54cc94a82a7fb9a22"), looks := true }, kinds := [], alts := [], laidByText := true, laidKinds := [.data, .data, .data, .data, .sentinel, .sentinel, .pinned], laidTests := true, laidLooks := .later }
def TopQuietCardSaid : Prop := Claim7.holds Tryz.pinned (.plain (OpenSpec.ofChange topQuietSpec)) topQuietCard

/-- THE SECOND FORM's CARD OF 'tollbarkeep.ScriptsGood'. -/
def scriptsGoodUptoCard : Claim7 := { stood := { row := scriptsGoodUptoRow, standIns := [], harness := (true, "85bf2f38d809f294f33925da4d454a4eedfa9cc73b3d46f54cc94a82a7fb9a22"), looks := true }, kinds := [], alts := [], laidByText := true, laidKinds := [.data, .data, .data, .data, .sentinel, .sentinel, .pinned], laidTests := true, laidLooks := .later }
def ScriptsGoodUptoCardSaid : Prop := Claim7.holds Tryz.pinned (.plain (OpenSpec.upto scriptsGoodSpec)) scriptsGoodUptoCard

/-- THE SECOND FORM's CARD OF 'tollbarkeep.SendsSpoilt'. -/
def sendsSpoiltUptoCard : Claim7 := { stood := { row := sendsSpoiltUptoRow, standIns := [], harness := (true, "85bf2f38d809f294f33925da4d454a4eedfa9cc73b3d46f54cc94a82a7fb9a22"), looks := true }, kinds := [], alts := [], laidByText := true, laidKinds := [.data, .data, .data, .data, .sentinel, .sentinel, .pinned], laidTests := true, laidLooks := .later }
def SendsSpoiltUptoCardSaid : Prop := Claim7.holds Tryz.pinned (.plain (OpenSpec.upto sendsSpoiltSpec)) sendsSpoiltUptoCard

/-- THE SECOND FORM's CARD OF 'tollbartop.TopSteps'. -/
def topStepsUptoCard : Claim7 := { stood := { row := topStepsUptoRow, standIns := [], harness := (true, "85bf2f38d809f294f33925da4d454a4eedfa9cc73b3d46f54cc94a82a7fb9a22"), looks := true }, kinds := [], alts := [], laidByText := true, laidKinds := [.data, .data, .data, .data, .sentinel, .sentinel, .pinned], laidTests := true, laidLooks := .later }
def TopStepsUptoCardSaid : Prop := Claim7.holds Tryz.pinned (.plain (OpenSpec.upto topStepsSpec)) topStepsUptoCard

/-- THE SECOND FORM's CARD OF 'tollbartop.TopSame'. -/
def topSameUptoCard : Claim7 := { stood := { row := topSameUptoRow, standIns := [], harness := (true, "85bf2f38d809f294f33925da4d454a4eedfa9cc73b3d46f54cc94a82a7fb9a22"), looks := true }, kinds := [], alts := [], laidByText := true, laidKinds := [.data, .data, .data, .data, .sentinel, .sentinel, .pinned], laidTests := true, laidLooks := .later }
def TopSameUptoCardSaid : Prop := Claim7.holds Tryz.pinned (.plain (OpenSpec.upto topSameSpec)) topSameUptoCard

/-- THE SECOND FORM's CARD OF 'tollbartop.TopWalks'. -/
def topWalksUptoCard : Claim7 := { stood := { row := topWalksUptoRow, standIns := [], harness := (true, "85bf2f38d809f294f33925da4d454a4eedfa9cc73b3d46f54cc94a82a7fb9a22"), looks := true }, kinds := [], alts := [], laidByText := true, laidKinds := [.data, .data, .data, .data, .sentinel, .sentinel, .pinned], laidTests := true, laidLooks := .later }
def TopWalksUptoCardSaid : Prop := Claim7.holds Tryz.pinned (.plain (OpenSpec.upto topWalksSpec)) topWalksUptoCard

/-- THE SECOND FORM's CARD OF 'tollbartop.TopDrained'. -/
def topDrainedUptoCard : Claim7 := { stood := { row := topDrainedUptoRow, standIns := [], harness := (true, "85bf2f38d809f294f33925da4d454a4eedfa9cc73b3d46f54cc94a82a7fb9a22"), looks := true }, kinds := [], alts := [], laidByText := true, laidKinds := [.data, .data, .data, .data, .sentinel, .sentinel, .pinned], laidTests := true, laidLooks := .later }
def TopDrainedUptoCardSaid : Prop := Claim7.holds Tryz.pinned (.plain (OpenSpec.upto topDrainedSpec)) topDrainedUptoCard

/-- THE SECOND FORM's CARD OF 'tollbartop.TopTables'. -/
def topTablesUptoCard : Claim7 := { stood := { row := topTablesUptoRow, standIns := [], harness := (true, "85bf2f38d809f294f33925da4d454a4eedfa9cc73b3d46f54cc94a82a7fb9a22"), looks := true }, kinds := [], alts := [], laidByText := true, laidKinds := [.data, .data, .data, .data, .sentinel, .sentinel, .pinned], laidTests := true, laidLooks := .later }
def TopTablesUptoCardSaid : Prop := Claim7.holds Tryz.pinned (.plain (OpenSpec.upto topTablesSpec)) topTablesUptoCard

/-- THE SECOND FORM's CARD OF 'tollbartop.TopQuiet'. -/
def topQuietUptoCard : Claim7 := { stood := { row := topQuietUptoRow, standIns := [], harness := (true, "85bf2f38d809f294f33925da4d454a4eedfa9cc73b3d46f54cc94a82a7fb9a22"), looks := true }, kinds := [], alts := [], laidByText := true, laidKinds := [.data, .data, .data, .data, .sentinel, .sentinel, .pinned], laidTests := true, laidLooks := .later }
def TopQuietUptoCardSaid : Prop := Claim7.holds Tryz.pinned (.plain (OpenSpec.upto topQuietSpec)) topQuietUptoCard
end Rows
end Go.Proofs.YtbhbilenbbldnaaGreatDoor
