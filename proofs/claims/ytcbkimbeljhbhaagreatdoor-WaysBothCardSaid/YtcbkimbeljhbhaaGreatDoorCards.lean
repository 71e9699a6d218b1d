/-
  DERIVED. GIVEN WITH THE SEED: THE CARDS: each row of YtcbkimbeljhbhaaGreatDoorRows.lean that lists a variable, with what it lists TIED to the program's text (the seventh form; the later family's looks); each row that meets fmt, with fmt's text TOLD by the authors' own Lean function (tested against real Go, not proved from fmt's source: count such statements apart). THE CARD IS WHAT COUNTS. Prove the row's statement (the work); the ties are given (YtcbkimbeljhbhaaGreatDoorTie.lean); close each card by the builder's one call (the guide's Derived/Test/ToyasCard.lean, 'card_holds'). Laid BY PROGRAM, IN A SANDBOX (cutbox-door.mjs). By AI agents, Wed Nov 11 2026. No macro, syntax, notation, axiom, sorry.
-/
import Derived.Test.YtcbkimbeljhbhaaGreatDoorRows
import GoSem.ClaimSeven
namespace Go.Proofs.YtcbkimbeljhbhaaGreatDoor
namespace Rows

/-- THE TIED CARD OF 'tollbarlaw.RibTables'. -/
def ribTablesCard : Claim7 := { stood := { row := ribTablesRow, standIns := [], harness := (true, "15d7999d09b158bb714851bf5e217f696e1170867734d4ad44f3b2207a69263b"), looks := true }, kinds := [], alts := [], laidByText := true, laidKinds := [.data, .data, .data, .data, .sentinel, .sentinel, .pinned], laidTests := true, laidLooks := .later }
def RibTablesCardSaid : Prop := Claim7.holds Tryz.pinned (.plain (OpenSpec.ofChange ribTablesSpec)) ribTablesCard

/-- THE TIED CARD OF 'tollbarkeep.WaysStep'. -/
def waysStepCard : Claim7 := { stood := { row := waysStepRow, standIns := [], harness := (true, "15d7999d09b158bb714851bf5e217f696e1170867734d4ad44f3b2207a69263b"), looks := true }, kinds := [], alts := [], laidByText := true, laidKinds := [.data, .data, .data, .data, .sentinel, .sentinel, .pinned], laidTests := true, laidLooks := .later }
def WaysStepCardSaid : Prop := Claim7.holds Tryz.pinned (.plain (OpenSpec.ofChange waysStepSpec)) waysStepCard

/-- THE TIED CARD OF 'tollbarkeep.WaysBoth'. -/
def waysBothCard : Claim7 := { stood := { row := waysBothRow, standIns := [], harness := (true, "15d7999d09b158bb714851bf5e217f696e1170867734d4ad44f3b2207a69263b"), looks := true }, kinds := [], alts := [], laidByText := true, laidKinds := [.data, .data, .data, .data, .sentinel, .sentinel, .pinned], laidTests := true, laidLooks := .later }
def WaysBothCardSaid : Prop := Claim7.holds Tryz.pinned (.plain (OpenSpec.ofChange waysBothSpec)) waysBothCard

/-- THE TIED CARD OF 'tollbarkeep.TablesFind'. -/
def tablesFindCard : Claim7 := { stood := { row := tablesFindRow, standIns := [], harness := (true, "15d7999d09b158bb714851bf5e217f696e1170867734d4ad44f3b2207a69263b"), looks := true }, kinds := [], alts := [], laidByText := true, laidKinds := [.data, .data, .data, .data, .sentinel, .sentinel, .pinned], laidTests := true, laidLooks := .later }
def TablesFindCardSaid : Prop := Claim7.holds Tryz.pinned (.plain (OpenSpec.ofChange tablesFindSpec)) tablesFindCard

/-- THE TIED CARD OF 'tollbarkeep.PatchesLead'. -/
def patchesLeadCard : Claim7 := { stood := { row := patchesLeadRow, standIns := [], harness := (true, "15d7999d09b158bb714851bf5e217f696e1170867734d4ad44f3b2207a69263b"), looks := true }, kinds := [], alts := [], laidByText := true, laidKinds := [.data, .data, .data, .data, .sentinel, .sentinel, .pinned], laidTests := true, laidLooks := .later }
def PatchesLeadCardSaid : Prop := Claim7.holds Tryz.pinned (.plain (OpenSpec.ofChange patchesLeadSpec)) patchesLeadCard

/-- THE SECOND FORM's CARD OF 'tollbarlaw.RibTables'. -/
def ribTablesUptoCard : Claim7 := { stood := { row := ribTablesUptoRow, standIns := [], harness := (true, "15d7999d09b158bb714851bf5e217f696e1170867734d4ad44f3b2207a69263b"), looks := true }, kinds := [], alts := [], laidByText := true, laidKinds := [.data, .data, .data, .data, .sentinel, .sentinel, .pinned], laidTests := true, laidLooks := .later }
def RibTablesUptoCardSaid : Prop := Claim7.holds Tryz.pinned (.plain (OpenSpec.upto ribTablesSpec)) ribTablesUptoCard

/-- THE SECOND FORM's CARD OF 'tollbarkeep.WaysStep'. -/
def waysStepUptoCard : Claim7 := { stood := { row := waysStepUptoRow, standIns := [], harness := (true, "15d7999d09b158bb714851bf5e217f696e1170867734d4ad44f3b2207a69263b"), looks := true }, kinds := [], alts := [], laidByText := true, laidKinds := [.data, .data, .data, .data, .sentinel, .sentinel, .pinned], laidTests := true, laidLooks := .later }
def WaysStepUptoCardSaid : Prop := Claim7.holds Tryz.pinned (.plain (OpenSpec.upto waysStepSpec)) waysStepUptoCard

/-- THE SECOND FORM's CARD OF 'tollbarkeep.WaysBoth'. -/
def waysBothUptoCard : Claim7 := { stood := { row := waysBothUptoRow, standIns := [], harness := (true, "15d7999d09b158bb714851bf5e217f696e1170867734d4ad44f3b2207a69263b"), looks := true }, kinds := [], alts := [], laidByText := true, laidKinds := [.data, .data, .data, .data, .sentinel, .sentinel, .pinned], laidTests := true, laidLooks := .later }
def WaysBothUptoCardSaid : Prop := Claim7.holds Tryz.pinned (.plain (OpenSpec.upto waysBothSpec)) waysBothUptoCard

/-- THE SECOND FORM's CARD OF 'tollbarkeep.TablesFind'. -/
def tablesFindUptoCard : Claim7 := { stood := { row := tablesFindUptoRow, standIns := [], harness := (true, "15d7999d09b158bb714851bf5e217f696e1170867734d4ad44f3b2207a69263b"), looks := true }, kinds := [], alts := [], laidByText := true, laidKinds := [.data, .data, .data, .data, .sentinel, .sentinel, .pinned], laidTests := true, laidLooks := .later }
def TablesFindUptoCardSaid : Prop := Claim7.holds Tryz.pinned (.plain (OpenSpec.upto tablesFindSpec)) tablesFindUptoCard

/-- THE SECOND FORM's CARD OF 'tollbarkeep.PatchesLead'. -/
def patchesLeadUptoCard : Claim7 := { stood := { row := patchesLeadUptoRow, standIns := [], harness := (true, "15d7999d09b158bb714851bf5e217f696e1170867734d4ad44f3b2207a69263b"), looks := true }, kinds := [], alts := [], laidByText := true, laidKinds := [.data, .data, .data, .data, .sentinel, .sentinel, .pinned], laidTests := true, laidLooks := .later }
def PatchesLeadUptoCardSaid : Prop := Claim7.holds Tryz.pinned (.plain (OpenSpec.upto patchesLeadSpec)) patchesLeadUptoCard
end Rows
end Go.Proofs.YtcbkimbeljhbhaaGreatDoor
