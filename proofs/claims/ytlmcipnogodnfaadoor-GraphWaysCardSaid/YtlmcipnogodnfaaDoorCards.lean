/-
  DERIVED. GIVEN WITH THE SEED: THE CARDS: each row of YtlmcipnogodnfaaDoorRows.lean that lists a variable, with what it lists TIED to the program's text (the seventh form; the later family's looks); each row that meets fmt, with fmt's text TOLD by the authors' own Lean function (tested against real Go, not proved from fmt's source: count such statements apart). THE CARD IS WHAT COUNTS. Prove the row's statement (the work); the ties are given (YtlmcipnogodnfaaDoorTie.lean); close each card by the builder's one call (the guide's Derived/Test/ToyasCard.lean, 'card_holds'). Laid BY PROGRAM, IN A SANDBOX (cutbox-door.mjs). By AI agents, Wed Nov 11 2026. No macro, syntax, notation, axiom, sorry.
-/
import Derived.Test.YtlmcipnogodnfaaDoorRows
import GoSem.ClaimSeven
namespace Go.Proofs.YtlmcipnogodnfaaDoor
namespace Rows

/-- THE TIED CARD OF 'tollbarlaw.GraphShows'. -/
def graphShowsCard : Claim7 := { stood := { row := graphShowsRow, standIns := [], harness := (true, "f6cb3ce011b9145f4253a2a5c3567fa5a36e0ea1fc1b02cb04bed45af9c93c13"), looks := true }, kinds := [], alts := [], laidByText := true, laidKinds := [.data, .data, .data], laidTests := true, laidLooks := .later }
def GraphShowsCardSaid : Prop := Claim7.holds Tryd.pinned (.plain (OpenSpec.ofChange graphShowsSpec)) graphShowsCard

/-- THE TIED CARD OF 'tollbarlaw.GraphShown'. -/
def graphShownCard : Claim7 := { stood := { row := graphShownRow, standIns := [], harness := (true, "f6cb3ce011b9145f4253a2a5c3567fa5a36e0ea1fc1b02cb04bed45af9c93c13"), looks := true }, kinds := [], alts := [], laidByText := true, laidKinds := [.data, .data, .data], laidTests := true, laidLooks := .later }
def GraphShownCardSaid : Prop := Claim7.holds Tryd.pinned (.plain (OpenSpec.ofChange graphShownSpec)) graphShownCard

/-- THE TIED CARD OF 'tollbarlaw.GraphRead'. -/
def graphReadCard : Claim7 := { stood := { row := graphReadRow, standIns := [], harness := (true, "f6cb3ce011b9145f4253a2a5c3567fa5a36e0ea1fc1b02cb04bed45af9c93c13"), looks := true }, kinds := [], alts := [], laidByText := true, laidKinds := [.data, .data, .data, .data, .sentinel, .sentinel, .pinned], laidTests := true, laidLooks := .later }
def GraphReadCardSaid : Prop := Claim7.holds Tryd.pinned (.plain (OpenSpec.ofChange graphReadSpec)) graphReadCard

/-- THE TIED CARD OF 'tollbarlaw.GraphReads'. -/
def graphReadsCard : Claim7 := { stood := { row := graphReadsRow, standIns := [], harness := (true, "f6cb3ce011b9145f4253a2a5c3567fa5a36e0ea1fc1b02cb04bed45af9c93c13"), looks := true }, kinds := [], alts := [], laidByText := true, laidKinds := [.data, .data, .data, .data, .sentinel, .sentinel, .pinned], laidTests := true, laidLooks := .later }
def GraphReadsCardSaid : Prop := Claim7.holds Tryd.pinned (.plain (OpenSpec.ofChange graphReadsSpec)) graphReadsCard

/-- THE TIED CARD OF 'tollbarkeep.TextsBad'. -/
def textsBadCard : Claim7 := { stood := { row := textsBadRow, standIns := [], harness := (true, "f6cb3ce011b9145f4253a2a5c3567fa5a36e0ea1fc1b02cb04bed45af9c93c13"), looks := true }, kinds := [], alts := [], laidByText := true, laidKinds := [.data, .data, .data, .data, .sentinel, .sentinel, .pinned], laidTests := true, laidLooks := .later }
def TextsBadCardSaid : Prop := Claim7.holds Tryd.pinned (.plain (OpenSpec.ofChange textsBadSpec)) textsBadCard

/-- THE TIED CARD OF 'tollbarkeep.TextsBack'. -/
def textsBackCard : Claim7 := { stood := { row := textsBackRow, standIns := [], harness := (true, "f6cb3ce011b9145f4253a2a5c3567fa5a36e0ea1fc1b02cb04bed45af9c93c13"), looks := true }, kinds := [], alts := [], laidByText := true, laidKinds := [.data, .data, .data, .data, .sentinel, .sentinel, .pinned], laidTests := true, laidLooks := .later }
def TextsBackCardSaid : Prop := Claim7.holds Tryd.pinned (.plain (OpenSpec.ofChange textsBackSpec)) textsBackCard

/-- THE TIED CARD OF 'tollbarlaw.GraphWays'. -/
def graphWaysCard : Claim7 := { stood := { row := graphWaysRow, standIns := [], harness := (true, "f6cb3ce011b9145f4253a2a5c3567fa5a36e0ea1fc1b02cb04bed45af9c93c13"), looks := true }, kinds := [], alts := [], laidByText := true, laidKinds := [.data, .data, .data, .data, .sentinel, .sentinel, .pinned], laidTests := true, laidLooks := .later }
def GraphWaysCardSaid : Prop := Claim7.holds Tryd.pinned (.plain (OpenSpec.ofChange graphWaysSpec)) graphWaysCard

/-- THE SECOND FORM's CARD OF 'tollbarlaw.GraphShows'. -/
def graphShowsUptoCard : Claim7 := { stood := { row := graphShowsUptoRow, standIns := [], harness := (true, "f6cb3ce011b9145f4253a2a5c3567fa5a36e0ea1fc1b02cb04bed45af9c93c13"), looks := true }, kinds := [], alts := [], laidByText := true, laidKinds := [.data, .data, .data], laidTests := true, laidLooks := .later }
def GraphShowsUptoCardSaid : Prop := Claim7.holds Tryd.pinned (.plain (OpenSpec.upto graphShowsSpec)) graphShowsUptoCard

/-- THE SECOND FORM's CARD OF 'tollbarlaw.GraphShown'. -/
def graphShownUptoCard : Claim7 := { stood := { row := graphShownUptoRow, standIns := [], harness := (true, "f6cb3ce011b9145f4253a2a5c3567fa5a36e0ea1fc1b02cb04bed45af9c93c13"), looks := true }, kinds := [], alts := [], laidByText := true, laidKinds := [.data, .data, .data], laidTests := true, laidLooks := .later }
def GraphShownUptoCardSaid : Prop := Claim7.holds Tryd.pinned (.plain (OpenSpec.upto graphShownSpec)) graphShownUptoCard

/-- THE SECOND FORM's CARD OF 'tollbarlaw.GraphRead'. -/
def graphReadUptoCard : Claim7 := { stood := { row := graphReadUptoRow, standIns := [], harness := (true, "f6cb3ce011b9145f4253a2a5c3567fa5a36e0ea1fc1b02cb04bed45af9c93c13"), looks := true }, kinds := [], alts := [], laidByText := true, laidKinds := [.data, .data, .data, .data, .sentinel, .sentinel, .pinned], laidTests := true, laidLooks := .later }
def GraphReadUptoCardSaid : Prop := Claim7.holds Tryd.pinned (.plain (OpenSpec.upto graphReadSpec)) graphReadUptoCard

/-- THE SECOND FORM's CARD OF 'tollbarlaw.GraphReads'. -/
def graphReadsUptoCard : Claim7 := { stood := { row := graphReadsUptoRow, standIns := [], harness := (true, "f6cb3ce011b9145f4253a2a5c3567fa5a36e0ea1fc1b02cb04bed45af9c93c13"), looks := true }, kinds := [], alts := [], laidByText := true, laidKinds := [.data, .data, .data, .data, .sentinel, .sentinel, .pinned], laidTests := true, laidLooks := .later }
def GraphReadsUptoCardSaid : Prop := Claim7.holds Tryd.pinned (.plain (OpenSpec.upto graphReadsSpec)) graphReadsUptoCard

/-- THE SECOND FORM's CARD OF 'tollbarkeep.TextsBad'. -/
def textsBadUptoCard : Claim7 := { stood := { row := textsBadUptoRow, standIns := [], harness := (true, "f6cb3ce011b9145f4253a2a5c3567fa5a36e0ea1fc1b02cb04bed45af9c93c13"), looks := true }, kinds := [], alts := [], laidByText := true, laidKinds := [.data, .data, .data, .data, .sentinel, .sentinel, .pinned], laidTests := true, laidLooks := .later }
def TextsBadUptoCardSaid : Prop := Claim7.holds Tryd.pinned (.plain (OpenSpec.upto textsBadSpec)) textsBadUptoCard

/-- THE SECOND FORM's CARD OF 'tollbarkeep.TextsBack'. -/
def textsBackUptoCard : Claim7 := { stood := { row := textsBackUptoRow, standIns := [], harness := (true, "f6cb3ce011b9145f4253a2a5c3567fa5a36e0ea1fc1b02cb04bed45af9c93c13"), looks := true }, kinds := [], alts := [], laidByText := true, laidKinds := [.data, .data, .data, .data, .sentinel, .sentinel, .pinned], laidTests := true, laidLooks := .later }
def TextsBackUptoCardSaid : Prop := Claim7.holds Tryd.pinned (.plain (OpenSpec.upto textsBackSpec)) textsBackUptoCard

/-- THE SECOND FORM's CARD OF 'tollbarlaw.GraphWays'. -/
def graphWaysUptoCard : Claim7 := { stood := { row := graphWaysUptoRow, standIns := [], harness := (true, "f6cb3ce011b9145f4253a2a5c3567fa5a36e0ea1fc1b02cb04bed45af9c93c13"), looks := true }, kinds := [], alts := [], laidByText := true, laidKinds := [.data, .data, .data, .data, .sentinel, .sentinel, .pinned], laidTests := true, laidLooks := .later }
def GraphWaysUptoCardSaid : Prop := Claim7.holds Tryd.pinned (.plain (OpenSpec.upto graphWaysSpec)) graphWaysUptoCard
end Rows
end Go.Proofs.YtlmcipnogodnfaaDoor
