/-
  DERIVED. GIVEN WITH THE SEED: THE CARDS: each row of YtojojpjldkpmoaaGreatDoorRows.lean that lists a variable, with what it lists TIED to the program's text (the seventh form; the later family's looks); each row that meets fmt, with fmt's text TOLD by the authors' own Lean function (tested against real Go, not proved from fmt's source: count such statements apart). THE CARD IS WHAT COUNTS. Prove the row's statement (the work); the ties are given (YtojojpjldkpmoaaGreatDoorTie.lean); close each card by the builder's one call (the guide's Derived/Test/ToyasCard.lean, 'card_holds'). Laid BY PROGRAM, IN A SANDBOX (cutbox-door.mjs). By AI agents, Wed Nov 11 2026. No macro, syntax, notation, axiom, sorry.
-/
import Derived.Test.YtojojpjldkpmoaaGreatDoorRows
import GoSem.ClaimSeven
namespace Go.Proofs.YtojojpjldkpmoaaGreatDoor
namespace Rows

/-- THE TIED CARD OF 'tollbartop.TopSame'. -/
def topSameCard : Claim7 := { stood := { row := topSameRow, standIns := [], harness := (true, "452093781e0162972549bc1408feddb27768db36d0603897f58ed07e153c3029"), looks := true }, kinds := [], alts := [], laidByText := true, laidKinds := [.data, .data, .data, .data, .sentinel, .sentinel, .pinned], laidTests := true, laidLooks := .later }
def TopSameCardSaid : Prop := Claim7.holds Tryz.pinned (.plain (OpenSpec.ofChange topSameSpec)) topSameCard

/-- THE TIED CARD OF 'tollbarlaw.NetRuns'. -/
def netRunsCard : Claim7 := { stood := { row := netRunsRow, standIns := [], harness := (true, "452093781e0162972549bc1408feddb27768db36d0603897f58ed07e153c3029"), looks := true }, kinds := [], alts := [], laidByText := true, laidKinds := [.data, .data, .data, .data, .sentinel, .sentinel, .pinned], laidTests := true, laidLooks := .later }
def NetRunsCardSaid : Prop := Claim7.holds Tryz.pinned (.plain (OpenSpec.ofChange netRunsSpec)) netRunsCard

/-- THE SECOND FORM's CARD OF 'tollbartop.TopSame'. -/
def topSameUptoCard : Claim7 := { stood := { row := topSameUptoRow, standIns := [], harness := (true, "452093781e0162972549bc1408feddb27768db36d0603897f58ed07e153c3029"), looks := true }, kinds := [], alts := [], laidByText := true, laidKinds := [.data, .data, .data, .data, .sentinel, .sentinel, .pinned], laidTests := true, laidLooks := .later }
def TopSameUptoCardSaid : Prop := Claim7.holds Tryz.pinned (.plain (OpenSpec.upto topSameSpec)) topSameUptoCard

/-- THE SECOND FORM's CARD OF 'tollbarlaw.NetRuns'. -/
def netRunsUptoCard : Claim7 := { stood := { row := netRunsUptoRow, standIns := [], harness := (true, "452093781e0162972549bc1408feddb27768db36d0603897f58ed07e153c3029"), looks := true }, kinds := [], alts := [], laidByText := true, laidKinds := [.data, .data, .data, .data, .sentinel, .sentinel, .pinned], laidTests := true, laidLooks := .later }
def NetRunsUptoCardSaid : Prop := Claim7.holds Tryz.pinned (.plain (OpenSpec.upto netRunsSpec)) netRunsUptoCard
end Rows
end Go.Proofs.YtojojpjldkpmoaaGreatDoor
