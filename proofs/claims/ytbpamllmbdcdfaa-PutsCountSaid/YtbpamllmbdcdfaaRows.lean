/-
  No cell of these rows narrows 'for every input' (looked for: loops, veiled, ifaces, maps, wideKeys, modest, calm, conditions, laid).
  DERIVED. THE GIVEN ROWS OF THIS SEAT. 19 by the template 'for every input the law returns true; each argument reads behind the call as it read before'; 0 by the template 'total and deterministic' (their statements: YtbpamllmbdcdfaaTotals.lean).
  GIVEN WITH THE SEED: the statements are not yours to turn. If you find one false, say at which input.
  Laid BY PROGRAM, IN A SANDBOX (cutbox-rows.mjs): the forced cells as the released guide's own fill.sh prints them over the translation b865df8a6371c454… (all of the seat's roots in one cut). By AI agents, Wed Nov 11 2026. No macro, syntax, notation, axiom, sorry.
-/
import Derived.Test.YtbpamllmbdcdfaaChecked
import GoSem.Claim
import GoSem.ClaimJoined
import GoSem.ClaimMapViews
import Derived.JoinedTies
import Derived.KernelRfl
namespace Go.Proofs.Ytbpamllmbdcdfaa
/- THE CELL 'sum', in the pinned program and in every row, IS THE sha256 OF THE DUMP (.gsa) THAT YtbpamllmbdcdfaaProg.lean LOADS. Nothing in Lean hashes anything: it is a label: what it is worth is what the hold of that sum in a sandbox is worth. -/
noncomputable def Try.pinned : Pinned := { name := "ytbpamllmbdcdfaa", sum := "b865df8a6371c454f921ba63852d4c5b89fb4c313d4abc3bd9a9d97bbc687f52", checked := Try.checked }
namespace Rows
def none {H : Type} : Left H := { results := [], args := [] }

/-- 'tollbarlaw.Names': WHATEVER THE INPUT: true; the input reads as it did. -/
def namesSpec : ChangeSpec := { name := "names", fn := fun _ => fun
  | [] => { results := [.lit (.bool true)], args := [] }
  | _ => none }
def namesRow : OpenClaim := { program := "ytbpamllmbdcdfaa", sum := "b865df8a6371c454f921ba63852d4c5b89fb4c313d4abc3bd9a9d97bbc687f52", func := "tollbar/tollbarlaw.Names", spec := "names", apart := false }
def NamesSaid : Prop := namesRow.holds Try.pinned (OpenSpec.ofChange namesSpec)

/-- ITS FALSE NEIGHBOUR: 'it returns false'. Refute it at one input. -/
def namesWrong : ChangeSpec := { name := "names", fn := fun _ => fun
  | [] => { results := [.lit (.bool false)], args := [] }
  | _ => none }
def NamesWrongFalsely : Prop := namesRow.holds Try.pinned (OpenSpec.ofChange namesWrong)

/-- 'tollbarlaw.GraphAdjs': WHATEVER THE INPUT: true; the input reads as it did. -/
def graphAdjsSpec : ChangeSpec := { name := "graphAdjs", fn := fun _ => fun
  | [d] => { results := [.lit (.bool true)], args := [d] }
  | _ => none }
def graphAdjsRow : OpenClaim := { program := "ytbpamllmbdcdfaa", sum := "b865df8a6371c454f921ba63852d4c5b89fb4c313d4abc3bd9a9d97bbc687f52", func := "tollbar/tollbarlaw.GraphAdjs", spec := "graphAdjs", apart := false }
def GraphAdjsSaid : Prop := graphAdjsRow.holds Try.pinned (OpenSpec.ofChange graphAdjsSpec)

/-- ITS FALSE NEIGHBOUR: 'it returns false'. Refute it at one input. -/
def graphAdjsWrong : ChangeSpec := { name := "graphAdjs", fn := fun _ => fun
  | [d] => { results := [.lit (.bool false)], args := [d] }
  | _ => none }
def GraphAdjsWrongFalsely : Prop := graphAdjsRow.holds Try.pinned (OpenSpec.ofChange graphAdjsWrong)

/-- 'tollbarlaw.StoreKeys': WHATEVER THE INPUT: true; the input reads as it did. -/
def storeKeysSpec : ChangeSpec := { name := "storeKeys", fn := fun _ => fun
  | [d] => { results := [.lit (.bool true)], args := [d] }
  | _ => none }
def storeKeysRow : OpenClaim := { program := "ytbpamllmbdcdfaa", sum := "b865df8a6371c454f921ba63852d4c5b89fb4c313d4abc3bd9a9d97bbc687f52", func := "tollbar/tollbarlaw.StoreKeys", spec := "storeKeys", unfollowed := true, recurses := true, apart := false }
def StoreKeysSaid : Prop := storeKeysRow.holds Try.pinned (OpenSpec.ofChange storeKeysSpec)

/-- ITS FALSE NEIGHBOUR: 'it returns false'. Refute it at one input. -/
def storeKeysWrong : ChangeSpec := { name := "storeKeys", fn := fun _ => fun
  | [d] => { results := [.lit (.bool false)], args := [d] }
  | _ => none }
def StoreKeysWrongFalsely : Prop := storeKeysRow.holds Try.pinned (OpenSpec.ofChange storeKeysWrong)

/-- 'tollbarlaw.GraphPrefixes': WHATEVER THE INPUT: true; the input reads as it did. -/
def graphPrefixesSpec : ChangeSpec := { name := "graphPrefixes", fn := fun _ => fun
  | [d] => { results := [.lit (.bool true)], args := [d] }
  | _ => none }
def graphPrefixesRow : OpenClaim := { program := "ytbpamllmbdcdfaa", sum := "b865df8a6371c454f921ba63852d4c5b89fb4c313d4abc3bd9a9d97bbc687f52", func := "tollbar/tollbarlaw.GraphPrefixes", spec := "graphPrefixes", apart := false }
def GraphPrefixesSaid : Prop := graphPrefixesRow.holds Try.pinned (OpenSpec.ofChange graphPrefixesSpec)

/-- ITS FALSE NEIGHBOUR: 'it returns false'. Refute it at one input. -/
def graphPrefixesWrong : ChangeSpec := { name := "graphPrefixes", fn := fun _ => fun
  | [d] => { results := [.lit (.bool false)], args := [d] }
  | _ => none }
def GraphPrefixesWrongFalsely : Prop := graphPrefixesRow.holds Try.pinned (OpenSpec.ofChange graphPrefixesWrong)

/-- 'tollbarlaw.StoreChecks': WHATEVER THE INPUT: true; the input reads as it did. -/
def storeChecksSpec : ChangeSpec := { name := "storeChecks", fn := fun _ => fun
  | [d] => { results := [.lit (.bool true)], args := [d] }
  | _ => none }
def storeChecksRow : OpenClaim := { program := "ytbpamllmbdcdfaa", sum := "b865df8a6371c454f921ba63852d4c5b89fb4c313d4abc3bd9a9d97bbc687f52", func := "tollbar/tollbarlaw.StoreChecks", spec := "storeChecks", unfollowed := true, recurses := true, apart := false }
def StoreChecksSaid : Prop := storeChecksRow.holds Try.pinned (OpenSpec.ofChange storeChecksSpec)

/-- ITS FALSE NEIGHBOUR: 'it returns false'. Refute it at one input. -/
def storeChecksWrong : ChangeSpec := { name := "storeChecks", fn := fun _ => fun
  | [d] => { results := [.lit (.bool false)], args := [d] }
  | _ => none }
def StoreChecksWrongFalsely : Prop := storeChecksRow.holds Try.pinned (OpenSpec.ofChange storeChecksWrong)

/-- 'tollbarlaw.StoreCompares': WHATEVER THE INPUT: true; the input reads as it did. -/
def storeComparesSpec : ChangeSpec := { name := "storeCompares", fn := fun _ => fun
  | [d1, d2] => { results := [.lit (.bool true)], args := [d1, d2] }
  | _ => none }
def storeComparesRow : OpenClaim := { program := "ytbpamllmbdcdfaa", sum := "b865df8a6371c454f921ba63852d4c5b89fb4c313d4abc3bd9a9d97bbc687f52", func := "tollbar/tollbarlaw.StoreCompares", spec := "storeCompares", inPlace := ["internal/bytealg.abigen_runtime_cmpstring"], apart := false }
def StoreComparesSaid : Prop := storeComparesRow.holds Try.pinned (OpenSpec.ofChange storeComparesSpec)

/-- ITS FALSE NEIGHBOUR: 'it returns false'. Refute it at one input. -/
def storeComparesWrong : ChangeSpec := { name := "storeCompares", fn := fun _ => fun
  | [d1, d2] => { results := [.lit (.bool false)], args := [d1, d2] }
  | _ => none }
def StoreComparesWrongFalsely : Prop := storeComparesRow.holds Try.pinned (OpenSpec.ofChange storeComparesWrong)

/-- 'tollbarlaw.RibChecks': WHATEVER THE INPUT: true; the input reads as it did. -/
def ribChecksSpec : ChangeSpec := { name := "ribChecks", fn := fun _ => fun
  | [d] => { results := [.lit (.bool true)], args := [d] }
  | _ => none }
def ribChecksRow : OpenClaim := { program := "ytbpamllmbdcdfaa", sum := "b865df8a6371c454f921ba63852d4c5b89fb4c313d4abc3bd9a9d97bbc687f52", func := "tollbar/tollbarlaw.RibChecks", spec := "ribChecks", apart := false }
def RibChecksSaid : Prop := ribChecksRow.holds Try.pinned (OpenSpec.ofChange ribChecksSpec)

/-- ITS FALSE NEIGHBOUR: 'it returns false'. Refute it at one input. -/
def ribChecksWrong : ChangeSpec := { name := "ribChecks", fn := fun _ => fun
  | [d] => { results := [.lit (.bool false)], args := [d] }
  | _ => none }
def RibChecksWrongFalsely : Prop := ribChecksRow.holds Try.pinned (OpenSpec.ofChange ribChecksWrong)

/-- 'tollbarlaw.StoreEncodes': WHATEVER THE INPUT: true; the input reads as it did. -/
def storeEncodesSpec : ChangeSpec := { name := "storeEncodes", fn := fun _ => fun
  | [d] => { results := [.lit (.bool true)], args := [d] }
  | _ => none }
def storeEncodesRow : OpenClaim := { program := "ytbpamllmbdcdfaa", sum := "b865df8a6371c454f921ba63852d4c5b89fb4c313d4abc3bd9a9d97bbc687f52", func := "tollbar/tollbarlaw.StoreEncodes", spec := "storeEncodes", unfollowed := true, recurses := true, apart := false }
def StoreEncodesSaid : Prop := storeEncodesRow.holds Try.pinned (OpenSpec.ofChange storeEncodesSpec)

/-- ITS FALSE NEIGHBOUR: 'it returns false'. Refute it at one input. -/
def storeEncodesWrong : ChangeSpec := { name := "storeEncodes", fn := fun _ => fun
  | [d] => { results := [.lit (.bool false)], args := [d] }
  | _ => none }
def StoreEncodesWrongFalsely : Prop := storeEncodesRow.holds Try.pinned (OpenSpec.ofChange storeEncodesWrong)

/-- 'tollbarlaw.StoreGets': WHATEVER THE INPUT: true; the input reads as it did. -/
def storeGetsSpec : ChangeSpec := { name := "storeGets", fn := fun _ => fun
  | [d1, d2] => { results := [.lit (.bool true)], args := [d1, d2] }
  | _ => none }
def storeGetsRow : OpenClaim := { program := "ytbpamllmbdcdfaa", sum := "b865df8a6371c454f921ba63852d4c5b89fb4c313d4abc3bd9a9d97bbc687f52", func := "tollbar/tollbarlaw.StoreGets", spec := "storeGets", inPlace := ["internal/bytealg.abigen_runtime_cmpstring"], unfollowed := true, recurses := true, apart := false }
def StoreGetsSaid : Prop := storeGetsRow.holds Try.pinned (OpenSpec.ofChange storeGetsSpec)

/-- ITS FALSE NEIGHBOUR: 'it returns false'. Refute it at one input. -/
def storeGetsWrong : ChangeSpec := { name := "storeGets", fn := fun _ => fun
  | [d1, d2] => { results := [.lit (.bool false)], args := [d1, d2] }
  | _ => none }
def StoreGetsWrongFalsely : Prop := storeGetsRow.holds Try.pinned (OpenSpec.ofChange storeGetsWrong)

/-- 'tollbarlaw.RibLooks': WHATEVER THE INPUT: true; the input reads as it did. -/
def ribLooksSpec : ChangeSpec := { name := "ribLooks", fn := fun _ => fun
  | [d1, d2] => { results := [.lit (.bool true)], args := [d1, d2] }
  | _ => none }
def ribLooksRow : OpenClaim := { program := "ytbpamllmbdcdfaa", sum := "b865df8a6371c454f921ba63852d4c5b89fb4c313d4abc3bd9a9d97bbc687f52", func := "tollbar/tollbarlaw.RibLooks", spec := "ribLooks", apart := false }
def RibLooksSaid : Prop := ribLooksRow.holds Try.pinned (OpenSpec.ofChange ribLooksSpec)

/-- ITS FALSE NEIGHBOUR: 'it returns false'. Refute it at one input. -/
def ribLooksWrong : ChangeSpec := { name := "ribLooks", fn := fun _ => fun
  | [d1, d2] => { results := [.lit (.bool false)], args := [d1, d2] }
  | _ => none }
def RibLooksWrongFalsely : Prop := ribLooksRow.holds Try.pinned (OpenSpec.ofChange ribLooksWrong)

/-- 'tollbarlaw.RibDiffs': WHATEVER THE INPUT: true; the input reads as it did. -/
def ribDiffsSpec : ChangeSpec := { name := "ribDiffs", fn := fun _ => fun
  | [d1, d2] => { results := [.lit (.bool true)], args := [d1, d2] }
  | _ => none }
def ribDiffsRow : OpenClaim := { program := "ytbpamllmbdcdfaa", sum := "b865df8a6371c454f921ba63852d4c5b89fb4c313d4abc3bd9a9d97bbc687f52", func := "tollbar/tollbarlaw.RibDiffs", spec := "ribDiffs", unfollowed := true, recurses := true, apart := false }
def RibDiffsSaid : Prop := ribDiffsRow.holds Try.pinned (OpenSpec.ofChange ribDiffsSpec)

/-- ITS FALSE NEIGHBOUR: 'it returns false'. Refute it at one input. -/
def ribDiffsWrong : ChangeSpec := { name := "ribDiffs", fn := fun _ => fun
  | [d1, d2] => { results := [.lit (.bool false)], args := [d1, d2] }
  | _ => none }
def RibDiffsWrongFalsely : Prop := ribDiffsRow.holds Try.pinned (OpenSpec.ofChange ribDiffsWrong)

/-- 'tollbarlaw.StoreDecodes': WHATEVER THE INPUT: true; the input reads as it did. -/
def storeDecodesSpec : ChangeSpec := { name := "storeDecodes", fn := fun _ => fun
  | [d] => { results := [.lit (.bool true)], args := [d] }
  | _ => none }
def storeDecodesRow : OpenClaim := { program := "ytbpamllmbdcdfaa", sum := "b865df8a6371c454f921ba63852d4c5b89fb4c313d4abc3bd9a9d97bbc687f52", func := "tollbar/tollbarlaw.StoreDecodes", spec := "storeDecodes", unfollowed := true, recurses := true, apart := false }
def StoreDecodesSaid : Prop := storeDecodesRow.holds Try.pinned (OpenSpec.ofChange storeDecodesSpec)

/-- ITS FALSE NEIGHBOUR: 'it returns false'. Refute it at one input. -/
def storeDecodesWrong : ChangeSpec := { name := "storeDecodes", fn := fun _ => fun
  | [d] => { results := [.lit (.bool false)], args := [d] }
  | _ => none }
def StoreDecodesWrongFalsely : Prop := storeDecodesRow.holds Try.pinned (OpenSpec.ofChange storeDecodesWrong)

/-- 'tollbarkeep.StoresOnce': WHATEVER THE INPUT: true; the input reads as it did. -/
def storesOnceSpec : ChangeSpec := { name := "storesOnce", fn := fun _ => fun
  | [d] => { results := [.lit (.bool true)], args := [d] }
  | _ => none }
def storesOnceRow : OpenClaim := { program := "ytbpamllmbdcdfaa", sum := "b865df8a6371c454f921ba63852d4c5b89fb4c313d4abc3bd9a9d97bbc687f52", func := "tollbar/tollbarkeep.StoresOnce", spec := "storesOnce", unfollowed := true, recurses := true, apart := false }
def StoresOnceSaid : Prop := storesOnceRow.holds Try.pinned (OpenSpec.ofChange storesOnceSpec)

/-- ITS FALSE NEIGHBOUR: 'it returns false'. Refute it at one input. -/
def storesOnceWrong : ChangeSpec := { name := "storesOnce", fn := fun _ => fun
  | [d] => { results := [.lit (.bool false)], args := [d] }
  | _ => none }
def StoresOnceWrongFalsely : Prop := storesOnceRow.holds Try.pinned (OpenSpec.ofChange storesOnceWrong)

/-- 'tollbarlaw.StorePuts': WHATEVER THE INPUT: true; the input reads as it did. -/
def storePutsSpec : ChangeSpec := { name := "storePuts", fn := fun _ => fun
  | [d1, d2, d3, d4] => { results := [.lit (.bool true)], args := [d1, d2, d3, d4] }
  | _ => none }
def storePutsRow : OpenClaim := { program := "ytbpamllmbdcdfaa", sum := "b865df8a6371c454f921ba63852d4c5b89fb4c313d4abc3bd9a9d97bbc687f52", func := "tollbar/tollbarlaw.StorePuts", spec := "storePuts", inPlace := ["internal/bytealg.abigen_runtime_cmpstring", "slices.overlaps[tollbar/api.Entry]"], unfollowed := true, recurses := true, apart := false }
def StorePutsSaid : Prop := storePutsRow.holds Try.pinned (OpenSpec.ofChange storePutsSpec)

/-- ITS FALSE NEIGHBOUR: 'it returns false'. Refute it at one input. -/
def storePutsWrong : ChangeSpec := { name := "storePuts", fn := fun _ => fun
  | [d1, d2, d3, d4] => { results := [.lit (.bool false)], args := [d1, d2, d3, d4] }
  | _ => none }
def StorePutsWrongFalsely : Prop := storePutsRow.holds Try.pinned (OpenSpec.ofChange storePutsWrong)

/-- 'tollbarlaw.StoreMerges': WHATEVER THE INPUT: true; the input reads as it did. -/
def storeMergesSpec : ChangeSpec := { name := "storeMerges", fn := fun _ => fun
  | [d1, d2] => { results := [.lit (.bool true)], args := [d1, d2] }
  | _ => none }
def storeMergesRow : OpenClaim := { program := "ytbpamllmbdcdfaa", sum := "b865df8a6371c454f921ba63852d4c5b89fb4c313d4abc3bd9a9d97bbc687f52", func := "tollbar/tollbarlaw.StoreMerges", spec := "storeMerges", inPlace := ["internal/bytealg.abigen_runtime_cmpstring", "slices.overlaps[tollbar/api.Entry]"], unfollowed := true, recurses := true, apart := false }
def StoreMergesSaid : Prop := storeMergesRow.holds Try.pinned (OpenSpec.ofChange storeMergesSpec)

/-- ITS FALSE NEIGHBOUR: 'it returns false'. Refute it at one input. -/
def storeMergesWrong : ChangeSpec := { name := "storeMerges", fn := fun _ => fun
  | [d1, d2] => { results := [.lit (.bool false)], args := [d1, d2] }
  | _ => none }
def StoreMergesWrongFalsely : Prop := storeMergesRow.holds Try.pinned (OpenSpec.ofChange storeMergesWrong)

/-- 'tollbarkeep.MergesGrow': WHATEVER THE INPUT: true; the input reads as it did. -/
def mergesGrowSpec : ChangeSpec := { name := "mergesGrow", fn := fun _ => fun
  | [d1, d2] => { results := [.lit (.bool true)], args := [d1, d2] }
  | _ => none }
def mergesGrowRow : OpenClaim := { program := "ytbpamllmbdcdfaa", sum := "b865df8a6371c454f921ba63852d4c5b89fb4c313d4abc3bd9a9d97bbc687f52", func := "tollbar/tollbarkeep.MergesGrow", spec := "mergesGrow", inPlace := ["internal/bytealg.abigen_runtime_cmpstring", "slices.overlaps[tollbar/api.Entry]"], unfollowed := true, recurses := true, apart := false }
def MergesGrowSaid : Prop := mergesGrowRow.holds Try.pinned (OpenSpec.ofChange mergesGrowSpec)

/-- ITS FALSE NEIGHBOUR: 'it returns false'. Refute it at one input. -/
def mergesGrowWrong : ChangeSpec := { name := "mergesGrow", fn := fun _ => fun
  | [d1, d2] => { results := [.lit (.bool false)], args := [d1, d2] }
  | _ => none }
def MergesGrowWrongFalsely : Prop := mergesGrowRow.holds Try.pinned (OpenSpec.ofChange mergesGrowWrong)

/-- 'tollbarkeep.MergesAgree': WHATEVER THE INPUT: true; the input reads as it did. -/
def mergesAgreeSpec : ChangeSpec := { name := "mergesAgree", fn := fun _ => fun
  | [d1, d2, d3] => { results := [.lit (.bool true)], args := [d1, d2, d3] }
  | _ => none }
def mergesAgreeRow : OpenClaim := { program := "ytbpamllmbdcdfaa", sum := "b865df8a6371c454f921ba63852d4c5b89fb4c313d4abc3bd9a9d97bbc687f52", func := "tollbar/tollbarkeep.MergesAgree", spec := "mergesAgree", inPlace := ["internal/bytealg.abigen_runtime_cmpstring", "slices.overlaps[tollbar/api.Entry]"], unfollowed := true, recurses := true, apart := false }
def MergesAgreeSaid : Prop := mergesAgreeRow.holds Try.pinned (OpenSpec.ofChange mergesAgreeSpec)

/-- ITS FALSE NEIGHBOUR: 'it returns false'. Refute it at one input. -/
def mergesAgreeWrong : ChangeSpec := { name := "mergesAgree", fn := fun _ => fun
  | [d1, d2, d3] => { results := [.lit (.bool false)], args := [d1, d2, d3] }
  | _ => none }
def MergesAgreeWrongFalsely : Prop := mergesAgreeRow.holds Try.pinned (OpenSpec.ofChange mergesAgreeWrong)

/-- 'tollbarkeep.PutsCount': WHATEVER THE INPUT: true; the input reads as it did. -/
def putsCountSpec : ChangeSpec := { name := "putsCount", fn := fun _ => fun
  | [d1, d2, d3] => { results := [.lit (.bool true)], args := [d1, d2, d3] }
  | _ => none }
def putsCountRow : OpenClaim := { program := "ytbpamllmbdcdfaa", sum := "b865df8a6371c454f921ba63852d4c5b89fb4c313d4abc3bd9a9d97bbc687f52", func := "tollbar/tollbarkeep.PutsCount", spec := "putsCount", inPlace := ["internal/bytealg.abigen_runtime_cmpstring", "slices.overlaps[tollbar/api.Entry]"], unfollowed := true, recurses := true, apart := false }
def PutsCountSaid : Prop := putsCountRow.holds Try.pinned (OpenSpec.ofChange putsCountSpec)

/-- ITS FALSE NEIGHBOUR: 'it returns false'. Refute it at one input. -/
def putsCountWrong : ChangeSpec := { name := "putsCount", fn := fun _ => fun
  | [d1, d2, d3] => { results := [.lit (.bool false)], args := [d1, d2, d3] }
  | _ => none }
def PutsCountWrongFalsely : Prop := putsCountRow.holds Try.pinned (OpenSpec.ofChange putsCountWrong)

/-- 'tollbarkeep.StoresBack': WHATEVER THE INPUT: true; the input reads as it did. -/
def storesBackSpec : ChangeSpec := { name := "storesBack", fn := fun _ => fun
  | [d1, d2, d3] => { results := [.lit (.bool true)], args := [d1, d2, d3] }
  | _ => none }
def storesBackRow : OpenClaim := { program := "ytbpamllmbdcdfaa", sum := "b865df8a6371c454f921ba63852d4c5b89fb4c313d4abc3bd9a9d97bbc687f52", func := "tollbar/tollbarkeep.StoresBack", spec := "storesBack", inPlace := ["internal/bytealg.abigen_runtime_cmpstring", "slices.overlaps[tollbar/api.Entry]"], unfollowed := true, recurses := true, apart := false }
def StoresBackSaid : Prop := storesBackRow.holds Try.pinned (OpenSpec.ofChange storesBackSpec)

/-- ITS FALSE NEIGHBOUR: 'it returns false'. Refute it at one input. -/
def storesBackWrong : ChangeSpec := { name := "storesBack", fn := fun _ => fun
  | [d1, d2, d3] => { results := [.lit (.bool false)], args := [d1, d2, d3] }
  | _ => none }
def StoresBackWrongFalsely : Prop := storesBackRow.holds Try.pinned (OpenSpec.ofChange storesBackWrong)

/- THE SECOND FORM. 'bulk': how many values and letters a reading holds, each counted each time it is reached (what is shared counts as often as it is met; a slice's spare places count too). A statement '..UptoSaid' is the law's where the arguments, and the package variables that the reading takes, are together of bulk at most 1048576: NARROWER than '..Said'. Prove '..Said' where nothing that the law and all that it calls make is longer than what came in: it says more and counts as full. Else prove '..UptoSaid'. A law counts once. -/
mutual
def uptoBulk {H : Type} : DataW H → Nat
  | .lit (.string bytes) => bytes.length + 1
  | .lit _ => 1
  | .nil => 1
  | .ptr d => uptoBulk d + 1
  | .slice elems spare => uptoBulkAll elems + uptoBulkAll spare + 1
  | .agg parts => uptoBulkAll parts + 1
  | .iface _ d => uptoBulk d + 1
  | .map entries => uptoBulkEntries entries + 1
  | .held _ => 1
def uptoBulkAll {H : Type} : List (DataW H) → Nat
  | [] => 0
  | d :: r => uptoBulk d + uptoBulkAll r
def uptoBulkEntries {H : Type} : List (Lit × DataW H) → Nat
  | [] => 0
  | x :: r => uptoBulkEntry x + uptoBulkEntries r
def uptoBulkEntry {H : Type} : Lit × DataW H → Nat
  | (.string bytes, d) => bytes.length + uptoBulk d + 1
  | (_, d) => uptoBulk d + 1
 end
def uptoSmall : (H : Type) → List (DataW H) → Bool := fun _ ds => decide (uptoBulkAll ds ≤ 1048576)
def OpenSpec.upto (s : _root_.Go.ChangeSpec) : _root_.Go.OpenSpec := { _root_.Go.OpenSpec.ofChange s with cond := some uptoSmall }

/-- 'tollbarlaw.Names', WHERE WHAT IT READS IS OF BULK AT MOST 1048576: true; the input reads as it did. -/
def namesUptoRow : OpenClaim := { program := "ytbpamllmbdcdfaa", sum := "b865df8a6371c454f921ba63852d4c5b89fb4c313d4abc3bd9a9d97bbc687f52", func := "tollbar/tollbarlaw.Names", spec := "names", apart := false, narrowed := true }
def NamesUptoSaid : Prop := namesUptoRow.holds Try.pinned (OpenSpec.upto namesSpec)

/-- 'tollbarlaw.GraphAdjs', WHERE WHAT IT READS IS OF BULK AT MOST 1048576: true; the input reads as it did. -/
def graphAdjsUptoRow : OpenClaim := { program := "ytbpamllmbdcdfaa", sum := "b865df8a6371c454f921ba63852d4c5b89fb4c313d4abc3bd9a9d97bbc687f52", func := "tollbar/tollbarlaw.GraphAdjs", spec := "graphAdjs", apart := false, narrowed := true }
def GraphAdjsUptoSaid : Prop := graphAdjsUptoRow.holds Try.pinned (OpenSpec.upto graphAdjsSpec)

/-- 'tollbarlaw.StoreKeys', WHERE WHAT IT READS IS OF BULK AT MOST 1048576: true; the input reads as it did. -/
def storeKeysUptoRow : OpenClaim := { program := "ytbpamllmbdcdfaa", sum := "b865df8a6371c454f921ba63852d4c5b89fb4c313d4abc3bd9a9d97bbc687f52", func := "tollbar/tollbarlaw.StoreKeys", spec := "storeKeys", unfollowed := true, recurses := true, apart := false, narrowed := true }
def StoreKeysUptoSaid : Prop := storeKeysUptoRow.holds Try.pinned (OpenSpec.upto storeKeysSpec)

/-- 'tollbarlaw.GraphPrefixes', WHERE WHAT IT READS IS OF BULK AT MOST 1048576: true; the input reads as it did. -/
def graphPrefixesUptoRow : OpenClaim := { program := "ytbpamllmbdcdfaa", sum := "b865df8a6371c454f921ba63852d4c5b89fb4c313d4abc3bd9a9d97bbc687f52", func := "tollbar/tollbarlaw.GraphPrefixes", spec := "graphPrefixes", apart := false, narrowed := true }
def GraphPrefixesUptoSaid : Prop := graphPrefixesUptoRow.holds Try.pinned (OpenSpec.upto graphPrefixesSpec)

/-- 'tollbarlaw.StoreChecks', WHERE WHAT IT READS IS OF BULK AT MOST 1048576: true; the input reads as it did. -/
def storeChecksUptoRow : OpenClaim := { program := "ytbpamllmbdcdfaa", sum := "b865df8a6371c454f921ba63852d4c5b89fb4c313d4abc3bd9a9d97bbc687f52", func := "tollbar/tollbarlaw.StoreChecks", spec := "storeChecks", unfollowed := true, recurses := true, apart := false, narrowed := true }
def StoreChecksUptoSaid : Prop := storeChecksUptoRow.holds Try.pinned (OpenSpec.upto storeChecksSpec)

/-- 'tollbarlaw.StoreCompares', WHERE WHAT IT READS IS OF BULK AT MOST 1048576: true; the input reads as it did. -/
def storeComparesUptoRow : OpenClaim := { program := "ytbpamllmbdcdfaa", sum := "b865df8a6371c454f921ba63852d4c5b89fb4c313d4abc3bd9a9d97bbc687f52", func := "tollbar/tollbarlaw.StoreCompares", spec := "storeCompares", inPlace := ["internal/bytealg.abigen_runtime_cmpstring"], apart := false, narrowed := true }
def StoreComparesUptoSaid : Prop := storeComparesUptoRow.holds Try.pinned (OpenSpec.upto storeComparesSpec)

/-- 'tollbarlaw.RibChecks', WHERE WHAT IT READS IS OF BULK AT MOST 1048576: true; the input reads as it did. -/
def ribChecksUptoRow : OpenClaim := { program := "ytbpamllmbdcdfaa", sum := "b865df8a6371c454f921ba63852d4c5b89fb4c313d4abc3bd9a9d97bbc687f52", func := "tollbar/tollbarlaw.RibChecks", spec := "ribChecks", apart := false, narrowed := true }
def RibChecksUptoSaid : Prop := ribChecksUptoRow.holds Try.pinned (OpenSpec.upto ribChecksSpec)

/-- 'tollbarlaw.StoreEncodes', WHERE WHAT IT READS IS OF BULK AT MOST 1048576: true; the input reads as it did. -/
def storeEncodesUptoRow : OpenClaim := { program := "ytbpamllmbdcdfaa", sum := "b865df8a6371c454f921ba63852d4c5b89fb4c313d4abc3bd9a9d97bbc687f52", func := "tollbar/tollbarlaw.StoreEncodes", spec := "storeEncodes", unfollowed := true, recurses := true, apart := false, narrowed := true }
def StoreEncodesUptoSaid : Prop := storeEncodesUptoRow.holds Try.pinned (OpenSpec.upto storeEncodesSpec)

/-- 'tollbarlaw.StoreGets', WHERE WHAT IT READS IS OF BULK AT MOST 1048576: true; the input reads as it did. -/
def storeGetsUptoRow : OpenClaim := { program := "ytbpamllmbdcdfaa", sum := "b865df8a6371c454f921ba63852d4c5b89fb4c313d4abc3bd9a9d97bbc687f52", func := "tollbar/tollbarlaw.StoreGets", spec := "storeGets", inPlace := ["internal/bytealg.abigen_runtime_cmpstring"], unfollowed := true, recurses := true, apart := false, narrowed := true }
def StoreGetsUptoSaid : Prop := storeGetsUptoRow.holds Try.pinned (OpenSpec.upto storeGetsSpec)

/-- 'tollbarlaw.RibLooks', WHERE WHAT IT READS IS OF BULK AT MOST 1048576: true; the input reads as it did. -/
def ribLooksUptoRow : OpenClaim := { program := "ytbpamllmbdcdfaa", sum := "b865df8a6371c454f921ba63852d4c5b89fb4c313d4abc3bd9a9d97bbc687f52", func := "tollbar/tollbarlaw.RibLooks", spec := "ribLooks", apart := false, narrowed := true }
def RibLooksUptoSaid : Prop := ribLooksUptoRow.holds Try.pinned (OpenSpec.upto ribLooksSpec)

/-- 'tollbarlaw.RibDiffs', WHERE WHAT IT READS IS OF BULK AT MOST 1048576: true; the input reads as it did. -/
def ribDiffsUptoRow : OpenClaim := { program := "ytbpamllmbdcdfaa", sum := "b865df8a6371c454f921ba63852d4c5b89fb4c313d4abc3bd9a9d97bbc687f52", func := "tollbar/tollbarlaw.RibDiffs", spec := "ribDiffs", unfollowed := true, recurses := true, apart := false, narrowed := true }
def RibDiffsUptoSaid : Prop := ribDiffsUptoRow.holds Try.pinned (OpenSpec.upto ribDiffsSpec)

/-- 'tollbarlaw.StoreDecodes', WHERE WHAT IT READS IS OF BULK AT MOST 1048576: true; the input reads as it did. -/
def storeDecodesUptoRow : OpenClaim := { program := "ytbpamllmbdcdfaa", sum := "b865df8a6371c454f921ba63852d4c5b89fb4c313d4abc3bd9a9d97bbc687f52", func := "tollbar/tollbarlaw.StoreDecodes", spec := "storeDecodes", unfollowed := true, recurses := true, apart := false, narrowed := true }
def StoreDecodesUptoSaid : Prop := storeDecodesUptoRow.holds Try.pinned (OpenSpec.upto storeDecodesSpec)

/-- 'tollbarkeep.StoresOnce', WHERE WHAT IT READS IS OF BULK AT MOST 1048576: true; the input reads as it did. -/
def storesOnceUptoRow : OpenClaim := { program := "ytbpamllmbdcdfaa", sum := "b865df8a6371c454f921ba63852d4c5b89fb4c313d4abc3bd9a9d97bbc687f52", func := "tollbar/tollbarkeep.StoresOnce", spec := "storesOnce", unfollowed := true, recurses := true, apart := false, narrowed := true }
def StoresOnceUptoSaid : Prop := storesOnceUptoRow.holds Try.pinned (OpenSpec.upto storesOnceSpec)

/-- 'tollbarlaw.StorePuts', WHERE WHAT IT READS IS OF BULK AT MOST 1048576: true; the input reads as it did. -/
def storePutsUptoRow : OpenClaim := { program := "ytbpamllmbdcdfaa", sum := "b865df8a6371c454f921ba63852d4c5b89fb4c313d4abc3bd9a9d97bbc687f52", func := "tollbar/tollbarlaw.StorePuts", spec := "storePuts", inPlace := ["internal/bytealg.abigen_runtime_cmpstring", "slices.overlaps[tollbar/api.Entry]"], unfollowed := true, recurses := true, apart := false, narrowed := true }
def StorePutsUptoSaid : Prop := storePutsUptoRow.holds Try.pinned (OpenSpec.upto storePutsSpec)

/-- 'tollbarlaw.StoreMerges', WHERE WHAT IT READS IS OF BULK AT MOST 1048576: true; the input reads as it did. -/
def storeMergesUptoRow : OpenClaim := { program := "ytbpamllmbdcdfaa", sum := "b865df8a6371c454f921ba63852d4c5b89fb4c313d4abc3bd9a9d97bbc687f52", func := "tollbar/tollbarlaw.StoreMerges", spec := "storeMerges", inPlace := ["internal/bytealg.abigen_runtime_cmpstring", "slices.overlaps[tollbar/api.Entry]"], unfollowed := true, recurses := true, apart := false, narrowed := true }
def StoreMergesUptoSaid : Prop := storeMergesUptoRow.holds Try.pinned (OpenSpec.upto storeMergesSpec)

/-- 'tollbarkeep.MergesGrow', WHERE WHAT IT READS IS OF BULK AT MOST 1048576: true; the input reads as it did. -/
def mergesGrowUptoRow : OpenClaim := { program := "ytbpamllmbdcdfaa", sum := "b865df8a6371c454f921ba63852d4c5b89fb4c313d4abc3bd9a9d97bbc687f52", func := "tollbar/tollbarkeep.MergesGrow", spec := "mergesGrow", inPlace := ["internal/bytealg.abigen_runtime_cmpstring", "slices.overlaps[tollbar/api.Entry]"], unfollowed := true, recurses := true, apart := false, narrowed := true }
def MergesGrowUptoSaid : Prop := mergesGrowUptoRow.holds Try.pinned (OpenSpec.upto mergesGrowSpec)

/-- 'tollbarkeep.MergesAgree', WHERE WHAT IT READS IS OF BULK AT MOST 1048576: true; the input reads as it did. -/
def mergesAgreeUptoRow : OpenClaim := { program := "ytbpamllmbdcdfaa", sum := "b865df8a6371c454f921ba63852d4c5b89fb4c313d4abc3bd9a9d97bbc687f52", func := "tollbar/tollbarkeep.MergesAgree", spec := "mergesAgree", inPlace := ["internal/bytealg.abigen_runtime_cmpstring", "slices.overlaps[tollbar/api.Entry]"], unfollowed := true, recurses := true, apart := false, narrowed := true }
def MergesAgreeUptoSaid : Prop := mergesAgreeUptoRow.holds Try.pinned (OpenSpec.upto mergesAgreeSpec)

/-- 'tollbarkeep.PutsCount', WHERE WHAT IT READS IS OF BULK AT MOST 1048576: true; the input reads as it did. -/
def putsCountUptoRow : OpenClaim := { program := "ytbpamllmbdcdfaa", sum := "b865df8a6371c454f921ba63852d4c5b89fb4c313d4abc3bd9a9d97bbc687f52", func := "tollbar/tollbarkeep.PutsCount", spec := "putsCount", inPlace := ["internal/bytealg.abigen_runtime_cmpstring", "slices.overlaps[tollbar/api.Entry]"], unfollowed := true, recurses := true, apart := false, narrowed := true }
def PutsCountUptoSaid : Prop := putsCountUptoRow.holds Try.pinned (OpenSpec.upto putsCountSpec)

/-- 'tollbarkeep.StoresBack', WHERE WHAT IT READS IS OF BULK AT MOST 1048576: true; the input reads as it did. -/
def storesBackUptoRow : OpenClaim := { program := "ytbpamllmbdcdfaa", sum := "b865df8a6371c454f921ba63852d4c5b89fb4c313d4abc3bd9a9d97bbc687f52", func := "tollbar/tollbarkeep.StoresBack", spec := "storesBack", inPlace := ["internal/bytealg.abigen_runtime_cmpstring", "slices.overlaps[tollbar/api.Entry]"], unfollowed := true, recurses := true, apart := false, narrowed := true }
def StoresBackUptoSaid : Prop := storesBackUptoRow.holds Try.pinned (OpenSpec.upto storesBackSpec)

end Rows
end Go.Proofs.Ytbpamllmbdcdfaa
