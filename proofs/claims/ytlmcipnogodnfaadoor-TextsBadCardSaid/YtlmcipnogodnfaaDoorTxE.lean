/-
  The texts that can't be read, and what is wrong with each. Plain lemmas, no program in sight.
-/
import Derived.Test.YtlmcipnogodnfaaDoorTxD
namespace Go.Proofs.YtlmcipnogodnfaaDoor
open Go Go.RowKit

def oddL : List ByteArray := [⟨#[49]⟩, ⟨#[49, 61]⟩, ⟨#[61, 49]⟩, ⟨#[49, 61, 48, 49]⟩, ⟨#[49, 61, 50, 44]⟩, ⟨#[44, 49, 61, 50]⟩, ⟨#[49, 61, 50, 59, 51, 61, 52]⟩, ⟨#[49, 50, 61, 49]⟩, ⟨#[49, 61, 48]⟩, ⟨#[49, 61, 49, 48, 48, 49]⟩, ⟨#[50, 61, 49, 44, 49, 61, 49]⟩, ⟨#[49, 61, 49, 44, 49, 61, 50]⟩, ⟨#[33, 33, 49, 61, 49]⟩, ⟨#[32, 49, 61, 49]⟩, ⟨#[49, 61, 45, 49]⟩]
def errL : List Int := [4, 4, 4, 4, 4, 4, 4, 2, 2, 2, 7, 7, 4, 4, 4]
def badL : List ByteArray := [⟨#[49]⟩, ⟨#[49, 47]⟩, ⟨#[49, 47, 57]⟩, ⟨#[50, 53, 54, 47, 56]⟩, ⟨#[49, 47, 55]⟩, ⟨#[54, 52, 47, 50, 44, 48, 47, 49]⟩, ⟨#[48, 47, 49, 44, 48, 47, 49]⟩, ⟨#[48, 47, 48, 44]⟩, ⟨#[48, 47, 56, 44, 49, 47, 56, 44, 50, 47, 56, 44, 51, 47, 56, 44, 52, 47, 56, 44, 53, 47, 56, 44, 54, 47, 56]⟩]
def errL2 : List Int := [4, 4, 2, 2, 4, 7, 7, 4, 1]
/-- reading, by the document's way of numbers -/
def pairR (b : UInt8) (s : List UInt8) : Option (Int × Int) :=
  if (cutB b s).2.2 = true ∧ 0 ≤ numR (cutB b s).1 ∧ 0 ≤ numR (cutB b s).2.1 then some (numR (cutB b s).1, numR (cutB b s).2.1) else none
def pairsR (b : UInt8) : List (List UInt8) → Option (List (Int × Int))
  | [] => some []
  | p :: r => match pairR b p with
    | none => none
    | some x => match pairsR b r with
      | none => none
      | some l => some (x :: l)
theorem pairR_eq (b : UInt8) (s : List UInt8) : pairD b s = pairR b s := by unfold pairD pairR; rw [num_ref, num_ref]
theorem pairsR_eq (b : UInt8) : ∀ l, pairsD b l = pairsR b l
  | [] => rfl
  | p :: r => by unfold pairsD pairsR; rw [pairR_eq, pairsR_eq b r]; rfl
def readAdjR (s : List UInt8) : Bool × List Side × Int :=
  match pairsR 61 (partsC (Lib.trimPrefix s [33])) with
  | none => (false, [], 4)
  | some l => if chkSides (l.map fun x => ⟨x.1, x.2⟩) = 0 then (Lib.hasPrefix s [33], l.map fun x => ⟨x.1, x.2⟩, 0) else (false, [], chkSides (l.map fun x => ⟨x.1, x.2⟩))
def readPrefsR (s : List UInt8) : List Prefix × Int :=
  match pairsR 47 (partsC s) with
  | none => ([], 4)
  | some l => if chkPrefs (l.map fun x => ⟨x.1, x.2⟩) = 0 then (l.map fun x => ⟨x.1, x.2⟩, 0) else ([], chkPrefs (l.map fun x => ⟨x.1, x.2⟩))
theorem readAdjR_eq (s : List UInt8) : readAdj s = readAdjR s := by unfold readAdj readAdjR; rw [pairsR_eq]; rfl
theorem readPrefsR_eq (s : List UInt8) : readPrefs s = readPrefsR s := by unfold readPrefs readPrefsR; rw [pairsR_eq]; rfl
set_option maxRecDepth 100000 in
theorem odd_facts : ∀ i, i < 15 → (readAdjR (oddL.getD i ⟨#[]⟩).data.toList).1 = false ∧ (readAdjR (oddL.getD i ⟨#[]⟩).data.toList).2.1.length = 0 ∧ (readAdjR (oddL.getD i ⟨#[]⟩).data.toList).2.2 = errL.getD i 0 ∧ (oddL.getD i ⟨#[]⟩).size ≤ 100 := by decide +kernel
set_option maxRecDepth 100000 in
theorem bad_facts : ∀ i, i < 9 → (readPrefsR (badL.getD i ⟨#[]⟩).data.toList).1.length = 0 ∧ (readPrefsR (badL.getD i ⟨#[]⟩).data.toList).2 = errL2.getD i 0 ∧ (badL.getD i ⟨#[]⟩).size ≤ 100 := by decide +kernel
theorem odd_read {i : Nat} (h : i < 15) : readAdj (oddL.getD i ⟨#[]⟩).data.toList = (false, [], errL.getD i 0) := by
  obtain ⟨h1, h2, h3, _⟩ := odd_facts i h
  rw [readAdjR_eq]
  exact Prod.ext h1 (Prod.ext (List.eq_nil_of_length_eq_zero h2) h3)
theorem bad_read {i : Nat} (h : i < 9) : readPrefs (badL.getD i ⟨#[]⟩).data.toList = ([], errL2.getD i 0) := by
  obtain ⟨h1, h2, _⟩ := bad_facts i h
  rw [readPrefsR_eq]
  exact Prod.ext (List.eq_nil_of_length_eq_zero h1) h2
end Go.Proofs.YtlmcipnogodnfaaDoor
