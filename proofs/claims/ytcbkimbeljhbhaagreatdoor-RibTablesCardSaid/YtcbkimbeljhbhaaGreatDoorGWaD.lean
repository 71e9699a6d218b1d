/-
  What all nodes tell: the graph that a store's entries make, as graph.Read builds it. Plain lemmas, no program in sight.
-/
import Derived.Test.YtcbkimbeljhbhaaGreatDoorGDoK
set_option linter.unusedVariables false
set_option linter.unusedSimpArgs false
namespace Go.Proofs.YtcbkimbeljhbhaaGreatDoor

structure Gph where
  C : Nat → Nat → Int
  D : Nat → Bool
  P : Nat → List Prefix
def kindE (e : Entry) : List UInt8 := (cutB 58 e.key.data.toList).1
def nodeE (e : Entry) : Int := numD 11 (cutB 58 e.key.data.toList).2.1
def updC (C : Nat → Nat → Int) (n m : Nat) (x : Int) : Nat → Nat → Int := fun a b => if a = n ∧ b = m then x else C a b
def sideC1 (n : Nat) (C : Nat → Nat → Int) (x : Side) : Nat → Nat → Int := if x.node = n then C else updC C n x.node.toNat x.cost
def putSides (C : Nat → Nat → Int) (n : Nat) (l : List Side) : Nat → Nat → Int := l.foldl (sideC1 n) C
def stepA (g : Gph) (n : Nat) (v : List UInt8) : Gph := { C := putSides g.C n (readAdj v).2.1, D := fun a => if a = n then (readAdj v).1 else g.D a, P := g.P }
def stepP (g : Gph) (n : Nat) (v : List UInt8) : Gph := { g with P := fun a => if a = n then (readPrefs v).1 else g.P a }
def stepE (g : Gph) (e : Entry) : Gph :=
  if nodeE e < 0 then g else if kindE e = [97] then stepA g (nodeE e).toNat e.value.data.toList else if kindE e = [112] then stepP g (nodeE e).toNat e.value.data.toList else g
def gph0 : Gph := ⟨fun _ _ => 0, fun _ => false, fun _ => []⟩
def gphTo (xs : List Entry) (k : Nat) : Gph := (xs.take k).foldl stepE gph0
theorem gphTo_succ {xs : List Entry} {k : Nat} (hk : k < xs.length) : gphTo xs (k + 1) = stepE (gphTo xs k) xs[k] := by
  unfold gphTo
  rw [List.take_add_one, List.getElem?_eq_getElem hk, List.foldl_append]
  rfl
theorem putSides_succ {C : Nat → Nat → Int} {n : Nat} {l : List Side} {k : Nat} (hk : k < l.length) : putSides C n (l.take (k + 1)) = sideC1 n (putSides C n (l.take k)) l[k] := by
  unfold putSides
  rw [List.take_add_one, List.getElem?_eq_getElem hk, List.foldl_append]
  rfl
/-- done: the pairs ahead of (i, k) -/
def symTo (C : Nat → Nat → Int) (i k : Nat) (a b : Nat) : Int :=
  if (max a b < i ∨ (max a b = i ∧ min a b < k)) ∧ a ≠ b ∧ (C a b = 0 ∨ C b a = 0) then 0 else C a b
def symAll (C : Nat → Nat → Int) (a b : Nat) : Int := if a ≠ b ∧ (C a b = 0 ∨ C b a = 0) then 0 else C a b
def graphS (xs : List Entry) : Gph := { C := symAll (gphTo xs xs.length).C, D := (gphTo xs xs.length).D, P := (gphTo xs xs.length).P }

theorem nodeE_cases (e : Entry) : nodeE e < 0 ∨ ∃ n : Nat, nodeE e = n ∧ n < 12 := by
  have := num_le 11 (by omega) (cutB 58 e.key.data.toList).2.1
  unfold nodeE
  rcases Int.lt_or_le (numD 11 (cutB 58 e.key.data.toList).2.1) 0 with h | h
  · exact .inl h
  · exact .inr ⟨(numD 11 (cutB 58 e.key.data.toList).2.1).toNat, by omega, by omega⟩
theorem sym_same {C : Nat → Nat → Int} {i k a b : Nat} (h : ¬ (C i k = 0 ∨ C k i = 0)) (hk : k < i) : symTo C i (k + 1) a b = symTo C i k a b := by
  unfold symTo
  by_cases hd : max a b < i ∨ (max a b = i ∧ min a b < k)
  · have : max a b < i ∨ (max a b = i ∧ min a b < k + 1) := by omega
    simp only [hd, this]
  · by_cases hd2 : max a b < i ∨ (max a b = i ∧ min a b < k + 1)
    · have h1 : (a = i ∧ b = k) ∨ (a = k ∧ b = i) := by omega
      rcases h1 with ⟨rfl, rfl⟩ | ⟨rfl, rfl⟩
      · rw [if_neg (fun e => h e.2.2), if_neg (fun e => h e.2.2)]
      · rw [if_neg (fun e => h (e.2.2.symm)), if_neg (fun e => h (e.2.2.symm))]
    · simp only [hd, hd2]
theorem sym_cut {C : Nat → Nat → Int} {i k a b : Nat} (h : C i k = 0 ∨ C k i = 0) (hk : k < i) : symTo C i (k + 1) a b = if (a = i ∧ b = k) ∨ (a = k ∧ b = i) then 0 else symTo C i k a b := by
  unfold symTo
  by_cases h1 : (a = i ∧ b = k) ∨ (a = k ∧ b = i)
  · rw [if_pos h1, if_pos]
    rcases h1 with ⟨rfl, rfl⟩ | ⟨rfl, rfl⟩
    · exact ⟨by omega, by omega, h⟩
    · exact ⟨by omega, by omega, h.symm⟩
  · rw [if_neg h1]
    have : (max a b < i ∨ (max a b = i ∧ min a b < k + 1)) ↔ (max a b < i ∨ (max a b = i ∧ min a b < k)) := by omega
    simp only [this]
theorem sym_row {C : Nat → Nat → Int} {i a b : Nat} : symTo C (i + 1) 0 a b = symTo C i i a b := by
  unfold symTo
  by_cases e : a = b
  · rw [if_neg (fun h => h.2.1 e), if_neg (fun h => h.2.1 e)]
  · have : (max a b < i + 1 ∨ (max a b = i + 1 ∧ min a b < 0)) ↔ (max a b < i ∨ (max a b = i ∧ min a b < i)) := by omega
    simp only [this]
theorem sym_zero {C : Nat → Nat → Int} {a b : Nat} : symTo C 0 0 a b = C a b := by
  unfold symTo; rw [if_neg (fun h => by omega)]
theorem sym_end {C : Nat → Nat → Int} {a b : Nat} (ha : a < 12) (hb : b < 12) : symTo C 12 0 a b = symAll C a b := by
  unfold symTo symAll
  have : (max a b < 12 ∨ (max a b = 12 ∧ min a b < 0)) := by omega
  simp only [this, true_and]
end Go.Proofs.YtcbkimbeljhbhaaGreatDoor
