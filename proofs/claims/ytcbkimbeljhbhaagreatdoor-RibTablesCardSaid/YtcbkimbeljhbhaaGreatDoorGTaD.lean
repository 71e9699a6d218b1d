/-
  Hops joined: sorted and each once. Plain lemmas, no program in sight.
-/
import Derived.Test.YtcbkimbeljhbhaaGreatDoorGTaB
import Derived.Lib.SlicesCompact
set_option linter.unusedVariables false
set_option linter.unusedSimpArgs false
namespace Go.Proofs.YtcbkimbeljhbhaaGreatDoor
open Go

theorem compact_mem {zs : List Int} {x : Int} : x ∈ Lib.compact zs ↔ x ∈ zs := by
  unfold Lib.compact Lib.compactUpTo
  rw [List.mem_map]
  constructor
  · rintro ⟨j, hj, rfl⟩
    have hl := List.mem_range.1 (List.mem_filter.1 hj).1
    rw [getElem!_pos _ j (by simpa using hl)]
    exact List.getElem_mem _
  · intro hx
    have key : ∀ n j, j < n → (hj : j < zs.length) → zs[j] = x → ∃ i, ∃ hi : i < zs.length, zs[i] = x ∧ Lib.keeps zs.toArray i = true := by
      intro n
      induction n with
      | zero => intro j h; omega
      | succ n ih =>
        intro j hjn hj he
        by_cases hk : Lib.keeps zs.toArray j = true
        · exact ⟨j, hj, he, hk⟩
        · have h0 : j ≠ 0 := fun e => hk (by subst e; exact Lib.keeps_lt_one _ 0 (by omega))
          have h1 : zs.toArray[j]! = zs.toArray[j - 1]! := Classical.byContradiction fun hne => hk (Lib.keeps_pos hne)
          rw [getElem!_pos _ j (by simpa using hj), getElem!_pos _ (j - 1) (by simp; omega)] at h1
          exact ih (j - 1) (by omega) (by omega) (by rw [← he]; exact h1.symm)
    obtain ⟨j, hj, he⟩ := List.getElem_of_mem hx
    obtain ⟨i, hi, h1, h2⟩ := key (j + 1) j (by omega) hj he
    refine ⟨i, List.mem_filter.2 ⟨List.mem_range.2 hi, h2⟩, ?_⟩
    rw [getElem!_pos _ i (by simpa using hi)]; exact h1
theorem compact_lt {zs : List Int} (hs : zs.Pairwise (· ≤ ·)) : (Lib.compact zs).Pairwise (· < ·) := by
  unfold Lib.compact Lib.compactUpTo
  rw [List.pairwise_map]
  have hr : (List.range zs.length).Pairwise (· < ·) := List.pairwise_lt_range
  have hp := List.Pairwise.filter (Lib.keeps zs.toArray) hr
  refine List.Pairwise.imp_of_mem ?_ hp
  intro i j hi hj hij
  have hjl := List.mem_range.1 (List.mem_filter.1 hj).1
  have hk := (List.mem_filter.1 hj).2
  rw [getElem!_pos _ i (by simp; omega), getElem!_pos _ j (by simpa using hjl)]
  have hne : zs[j] ≠ zs[j - 1]'(by omega) := by
    intro e
    have hf := Lib.keeps_neg (d := zs.toArray) (m := j) (by omega) (by rw [getElem!_pos _ j (by simpa using hjl), getElem!_pos _ (j - 1) (by simp; omega)]; exact e)
    rw [hf] at hk; cases hk
  have h1 : zs[j - 1]'(by omega) ≤ zs[j] := List.pairwise_iff_getElem.1 hs (j - 1) j (by omega) hjl (by omega)
  have h2 : zs[i]'(by omega) ≤ zs[j - 1]'(by omega) := by
    by_cases e : i = j - 1
    · subst e; exact Int.le_refl _
    · exact List.pairwise_iff_getElem.1 hs i (j - 1) (by omega) (by omega) (by omega)
  show zs[i]'(by omega) < zs[j]
  omega
theorem strict_ext : ∀ {l m : List Int}, l.Pairwise (· < ·) → m.Pairwise (· < ·) → (∀ x, x ∈ l ↔ x ∈ m) → l = m
  | [], [], _, _, _ => rfl
  | [], y :: m, _, _, h => by have := (h y).2 (by simp); cases this
  | x :: l, [], _, _, h => by have := (h x).1 (by simp); cases this
  | x :: l, y :: m, hl, hm, h => by
    obtain ⟨h1, h2⟩ := List.pairwise_cons.1 hl
    obtain ⟨g1, g2⟩ := List.pairwise_cons.1 hm
    have hxy : x = y := by
      rcases List.mem_cons.1 ((h x).1 (by simp)) with e | e
      · exact e
      · rcases List.mem_cons.1 ((h y).2 (by simp)) with e2 | e2
        · exact e2.symm
        · have := g1 x e; have := h1 y e2; omega
    subst hxy
    have : l = m := strict_ext h2 g2 (fun z => by
      have hz := h z
      rw [List.mem_cons, List.mem_cons] at hz
      constructor
      · intro hl
        rcases hz.1 (.inr hl) with e | e
        · have := h1 z hl; omega
        · exact e
      · intro hm
        rcases hz.2 (.inr hm) with e | e
        · have := g1 z hm; omega
        · exact e)
    rw [this]
theorem nodes12_lt : nodes12.Pairwise (· < ·) := by decide
theorem nodes12_mem {k : Int} : k ∈ nodes12 ↔ 0 ≤ k ∧ k ≤ 11 := by
  unfold nodes12
  rw [List.mem_map]
  constructor
  · rintro ⟨n, hn, rfl⟩
    have := List.mem_range.1 hn; omega
  · intro h
    exact ⟨k.toNat, List.mem_range.2 (by omega), by omega⟩
theorem join_sort {a b : List Int} (ha : ∀ x ∈ a, 0 ≤ x ∧ x ≤ 11) (hb : ∀ x ∈ b, 0 ≤ x ∧ x ≤ 11) :
    Lib.compact ((a ++ b).mergeSort fun x y => decide (x ≤ y)) = joinS a b := by
  have hs : ((a ++ b).mergeSort fun x y => decide (x ≤ y)).Pairwise (· ≤ ·) := by
    have := List.pairwise_mergeSort (le := fun (x y : Int) => decide (x ≤ y)) (fun x y z h1 h2 => by simp at *; omega) (fun x y => by simp; omega) (a ++ b)
    exact this.imp (fun h => by simpa using h)
  refine strict_ext (compact_lt hs) (nodes12_lt.filter _) (fun x => ?_)
  unfold joinS
  rw [compact_mem, List.mem_mergeSort, List.mem_append, List.mem_filter, nodes12_mem]
  simp only [Bool.or_eq_true, List.contains_iff_mem]
  constructor
  · rintro (h | h)
    · exact ⟨ha x h, .inl h⟩
    · exact ⟨hb x h, .inr h⟩
  · rintro ⟨_, h | h⟩
    · exact .inl h
    · exact .inr h
theorem canon_in {l : List Int} (h : Canon l) : ∀ x ∈ l, 0 ≤ x ∧ x ≤ 11 := by
  intro x hx
  rw [← h] at hx
  exact nodes12_mem.1 (List.mem_filter.1 hx).1
theorem canon_join (a b : List Int) : Canon (joinS a b) := canon_filter _
end Go.Proofs.YtcbkimbeljhbhaaGreatDoor
