/-
  
-/
import Derived.Test.YtbhbilenbbldnaaGreatDoorGStM
import Derived.Test.YtbhbilenbbldnaaGreatDoorGStE
set_option linter.unusedVariables false
set_option linter.unusedSimpArgs false
namespace Go.Proofs.YtbhbilenbbldnaaGreatDoor
open Go.RowKit
theorem above_irrefl (a : Entry) : aboveE a a = false := by unfold aboveE; simp [ltB_irrefl]
theorem above_lift {e g y : Entry} (h : aboveE e g = false) (h2 : aboveE y g = true) : aboveE e y = false := by
 unfold aboveE at *
 by_cases v1 : e.version = g.version <;> by_cases v2 : y.version = g.version <;> by_cases o1 : e.origin = g.origin <;> by_cases o2 : y.origin = g.origin <;> by_cases v3 : e.version = y.version <;> by_cases o3 : e.origin = y.origin <;> simp_all <;> first
  | omega
  | (rcases hl : ltB y.value e.value with _ | _
     · rfl
     · rw [ltB_trans h2 hl] at h; cases h)
  | skip
theorem find_iff {l : List Entry} (hl : l.Pairwise ltE) (k : ByteArray) (e : Entry) : findE l k = some e ↔ e ∈ l ∧ e.key = k := by
 constructor
 · intro h; exact (findE_key h).symm
 · rintro ⟨hm, rfl⟩
   obtain ⟨j, hj, rfl⟩ := List.getElem_of_mem hm
   have h1 := hasE_at hl l[j].key hj rfl
   have h2 := findE_some hl l[j].key (by omega) (by simp only [h1])
   simp only [h1] at h2
   exact h2
theorem find_none_iff {l : List Entry} (k : ByteArray) : findE l k = none ↔ ∀ e ∈ l, e.key ≠ k := by
 unfold findE
 rw [List.find?_eq_none]
 exact ⟨fun h e he hk => h e he (by simpa using hk), fun h e he hk => h e he (by simpa using hk)⟩
theorem mem_withE {l : List Entry} (hl : l.Pairwise ltE) (x e : Entry) : e ∈ withE l x ↔ e = x ∨ (e ∈ l ∧ e.key ≠ x.key) := by
 have hle := lbE_le l x.key
 unfold withE
 rw [List.mem_append, List.mem_cons]
 constructor
 · rintro (h | h | h)
   · right
     obtain ⟨i, hi, rfl⟩ := List.getElem_of_mem h
     rw [List.length_take] at hi
     rw [List.getElem_take]
     refine ⟨List.getElem_mem _, fun e => ?_⟩
     have := lbE_lt l x.key i (by omega) (by omega)
     rw [e, ltB_irrefl] at this; cases this
   · exact .inl h
   · right
     refine ⟨List.mem_of_mem_drop h, fun hk => ?_⟩
     obtain ⟨i, hi, rfl⟩ := List.getElem_of_mem h
     rw [List.length_drop] at hi
     rw [List.getElem_drop] at hk
     have h1 := hasE_at hl x.key (by omega) hk
     have h2 : hasE l x.key = true := by
      unfold hasE
      rw [List.any_eq_true]
      exact ⟨_, List.getElem_mem _, decide_eq_true hk⟩
     rw [if_pos h2] at h1
     omega
 · rintro (h | ⟨h, hk⟩)
   · exact .inr (.inl h)
   · obtain ⟨i, hi, rfl⟩ := List.getElem_of_mem h
     by_cases h1 : i < lbE l x.key
     · left
       rw [List.mem_iff_getElem]
       exact ⟨i, by rw [List.length_take]; omega, by rw [List.getElem_take]⟩
     · right; right
       rw [List.mem_iff_getElem]
       have hne : lbE l x.key + (if hasE l x.key = true then 1 else 0) ≤ i := by
        split
        · rename_i h2
          obtain ⟨hl2, hk2⟩ := (hasE_iff hl _).1 h2
          rcases Nat.lt_or_eq_of_le (Nat.le_of_not_lt h1) with h3 | h3
          · omega
          · exact absurd (by simp only [← h3]; exact hk2) hk
        · omega
       exact ⟨i - (lbE l x.key + if hasE l x.key = true then 1 else 0), by rw [List.length_drop]; omega, by rw [List.getElem_drop]; congr 1; omega⟩
theorem find_with_same {l : List Entry} (hl : l.Pairwise ltE) (x : Entry) : findE (withE l x) x.key = some x :=
 (find_iff (withE_ord hl x) _ _).2 ⟨(mem_withE hl x x).2 (.inl rfl), rfl⟩
theorem find_with_other {l : List Entry} (hl : l.Pairwise ltE) (x : Entry) {k : ByteArray} (hk : k ≠ x.key) : findE (withE l x) k = findE l k := by
 rcases h : findE l k with _ | e
 · rw [find_none_iff] at h ⊢
   intro e he hek
   rcases (mem_withE hl x e).1 he with rfl | ⟨h1, _⟩
   · exact hk hek.symm
   · exact h e h1 hek
 · rw [find_iff hl] at h
   rw [find_iff (withE_ord hl x)]
   exact ⟨(mem_withE hl x e).2 (.inr ⟨h.1, by rw [h.2]; exact hk⟩), h.2⟩
theorem step_grow {p : List Entry × List ByteArray} {y e g : Entry} (hp : p.1.Pairwise ltE) (hg : findE p.1 e.key = some g) (ha : aboveE e g = false) : ∃ g', findE (mergeStep aboveE p y).1 e.key = some g' ∧ aboveE e g' = false := by
 unfold mergeStep
 rcases hf : findE p.1 y.key with _ | o
 · simp only
   split
   · by_cases hk : e.key = y.key
     · rw [hk, hf] at hg; cases hg
     · exact ⟨g, by simp only; rw [find_with_other hp y hk]; exact hg, ha⟩
   · exact ⟨g, hg, ha⟩
 · simp only
   split
   · rename_i hab
     by_cases hk : e.key = y.key
     · rw [hk, hf] at hg
       injection hg with hg
       subst hg
       exact ⟨y, by simp only; rw [hk]; exact find_with_same hp y, above_lift ha hab⟩
     · exact ⟨g, by simp only; rw [find_with_other hp y hk]; exact hg, ha⟩
   · exact ⟨g, hg, ha⟩
theorem mTo_grow {a b : List Entry} (ha : OkS a) (hb : ∀ e ∈ b, entryOk e = true) {e : Entry} (he : e ∈ a) : ∀ k, k ≤ b.length → ∃ g, findE (mTo a b k).1 e.key = some g ∧ aboveE e g = false
 | 0, _ => ⟨e, (find_iff ha.ord _ _).2 ⟨he, rfl⟩, above_irrefl e⟩
 | k + 1, hk => by
   obtain ⟨g, h1, h2⟩ := mTo_grow ha hb he k (by omega)
   rw [mTo_succ a b k (by omega)]
   exact step_grow (mTo_ok ha hb k).ord h1 h2
theorem step_len {p : List Entry × List ByteArray} (hp : p.1.Pairwise ltE) (y : Entry) : p.1.length ≤ (mergeStep aboveE p y).1.length := by
 unfold mergeStep
 split
 · split
   · simp only; rw [withE_len hp]; omega
   · exact Nat.le_refl _
 · split
   · simp only; rw [withE_len hp]; omega
   · exact Nat.le_refl _
theorem mTo_len_ge {a b : List Entry} (ha : OkS a) (hb : ∀ e ∈ b, entryOk e = true) : ∀ k, k ≤ b.length → a.length ≤ (mTo a b k).1.length
 | 0, _ => Nat.le_refl _
 | k + 1, hk => by
   rw [mTo_succ a b k (by omega)]
   exact Nat.le_trans (mTo_len_ge ha hb k (by omega)) (step_len (mTo_ok ha hb k).ord _)
theorem merge_grow {a b : List Entry} (ha : OkS a) (hb : OkS b) : OkS (mergeS aboveE a b).1 ∧ (∀ e ∈ a, ∃ g, getS (mergeS aboveE a b).1 e.key = (g, 0) ∧ ¬ cmpE g e < 0) ∧ a.length ≤ (mergeS aboveE a b).1.length := by
 rw [merge_ok ha.check hb.check]
 have hok := mTo_ok ha hb.ok b.length
 refine ⟨hok, fun e he => ?_, mTo_len_ge ha hb.ok _ (Nat.le_refl _)⟩
 obtain ⟨g, h1, h2⟩ := mTo_grow ha hb.ok he b.length (Nat.le_refl _)
 refine ⟨g, by unfold getS; rw [if_pos hok.check]; simp only; rw [h1], ?_⟩
 rw [cmpE_above, h2]
 split <;> simp
end Go.Proofs.YtbhbilenbbldnaaGreatDoor
