/-
  What is shown is read as it was, and what is read is shown as it was. Plain lemmas, no program in sight.
-/
import Derived.Test.YtcbkimbeljhbhaaGreatDoorGDoG
set_option linter.unusedVariables false
set_option linter.unusedSimpArgs false
namespace Go.Proofs.YtcbkimbeljhbhaaGreatDoor
open Go Go.RowKit

theorem not_dec {b : UInt8} (hb : ¬ isD b) (n : Nat) : b ∉ Lib.decDigits n := fun h => hb (dec_dig n b h)
theorem pair_read {b : UInt8} (hb : ¬ isD b) {x y : Int} (hx : 0 ≤ x) (hx2 : x ≤ 100000) (hy : 0 ≤ y) (hy2 : y ≤ 100000) : pairD b (pairT b x y) = some (x, y) := by
  obtain ⟨m, rfl⟩ := Int.eq_ofNat_of_zero_le hx
  obtain ⟨n, rfl⟩ := Int.eq_ofNat_of_zero_le hy
  unfold pairD pairT
  rw [cutB_at _ (not_dec hb _)]
  simp only [Int.toNat_natCast]
  rw [num_dec m 100000 hx2 (by omega), num_dec n 100000 hy2 (by omega), if_pos ⟨trivial, hx, hy⟩]
theorem cutB_inv {b : UInt8} : ∀ {s : List UInt8}, (cutB b s).2.2 = true → s = (cutB b s).1 ++ b :: (cutB b s).2.1
  | [], h => by simp [cutB] at h
  | c :: r, h => by
    by_cases e : c = b
    · unfold cutB; rw [if_pos e]; subst e; rfl
    · unfold cutB at h ⊢
      rw [if_neg e] at h ⊢
      have := cutB_inv (s := r) h
      conv => lhs; rw [this]
      rfl
theorem pair_back {b : UInt8} {p : List UInt8} {x : Int × Int} (h : pairD b p = some x) : p = pairT b x.1 x.2 := by
  unfold pairD at h
  split at h
  · rename_i hc
    injection h with h; subst h
    obtain ⟨h1, h2, h3⟩ := hc
    have e := cutB_inv h1
    obtain ⟨m, e1, _, e2⟩ := num_inv h2
    obtain ⟨n, e3, _, e4⟩ := num_inv h3
    unfold pairT
    simp only
    rw [e2, e4, Int.toNat_natCast, Int.toNat_natCast, ← e1, ← e3]
    exact e
  · cases h
theorem pairs_read {b : UInt8} (hb : ¬ isD b) : ∀ {l : List (Int × Int)}, (∀ z ∈ l, 0 ≤ z.1 ∧ z.1 ≤ 100000 ∧ 0 ≤ z.2 ∧ z.2 ≤ 100000) → pairsD b (l.map fun z => pairT b z.1 z.2) = some l
  | [], _ => rfl
  | z :: l, h => by
    obtain ⟨h1, h2, h3, h4⟩ := h z (by simp)
    rw [List.map_cons]
    unfold pairsD
    rw [pair_read hb h1 h2 h3 h4, pairs_read hb (l := l) (fun y hy => h y (by simp [hy]))]
theorem pairs_back {b : UInt8} : ∀ {ps : List (List UInt8)} {l : List (Int × Int)}, pairsD b ps = some l → ps = l.map fun z => pairT b z.1 z.2
  | [], l, h => by simp [pairsD] at h; subst h; rfl
  | p :: ps, l, h => by
    unfold pairsD at h
    rcases hp : pairD b p with _ | y
    · rw [hp] at h; cases h
    · rcases hl : pairsD b ps with _ | m
      · rw [hp, hl] at h; cases h
      · rw [hp, hl] at h; simp at h; subst h
        rw [List.map_cons, ← pairs_back hl, ← pair_back hp]
theorem join_ne {x : List UInt8} {l : List (List UInt8)} (h : x ≠ []) : Lib.join (x :: l) [44] ≠ [] := by
  rw [Lib.join_cons]
  intro e
  exact h (List.append_eq_nil_iff.1 e).1
theorem parts_join {l : List (List UInt8)} (h : ∀ x ∈ l, x ≠ [] ∧ (44 : UInt8) ∉ x) : partsC (Lib.join l [44]) = l := by
  rcases l with _ | ⟨x, l⟩
  · rfl
  · unfold partsC
    rw [if_neg (join_ne (h x (by simp)).1), split_join (by simp) (fun y hy => (h y hy).2)]
theorem join_parts (s : List UInt8) : Lib.join (partsC s) [44] = s := by
  unfold partsC
  split
  · rename_i e; rw [e]; rfl
  · exact join_split 44 s
theorem pair_ne (b : UInt8) (x y : Int) : pairT b x y ≠ [] := by unfold pairT; simp
theorem pair_44 {b : UInt8} (hb : b ≠ 44) (x y : Int) : (44 : UInt8) ∉ pairT b x y := by
  have h44 : ¬ isD 44 := by decide
  unfold pairT
  intro h
  rcases List.mem_append.1 h with h | h
  · exact not_dec h44 _ h
  · rcases List.mem_cons.1 h with h | h
    · exact hb h.symm
    · exact not_dec h44 _ h
theorem pair_head {b : UInt8} {x y : Int} : ∃ c r, pairT b x y = c :: r ∧ isD c := by
  unfold pairT
  obtain ⟨c, r, e⟩ := List.exists_cons_of_ne_nil (dec_ne x.toNat)
  refine ⟨c, r ++ b :: Lib.decDigits y.toNat, by rw [e]; rfl, dec_dig x.toNat c (by rw [e]; simp)⟩

/-- READ AS SHOWN: prefixes -/
theorem prefs_read {l : List Prefix} (h : chkPrefs l = 0) : readPrefs (prefsT l) = (l, 0) := by
  have ha := prefs_all h
  have e : l.map prefT = (l.map fun p => (p.addr, p.bits)).map fun z => pairT 47 z.1 z.2 := by rw [List.map_map]; rfl
  have hm : (l.map fun p => (p.addr, p.bits)).map (fun z => (⟨z.1, z.2⟩ : Prefix)) = l := by
    rw [List.map_map]
    exact (List.map_congr_left (g := id) (fun _ _ => rfl)).trans (List.map_id l)
  unfold readPrefs prefsT
  rw [parts_join (by
    intro x hx
    obtain ⟨p, _, rfl⟩ := List.mem_map.1 hx
    exact ⟨pair_ne _ _ _, pair_44 (by decide) _ _⟩), e, pairs_read (by decide) (by
    intro z hz
    obtain ⟨p, hp, rfl⟩ := List.mem_map.1 hz
    obtain ⟨i, hi, rfl⟩ := List.getElem_of_mem hp
    obtain ⟨h1, h2, h3, h4⟩ := ha i hi
    exact ⟨h3, by omega, h1, by omega⟩)]
  simp only
  rw [hm, if_pos h]
/-- .. links -/
theorem adj_trim (d : Bool) (l : List Side) : Lib.trimPrefix (adjT d l) [33] = Lib.join (l.map sideT) [44] ∧ Lib.hasPrefix (adjT d l) [33] = d := by
  cases d with
  | true =>
    have e : adjT true l = 33 :: Lib.join (l.map sideT) [44] := rfl
    have h : Lib.hasPrefix (adjT true l) [33] = true := by rw [e]; unfold Lib.hasPrefix; simp [List.isPrefixOf]
    refine ⟨?_, h⟩
    unfold Lib.trimPrefix
    rw [if_pos h, e]; rfl
  | false =>
    have e : adjT false l = Lib.join (l.map sideT) [44] := rfl
    have h : Lib.hasPrefix (adjT false l) [33] = false := by
      rw [e]
      rcases l with _ | ⟨s, l⟩
      · rfl
      · obtain ⟨c, r, e1, hc⟩ := pair_head (b := 61) (x := s.node) (y := s.cost)
        rw [List.map_cons, Lib.join_cons, show sideT s = c :: r from e1]
        unfold Lib.hasPrefix
        have : (33 == c) = false := by rw [beq_eq_false_iff_ne]; rintro rfl; exact absurd hc (by decide)
        simp [List.isPrefixOf, this]
    refine ⟨?_, h⟩
    unfold Lib.trimPrefix
    rw [if_neg (by rw [h]; simp), e]
theorem adj_read {d : Bool} {l : List Side} (h : chkSides l = 0) : readAdj (adjT d l) = (d, l, 0) := by
  have ha := sides_all h
  have e : l.map sideT = (l.map fun p => (p.node, p.cost)).map fun z => pairT 61 z.1 z.2 := by rw [List.map_map]; rfl
  have hm : (l.map fun p => (p.node, p.cost)).map (fun z => (⟨z.1, z.2⟩ : Side)) = l := by
    rw [List.map_map]
    exact (List.map_congr_left (g := id) (fun _ _ => rfl)).trans (List.map_id l)
  unfold readAdj
  rw [(adj_trim d l).1, (adj_trim d l).2, parts_join (by
    intro x hx
    obtain ⟨p, _, rfl⟩ := List.mem_map.1 hx
    exact ⟨pair_ne _ _ _, pair_44 (by decide) _ _⟩), e, pairs_read (by decide) (by
    intro z hz
    obtain ⟨p, hp, rfl⟩ := List.mem_map.1 hz
    obtain ⟨i, hi, rfl⟩ := List.getElem_of_mem hp
    obtain ⟨h1, h2, h3, h4⟩ := ha i hi
    exact ⟨h1, by omega, by omega, by omega⟩)]
  simp only
  rw [hm, if_pos h]
/-- SHOWN AS READ -/
theorem adj_back {s : List UInt8} (h : (readAdj s).2.2 = 0) : chkSides (readAdj s).2.1 = 0 ∧ adjT (readAdj s).1 (readAdj s).2.1 = s := by
  unfold readAdj at h ⊢
  rcases hp : pairsD 61 (partsC (Lib.trimPrefix s [33])) with _ | l
  · rw [hp] at h; cases h
  · rw [hp] at h
    simp only at h ⊢
    by_cases hc : chkSides (l.map fun x => ⟨x.1, x.2⟩) = 0
    · rw [if_pos hc]
      refine ⟨hc, ?_⟩
      have hb := pairs_back hp
      have e : (l.map fun x => (⟨x.1, x.2⟩ : Side)).map sideT = l.map fun z => pairT 61 z.1 z.2 := by rw [List.map_map]; rfl
      have hj : Lib.join ((l.map fun x => (⟨x.1, x.2⟩ : Side)).map sideT) [44] = Lib.trimPrefix s [33] := by rw [e, ← hb, join_parts]
      unfold adjT
      simp only
      rw [hj]
      rcases hh : Lib.hasPrefix s [33] with _ | _
      · rw [if_neg (by simp)]
        unfold Lib.trimPrefix
        rw [if_neg (by rw [hh]; simp)]
      · rw [if_pos rfl]
        unfold Lib.trimPrefix
        rw [if_pos hh]
        unfold Lib.hasPrefix at hh
        obtain ⟨r, hr⟩ := List.isPrefixOf_iff_prefix.1 hh
        rw [← hr]; rfl
    · rw [if_neg hc] at h
      exact absurd h hc
end Go.Proofs.YtcbkimbeljhbhaaGreatDoor
