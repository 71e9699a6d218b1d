/-
  The graph that a good store's entries make is the one that its nodes tell. Plain lemmas, no program in sight.
-/
import Derived.Test.YtlmcipnogodnfaaDoorWaD
import Derived.Test.YtlmcipnogodnfaaDoorWaC
import Derived.Test.YtlmcipnogodnfaaDoorDoL
namespace Go.Proofs.YtlmcipnogodnfaaDoor
open Go

theorem find_takeE {b : List Entry} (hb : b.Pairwise ltE) {n : Nat} (hn : n < b.length) (k : ByteArray) : findE (b.take (n + 1)) k = if b[n].key = k then some b[n] else findE (b.take n) k := by
  rw [List.take_succ_eq_append_getElem hn]
  unfold findE
  rw [List.find?_append]
  by_cases e : b[n].key = k
  · have hnone : (b.take n).find? (fun e => decide (e.key = k)) = none := by
      rw [List.find?_eq_none]
      intro x hx hk
      obtain ⟨i, hi, rfl⟩ := List.getElem_of_mem hx
      rw [List.length_take] at hi
      have hlt : ltE b[i] b[n] := List.pairwise_iff_getElem.1 hb i n (by omega) hn (by omega)
      rw [List.getElem_take] at hk
      have hk' : b[i].key = k := of_decide_eq_true hk
      unfold ltE at hlt
      rw [hk', e] at hlt
      rw [ltB_irrefl] at hlt
      cases hlt
    rw [hnone, if_pos e]; simp [e]
  · rw [if_neg e]; simp [e]

theorem cutB_form (b : UInt8) : ∀ l : List UInt8, (l = (cutB b l).1 ++ b :: (cutB b l).2.1) ∨ (cutB b l).2.1 = []
  | [] => .inr rfl
  | c :: r => by
    unfold cutB
    by_cases e : c = b
    · rw [if_pos e]; left; subst e; rfl
    · rw [if_neg e]
      rcases cutB_form b r with h | h
      · left
        show c :: r = c :: (cutB b r).1 ++ b :: (cutB b r).2.1
        rw [List.cons_append, ← h]
      · exact .inr h
theorem key_iff (e : Entry) {n : Nat} (hn : n < 12) : (kindE e = [97] ∧ nodeE e = n) ↔ e.key = keyA n := by
  unfold kindE nodeE
  constructor
  · rintro ⟨h1, h2⟩
    obtain ⟨m, h3, _, h5⟩ := num_inv (s := (cutB 58 e.key.data.toList).2.1) (most := 11) (by omega)
    have hm : m = n := by omega
    subst hm
    rcases cutB_form 58 e.key.data.toList with h | h
    · unfold keyA
      rw [h1, h3] at h
      rw [← bOf_data e.key, h]; rfl
    · rw [h] at h3
      exact absurd h3.symm (dec_ne m)
  · intro h
    have hc : cutB 58 e.key.data.toList = ([97], Lib.decDigits n, true) := by
      rw [h]; unfold keyA; rw [bOf_list]
      exact cutB_at (a := [97]) (Lib.decDigits n) (by decide)
    rw [hc]
    exact ⟨rfl, num_dec n 11 (by omega) (by omega)⟩

theorem sides_lt {l : List Side} (h : chkSides l = 0) : ∀ (d i : Nat) (hi : i + d + 1 < l.length), (l[i]'(by omega)).node < l[i + d + 1].node
  | 0, i, hi => sides_ord h i hi
  | d + 1, i, hi => by
    have h1 := sides_lt h d i (by omega)
    have h2 := sides_ord h (i + d + 1) hi
    exact Int.lt_trans h1 h2
/-- what rows of sides put -/
theorem puts_other {C : Nat → Nat → Int} {n a b : Nat} (ha : a ≠ n) : ∀ l : List Side, putSides C n l a b = C a b := by
  intro l
  induction l generalizing C with
  | nil => rfl
  | cons x l ih =>
    show putSides (sideC1 n C x) n l a b = _
    rw [ih]
    unfold sideC1
    split
    · rfl
    · unfold updC; rw [if_neg (fun h => ha h.1)]
theorem puts_self {C : Nat → Nat → Int} {n : Nat} (h0 : C n n = 0) : ∀ l : List Side, (∀ x ∈ l, 0 ≤ x.node) → putSides C n l n n = 0 := by
  intro l
  induction l generalizing C with
  | nil => intro _; exact h0
  | cons x l ih =>
    intro hx
    show putSides (sideC1 n C x) n l n n = _
    refine ih ?_ (fun y hy => hx y (by simp [hy]))
    unfold sideC1
    split
    · exact h0
    · rename_i h
      have := hx x (by simp)
      unfold updC; rw [if_neg (fun e => h (by omega))]; exact h0
theorem puts_take {C : Nat → Nat → Int} {n b : Nat} {l : List Side} (hl : chkSides l = 0) (hC : C n b = 0) (hb : b ≠ n) : ∀ k, k ≤ l.length → putSides C n (l.take k) n b = sideC (l.take k) b
  | 0, _ => by simp [putSides, sideC, hC]
  | k + 1, hk => by
    have hk' : k < l.length := hk
    have ih := puts_take hl hC hb k (by omega)
    rw [putSides_succ hk']
    have hkb := sides_all hl k hk'
    have hsc : sideC (l.take (k + 1)) b = if l[k].node = b then l[k].cost else sideC (l.take k) b := by
      rw [List.take_succ_eq_append_getElem hk']
      unfold sideC
      rw [List.find?_append]
      by_cases e : l[k].node = b
      · have hnone : (l.take k).find? (fun x => decide (x.node = (b : Int))) = none := by
          rw [List.find?_eq_none]
          intro x hx hk2
          obtain ⟨i, hi, rfl⟩ := List.getElem_of_mem hx
          rw [List.length_take] at hi
          rw [List.getElem_take] at hk2
          have hk3 : l[i].node = b := of_decide_eq_true hk2
          have hlt := sides_lt hl (k - i - 1) i (by omega)
          have he : i + (k - i - 1) + 1 = k := by omega
          simp only [he] at hlt
          omega
        rw [hnone, if_pos e]; simp [e]
      · rw [if_neg e]; simp [e]
    rw [hsc]
    unfold sideC1
    by_cases e : l[k].node = b
    · rw [if_neg (by omega), if_pos e]
      unfold updC
      rw [if_pos ⟨rfl, by omega⟩]
    · rw [if_neg e]
      split
      · exact ih
      · unfold updC
        rw [if_neg (fun h => e (by omega))]
        exact ih

theorem find_keyE {l : List Entry} {k : ByteArray} {e : Entry} (h : findE l k = some e) : e ∈ l := List.mem_of_find?_eq_some h
theorem adjAt_nil (n : Nat) : adjAt [] n = (false, []) := rfl
theorem adj_take {xs : List Entry} (h : OkS xs) {k : Nat} (hk : k < xs.length) (n : Nat) : adjAt (xs.take (k + 1)) n = if xs[k].key = keyA n then ((readAdj xs[k].value.data.toList).1, (readAdj xs[k].value.data.toList).2.1) else adjAt (xs.take k) n := by
  unfold adjAt
  rw [find_takeE h.ord hk]
  by_cases e : xs[k].key = keyA n
  · rw [if_pos e, if_pos e]
  · rw [if_neg e, if_neg e]
theorem adj_before {xs : List Entry} (h : OkS xs) {k : Nat} (hk : k < xs.length) {n : Nat} (e : xs[k].key = keyA n) : adjAt (xs.take k) n = (false, []) := by
  unfold adjAt
  have : findE (xs.take k) (keyA n) = none := by
    unfold findE
    rw [List.find?_eq_none]
    intro x hx hk2
    obtain ⟨i, hi, rfl⟩ := List.getElem_of_mem hx
    rw [List.length_take] at hi
    have hlt : ltE xs[i] xs[k] := List.pairwise_iff_getElem.1 h.ord i k (by omega) hk (by omega)
    rw [List.getElem_take] at hk2
    have hk' : xs[i].key = keyA n := of_decide_eq_true hk2
    unfold ltE at hlt
    rw [hk', e] at hlt
    rw [ltB_irrefl] at hlt
    cases hlt
  rw [this]
theorem gph_take {xs : List Entry} (h : OkS xs) : ∀ k, k ≤ xs.length → (∀ a b, a < 12 → b < 12 → (gphTo xs k).C a b = if a = b then 0 else sideC (adjAt (xs.take k) a).2 b) ∧ (∀ a, a < 12 → (gphTo xs k).D a = (adjAt (xs.take k) a).1)
  | 0, _ => by
    refine ⟨fun a b _ _ => ?_, fun a _ => rfl⟩
    show (0 : Int) = _
    split <;> rfl
  | k + 1, hk => by
    have hk' : k < xs.length := hk
    obtain ⟨ih1, ih2⟩ := gph_take h k (by omega)
    rw [gphTo_succ hk']
    rcases nodeE_cases xs[k] with hn | ⟨n, hn, hn12⟩
    · have hno : ∀ a, a < 12 → xs[k].key ≠ keyA a := fun a ha e => by have := ((key_iff xs[k] ha).2 e).2; omega
      have hs : stepE (gphTo xs k) xs[k] = gphTo xs k := by unfold stepE; rw [if_pos hn]
      rw [hs]
      refine ⟨fun a b ha hb => ?_, fun a ha => ?_⟩
      · rw [adj_take h hk', if_neg (hno a ha)]; exact ih1 a b ha hb
      · rw [adj_take h hk', if_neg (hno a ha)]; exact ih2 a ha
    · have hnn : ¬ nodeE xs[k] < 0 := by omega
      have hnt : (nodeE xs[k]).toNat = n := by omega
      by_cases hk1 : kindE xs[k] = [97]
      · have hkey : xs[k].key = keyA n := (key_iff xs[k] hn12).1 ⟨hk1, hn⟩
        have hs : stepE (gphTo xs k) xs[k] = stepA (gphTo xs k) n xs[k].value.data.toList := by unfold stepE; rw [if_neg hnn, if_pos hk1, hnt]
        have hoth : ∀ a, a < 12 → a ≠ n → xs[k].key ≠ keyA a := fun a ha hne e => by have := ((key_iff xs[k] ha).2 e).2; omega
        rw [hs]
        have hbef := adj_before h hk' hkey
        have hchk := readAdj_chk xs[k].value.data.toList
        refine ⟨fun a b ha hb => ?_, fun a ha => ?_⟩
        · show putSides (gphTo xs k).C n (readAdj xs[k].value.data.toList).2.1 a b = _
          by_cases e : a = n
          · subst e
            rw [adj_take h hk', if_pos hkey]
            by_cases e2 : a = b
            · subst e2
              rw [if_pos rfl]
              refine puts_self (by rw [ih1 a a ha ha, if_pos rfl]) _ (fun x hx => ?_)
              obtain ⟨i, hi, rfl⟩ := List.getElem_of_mem hx
              exact (sides_all hchk i hi).1
            · rw [if_neg e2]
              have := puts_take (C := (gphTo xs k).C) (n := a) (b := b) hchk (by rw [ih1 a b ha hb, if_neg e2, hbef]; rfl) (fun e => e2 e.symm) _ (Nat.le_refl _)
              rw [List.take_length] at this
              exact this
          · rw [puts_other e, adj_take h hk', if_neg (hoth a ha e)]
            exact ih1 a b ha hb
        · show (if a = n then (readAdj xs[k].value.data.toList).1 else (gphTo xs k).D a) = _
          by_cases e : a = n
          · subst e
            rw [adj_take h hk', if_pos hkey, if_pos rfl]
          · rw [if_neg e, adj_take h hk', if_neg (hoth a ha e)]
            exact ih2 a ha
      · have hno : ∀ a, a < 12 → xs[k].key ≠ keyA a := fun a ha e => hk1 ((key_iff xs[k] ha).2 e).1
        have hs : (stepE (gphTo xs k) xs[k]).C = (gphTo xs k).C ∧ (stepE (gphTo xs k) xs[k]).D = (gphTo xs k).D := by
          unfold stepE
          rw [if_neg hnn, if_neg hk1]
          split <;> exact ⟨rfl, rfl⟩
        rw [hs.1, hs.2]
        refine ⟨fun a b ha hb => ?_, fun a ha => ?_⟩
        · rw [adj_take h hk', if_neg (hno a ha)]; exact ih1 a b ha hb
        · rw [adj_take h hk', if_neg (hno a ha)]; exact ih2 a ha
/-- THE GRAPH -/
theorem graphS_links {xs : List Entry} (h : checkS xs = 0) : (∀ a b, a < 12 → b < 12 → (graphS xs).C a b = (linkC xs a b : Nat)) ∧ (∀ a, a < 12 → (graphS xs).D a = (adjAt xs a).1) := by
  obtain ⟨h1, h2⟩ := gph_take (okS_of h) xs.length (Nat.le_refl _)
  rw [List.take_length] at h1 h2
  refine ⟨fun a b ha hb => ?_, h2⟩
  show symAll (gphTo xs xs.length).C a b = _
  unfold symAll linkC
  rw [h1 a b ha hb, h1 b a hb ha]
  by_cases e : a = b
  · subst e
    rw [if_neg (fun h => h.1 rfl), if_pos rfl, if_pos (.inl rfl)]; rfl
  · rw [if_neg e, if_neg (show ¬ b = a from fun x => e x.symm)]
    have hle := sideC_le (adjAt_chk xs a) b
    by_cases e2 : sideC (adjAt xs b).2 a = 0
    · rw [if_pos ⟨e, .inr e2⟩, if_pos (.inr e2)]; rfl
    · rw [if_neg (show ¬ (a = b ∨ sideC (adjAt xs b).2 a = 0) by rintro (h | h) <;> contradiction)]
      split
      · rename_i h3
        rcases h3.2 with h4 | h4
        · rw [h4]; rfl
        · exact absurd h4 e2
      · omega
end Go.Proofs.YtlmcipnogodnfaaDoor
