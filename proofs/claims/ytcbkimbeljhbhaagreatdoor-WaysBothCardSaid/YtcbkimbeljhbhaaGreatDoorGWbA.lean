/-
  A way is a step and a way from there; a way back. Plain lemmas, no program in sight.
-/
import Derived.Test.YtcbkimbeljhbhaaGreatDoorGWaF
set_option linter.unusedVariables false
set_option linter.unusedSimpArgs false
namespace Go.Proofs.YtcbkimbeljhbhaaGreatDoor
open Go

section
variable {C : Nat → Nat → Nat} {D : Nat → Bool}
theorem path_up {a k : Nat} (hk : k < 12) (hka : k ≠ a) (h1 : C a k ≠ 0) (h2 : D k = false) {i c : Nat} (h : Pth C D k (fun _ => True) i c) (hi : i ≠ a) :
    Pth C D a (· = k) i (C a k + c) ∨ ∃ c', c' < C a k + c ∧ Pth C D a (fun _ => True) i c' := by
  induction h with
  | one j hj1 hj2 hj3 _ => exact .inl (.step k j _ (.one k hk hka h1 rfl) h2 hj1 hi hj3)
  | step x y c hp hd hy hyk hc ih =>
    by_cases e : x = a
    · subst e
      right
      refine ⟨C x y, by omega, .one y hy hi hc trivial⟩
    · rcases ih e with h | ⟨c', h3, h4⟩
      · left
        rw [← Nat.add_assoc]
        exact .step x y _ h hd hy hi hc
      · right
        exact ⟨c' + C x y, by omega, .step x y _ h4 hd hy hi hc⟩
theorem path_down {a k : Nat} {i c : Nat} (h : Pth C D a (· = k) i c) : (i = k → C a k ≤ c) ∧ (i ≠ k → D k = false ∧ ∃ c', Pth C D k (fun _ => True) i c' ∧ C a k + c' ≤ c) := by
  induction h with
  | one j hj1 hj2 hj3 hj4 =>
    have e : j = k := hj4
    subst e
    exact ⟨fun _ => Nat.le_refl _, fun h => absurd rfl h⟩
  | step x y c hp hd hy hya hc ih =>
    have hle : C a k ≤ c := by
      by_cases e : x = k
      · exact ih.1 e
      · obtain ⟨_, c', _, h2⟩ := ih.2 e; omega
    refine ⟨fun _ => by omega, fun hyk => ?_⟩
    by_cases e : x = k
    · subst e
      exact ⟨hd, C x y, .one y hy hyk hc trivial, by omega⟩
    · obtain ⟨h1, c', h2, h3⟩ := ih.2 e
      exact ⟨h1, c' + C x y, .step x y _ h2 hd hy hyk hc, by omega⟩
theorem path_back (hs : ∀ a b, C a b = C b a) (h0 : ∀ a, C a a = 0) {p q : Nat} (hpq : p ≠ q) (hp : p < 12) {x c : Nat} (h : Pth C D p (fun _ => True) x c) :
    (x = q → ∃ c', c' ≤ c ∧ Pth C D q (fun _ => True) p c') ∧ (∀ e, x ≠ q → D x = false → Pth C D q (fun _ => True) x e → ∃ c', c' ≤ e + c ∧ Pth C D q (fun _ => True) p c') := by
  induction h with
  | one x hx1 hx2 hx3 _ =>
    refine ⟨fun e => ?_, fun e hxq hd hpe => ?_⟩
    · subst e
      exact ⟨C x p, by rw [hs]; exact Nat.le_refl _, .one p hp hpq (by rw [hs]; exact hx3) trivial⟩
    · exact ⟨e + C x p, by rw [hs x p]; exact Nat.le_refl _, .step x p _ hpe hd hp hpq (by rw [hs]; exact hx3)⟩
  | step y x c hy hd hx hxp hc ih =>
    refine ⟨fun e => ?_, fun e hxq hdx hpe => ?_⟩
    · subst e
      have hyx : y ≠ x := fun e => by subst e; exact hc (h0 y)
      obtain ⟨c', h1, h2⟩ := ih.2 (C x y) hyx hd (.one y hy.lt.1 hyx (by rw [hs]; exact hc) trivial)
      exact ⟨c', by rw [hs x y] at h1; omega, h2⟩
    · by_cases e2 : y = q
      · obtain ⟨c', h1, h2⟩ := ih.1 e2
        exact ⟨c', by omega, h2⟩
      · obtain ⟨c', h1, h2⟩ := ih.2 (e + C x y) e2 hd (.step x y _ hpe hdx hy.lt.1 e2 (by rw [hs]; exact hc))
        exact ⟨c', by rw [hs x y] at h1; omega, h2⟩
end

/-- what a way's cost is: none leads there, or the least of those that do -/
theorem cost_cases (xs : List Entry) {s i : Nat} (hi : i ≠ s) :
    ((wayTo xs s i).cost = -1 ∧ ∀ c, ¬ Pth (linkC xs) (fun a => (adjAt xs a).1) s (fun _ => True) i c) ∨
    ∃ m : Nat, (wayTo xs s i).cost = m ∧ Mn (linkC xs) (fun a => (adjAt xs a).1) s (fun _ => True) i m := by
  have hall : ∀ c, Pth (linkC xs) (fun a => (adjAt xs a).1) s (fun k => fstF (-1) k = true) i c ↔ Pth (linkC xs) (fun a => (adjAt xs a).1) s (fun _ => True) i c := fun c => Pth.same fst_all
  have hw : (wayTo xs s i).cost = gI (rnds (linkC xs) (fun a => (adjAt xs a).1) s (iniB (linkC xs) s (fstF (-1))) 12) i := by
    unfold wayTo; rw [if_neg hi]; rfl
  rw [hw]
  rcases rounds_find (C := linkC xs) (D := fun a => (adjAt xs a).1) (s := s) (F := fstF (-1)) i with ⟨r1, r2⟩ | ⟨m, r1, r2⟩
  · exact .inl ⟨r1, fun c h => r2 c ((hall c).2 h)⟩
  · exact .inr ⟨m, r1, (hall m).1 r2.1, fun c h => r2.2 c ((hall c).2 h)⟩
theorem best_iff (xs : List Entry) {s i m : Nat} (hm : Mn (linkC xs) (fun a => (adjAt xs a).1) s (fun _ => True) i m) (k : Nat) :
    gI (best xs s (k : Int) 12) i = m ↔ Pth (linkC xs) (fun a => (adjAt xs a).1) s (· = k) i m := by
  have hone : ∀ c, Pth (linkC xs) (fun a => (adjAt xs a).1) s (fun j => fstF (k : Int) j = true) i c ↔ Pth (linkC xs) (fun a => (adjAt xs a).1) s (· = k) i c := fun c => Pth.same (fst_one k)
  show gI (rnds (linkC xs) (fun a => (adjAt xs a).1) s (iniB (linkC xs) s (fstF (k : Int))) 12) i = m ↔ _
  rcases rounds_find (C := linkC xs) (D := fun a => (adjAt xs a).1) (s := s) (F := fstF (k : Int)) i with ⟨r1, r2⟩ | ⟨m', r1, r2⟩
  · rw [r1]
    exact ⟨fun e => by omega, fun h => absurd ((hone m).2 h) (r2 m)⟩
  · rw [r1]
    constructor
    · intro e
      have : m' = m := by omega
      rw [← this]; exact (hone m').1 r2.1
    · intro h
      have h1 := r2.2 m ((hone m).2 h)
      have h2 := hm.2 m' (((hone m').1 r2.1).mono (fun _ _ => trivial))
      omega

/-- over a neighbor: what it costs, -1: it can't be -/
def overC (xs : List Entry) (a dst k : Nat) : Int :=
  if linkC xs a k = 0 then -1 else if k = dst then (linkC xs a k : Nat) else if (wayTo xs k dst).cost < 0 ∨ (adjAt xs k).1 = true then -1 else (wayTo xs k dst).cost + (linkC xs a k : Nat)
theorem linkC_self (xs : List Entry) (a : Nat) : linkC xs a a = 0 := by unfold linkC; rw [if_pos (.inl rfl)]
theorem over_up {xs : List Entry} {a dst k : Nat} (hk : k < 12) (hto : dst ≠ a) (h : 0 ≤ overC xs a dst k) :
    ∃ n : Nat, overC xs a dst k = n ∧ (Pth (linkC xs) (fun a => (adjAt xs a).1) a (· = k) dst n ∨ ∃ c', c' < n ∧ Pth (linkC xs) (fun a => (adjAt xs a).1) a (fun _ => True) dst c') := by
  unfold overC at h ⊢
  by_cases h0 : linkC xs a k = 0
  · rw [if_pos h0] at h; omega
  · have hka : k ≠ a := fun e => by subst e; exact h0 (linkC_self xs k)
    rw [if_neg h0] at h ⊢
    by_cases e : k = dst
    · subst e
      rw [if_pos rfl]
      exact ⟨_, rfl, .inl (.one k hk hka h0 rfl)⟩
    · rw [if_neg e] at h ⊢
      by_cases h1 : (wayTo xs k dst).cost < 0 ∨ (adjAt xs k).1 = true
      · rw [if_pos h1] at h; omega
      · rw [if_neg h1]
        rcases cost_cases xs (s := k) (i := dst) (fun x => e x.symm) with ⟨r1, _⟩ | ⟨m, r1, r2⟩
        · omega
        · refine ⟨linkC xs a k + m, by omega, ?_⟩
          have hd : (adjAt xs k).1 = false := by
            cases hx : (adjAt xs k).1 with
            | false => rfl
            | true => exact absurd (.inr hx) h1
          exact path_up hk hka h0 hd r2.1 hto
theorem over_down {xs : List Entry} {a dst k m : Nat} (h : Pth (linkC xs) (fun a => (adjAt xs a).1) a (· = k) dst m) : 0 ≤ overC xs a dst k ∧ overC xs a dst k ≤ m := by
  obtain ⟨k', hk1, _, _, hk4, _⟩ := h.first
  have e1 : k' = k := hk1
  subst e1
  obtain ⟨h1, h2⟩ := path_down h
  unfold overC
  rw [if_neg hk4]
  by_cases e : k' = dst
  · rw [if_pos e]
    have := h1 e.symm
    omega
  · rw [if_neg e]
    obtain ⟨hd, c', h3, h4⟩ := h2 (fun x => e x.symm)
    rcases cost_cases xs (s := k') (i := dst) (fun x => e x.symm) with ⟨_, r2⟩ | ⟨m', r1, r2⟩
    · exact absurd h3 (r2 c')
    · have := r2.2 c' h3
      rw [if_neg (by rw [hd]; simp; omega)]
      omega

/-- the least of what the neighbors cost, and which they are -/
def bestTo2 (xs : List Entry) (a dst : Nat) : Nat → Int × List Int
  | 0 => (-1, [])
  | k + 1 =>
    let (b, l) := bestTo2 xs a dst k
    let c := overC xs a dst k
    if c < 0 then (b, l) else if b < 0 ∨ c < b then (c, [(k : Int)]) else if c = b then (b, l ++ [(k : Int)]) else (b, l)
theorem best2_inv (xs : List Entry) (a dst : Nat) : ∀ n, ((bestTo2 xs a dst n).1 = -1 ∧ (bestTo2 xs a dst n).2 = [] ∧ ∀ k, k < n → overC xs a dst k < 0) ∨
    (0 ≤ (bestTo2 xs a dst n).1 ∧ (∃ k, k < n ∧ overC xs a dst k = (bestTo2 xs a dst n).1) ∧ (∀ k, k < n → 0 ≤ overC xs a dst k → (bestTo2 xs a dst n).1 ≤ overC xs a dst k) ∧
      (bestTo2 xs a dst n).2 = ((List.range n).map fun (i : Nat) => (i : Int)).filter fun i => decide (overC xs a dst i.toNat = (bestTo2 xs a dst n).1))
  | 0 => .inl ⟨rfl, rfl, fun k hk => by omega⟩
  | n + 1 => by
    have ih := best2_inv xs a dst n
    have hs : bestTo2 xs a dst (n + 1) = (if overC xs a dst n < 0 then ((bestTo2 xs a dst n).1, (bestTo2 xs a dst n).2) else if (bestTo2 xs a dst n).1 < 0 ∨ overC xs a dst n < (bestTo2 xs a dst n).1 then (overC xs a dst n, [(n : Int)]) else if overC xs a dst n = (bestTo2 xs a dst n).1 then ((bestTo2 xs a dst n).1, (bestTo2 xs a dst n).2 ++ [(n : Int)]) else ((bestTo2 xs a dst n).1, (bestTo2 xs a dst n).2)) := rfl
    have hr : ∀ P : Int → Bool, ((List.range (n + 1)).map fun (i : Nat) => (i : Int)).filter P = (((List.range n).map fun (i : Nat) => (i : Int)).filter P) ++ (if P (n : Int) = true then [(n : Int)] else []) := by
      intro P
      rw [List.range_succ, List.map_append, List.filter_append]
      congr 1
      show List.filter P [(n : Int)] = _
      rw [List.filter_cons]
      split <;> simp
    have hnone : ∀ v : Int, (∀ k, k < n → 0 ≤ overC xs a dst k → v < overC xs a dst k) → 0 ≤ v → (((List.range n).map fun (i : Nat) => (i : Int)).filter fun i => decide (overC xs a dst i.toNat = v)) = [] := by
      intro v hv hv0
      rw [List.filter_eq_nil_iff]
      intro i hi
      obtain ⟨k, hk, rfl⟩ := List.mem_map.1 hi
      have hkn := List.mem_range.1 hk
      rw [Int.toNat_natCast]
      simp only [decide_eq_true_eq]
      intro e
      have := hv k hkn (by omega)
      omega
    rw [hs]
    by_cases c0 : overC xs a dst n < 0
    · rw [if_pos c0]
      rcases ih with ⟨i1, i2, i3⟩ | ⟨i1, ⟨k, i2, i3⟩, i4, i5⟩
      · refine .inl ⟨i1, i2, fun k hk => ?_⟩
        by_cases e : k = n
        · rw [e]; exact c0
        · exact i3 k (by omega)
      · refine .inr ⟨i1, ⟨k, by omega, i3⟩, fun j hj h0 => ?_, ?_⟩
        · by_cases e : j = n
          · subst e; omega
          · exact i4 j (by omega) h0
        · rw [hr, if_neg (by rw [Int.toNat_natCast]; simp; omega), List.append_nil]; exact i5
    · rw [if_neg c0]
      have hself : (fun i : Int => decide (overC xs a dst i.toNat = overC xs a dst n)) (n : Int) = true := by simp
      by_cases c1 : (bestTo2 xs a dst n).1 < 0 ∨ overC xs a dst n < (bestTo2 xs a dst n).1
      · rw [if_pos c1]
        have hlt : ∀ k, k < n → 0 ≤ overC xs a dst k → overC xs a dst n < overC xs a dst k := by
          intro k hk hk0
          rcases ih with ⟨i1, i2, i3⟩ | ⟨i1, _, i4, i5⟩
          · have := i3 k hk; omega
          · have := i4 k hk hk0; omega
        refine .inr ⟨by show 0 ≤ overC xs a dst n; omega, ⟨n, by omega, rfl⟩, fun j hj h0 => ?_, ?_⟩
        · show overC xs a dst n ≤ _
          by_cases e : j = n
          · subst e; exact Int.le_refl _
          · have := hlt j (by omega) h0; omega
        · show [(n : Int)] = _
          rw [hr, if_pos hself, hnone _ hlt (by omega)]; rfl
      · rw [if_neg c1]
        rcases ih with ⟨i1, i2, i3⟩ | ⟨i1, ⟨k, i2, i3⟩, i4, i5⟩
        · exact absurd (.inl (by omega)) c1
        · by_cases c2 : overC xs a dst n = (bestTo2 xs a dst n).1
          · rw [if_pos c2]
            refine .inr ⟨i1, ⟨k, by omega, i3⟩, fun j hj h0 => ?_, ?_⟩
            · show (bestTo2 xs a dst n).1 ≤ _
              by_cases e : j = n
              · subst e; omega
              · exact i4 j (by omega) h0
            · show (bestTo2 xs a dst n).2 ++ [(n : Int)] = _
              rw [hr, if_pos (by rw [Int.toNat_natCast]; simpa using c2), ← i5]
          · rw [if_neg c2]
            refine .inr ⟨i1, ⟨k, by omega, i3⟩, fun j hj h0 => ?_, ?_⟩
            · show (bestTo2 xs a dst n).1 ≤ _
              by_cases e : j = n
              · subst e; omega
              · exact i4 j (by omega) h0
            · show (bestTo2 xs a dst n).2 = _
              rw [hr, if_neg (by rw [Int.toNat_natCast]; simpa using c2), List.append_nil]; exact i5
theorem hopsTo_list (xs : List Entry) (s q : Nat) (c : Int) : ∀ k, hopsTo xs s q c k = ((List.range k).map fun (i : Nat) => (i : Int)).filter fun i => decide (gI (best xs s i 12) q = c)
  | 0 => rfl
  | k + 1 => by
    unfold hopsTo
    rw [List.range_succ, List.map_append, List.filter_append, ← hopsTo_list xs s q c k]
    by_cases e : gI (best xs s (k : Int) 12) q = c
    · rw [if_pos e]; simp [e]
    · rw [if_neg e]; simp [e]
/-- A WAY IS A STEP TO A HOP, AND A WAY FROM THERE -/
theorem way_step (xs : List Entry) {a dst : Nat} (hto : dst ≠ a) : bestTo2 xs a dst 12 = ((wayTo xs a dst).cost, (wayTo xs a dst).hops) := by
  have hw : (wayTo xs a dst).hops = hopsFor xs a dst (wayTo xs a dst).cost 12 := by unfold wayTo; rw [if_neg hto]
  rw [hw]
  refine Prod.ext ?_ ?_
  all_goals
    rcases cost_cases xs (s := a) (i := dst) hto with ⟨r1, r2⟩ | ⟨m, r1, r2⟩
    · rcases best2_inv xs a dst 12 with ⟨i1, i2, i3⟩ | ⟨i1, ⟨k, i2, i3⟩, i4, i5⟩
      · simp only [r1, i1, i2]
        try (unfold hopsFor; rw [if_pos (by omega)])
      · obtain ⟨n, h1, h2⟩ := over_up i2 hto (by rw [i3]; exact i1)
        rcases h2 with h2 | ⟨c', _, h2⟩
        · exact absurd (h2.mono (fun _ _ => trivial)) (r2 n)
        · exact absurd h2 (r2 c')
    · obtain ⟨k0, _, hk12, _, _, hk5⟩ := r2.1.first
      obtain ⟨d1, d2⟩ := over_down hk5
      have hge : ∀ k, k < 12 → 0 ≤ overC xs a dst k → (m : Int) ≤ overC xs a dst k := by
        intro k hk h0
        obtain ⟨n, h1, h2⟩ := over_up hk hto h0
        rcases h2 with h2 | ⟨c', h3, h2⟩
        · have := r2.2 n (h2.mono (fun _ _ => trivial)); omega
        · have := r2.2 c' h2; omega
      rcases best2_inv xs a dst 12 with ⟨i1, i2, i3⟩ | ⟨i1, ⟨k, i2, i3⟩, i4, i5⟩
      · have := i3 k0 hk12; omega
      · have hb : (bestTo2 xs a dst 12).1 = m := by
          have h1 := i4 k0 hk12 d1
          have h2 := hge k i2 (by omega)
          omega
        first
          | (show (bestTo2 xs a dst 12).1 = _; rw [hb, r1])
          | (show (bestTo2 xs a dst 12).2 = hopsFor xs a dst (wayTo xs a dst).cost 12
             rw [i5, hb, r1]
             unfold hopsFor
             rw [if_neg (by omega), hopsTo_list]
             refine List.filter_congr (fun i hi => ?_)
             obtain ⟨k, hk, rfl⟩ := List.mem_map.1 hi
             have hk12 := List.mem_range.1 hk
             rw [Int.toNat_natCast, Bool.eq_iff_iff, decide_eq_true_eq, decide_eq_true_eq, best_iff xs r2 k]
             constructor
             · intro e
               obtain ⟨n, h1, h2⟩ := over_up hk12 hto (by rw [e]; omega)
               have hn : n = m := by omega
               rcases h2 with h2 | ⟨c', h3, h2⟩
               · rw [← hn]; exact h2
               · have := r2.2 c' h2; omega
             · intro hp
               obtain ⟨e1, e2⟩ := over_down hp
               have := hge k hk12 e1
               omega)
/-- WHERE ALL LINKS COST AS MUCH IN BOTH DIRECTIONS a way back costs as much -/
theorem way_back {xs : List Entry} (hs : ∀ a b, linkC xs a b = linkC xs b a) {p q : Nat} (hp : p < 12) (hq : q < 12) : (wayTo xs p q).cost = (wayTo xs q p).cost := by
  by_cases e : p = q
  · subst e; rfl
  · have h0 := linkC_self xs
    rcases cost_cases xs (s := p) (i := q) (fun x => e x.symm) with ⟨r1, r2⟩ | ⟨m, r1, r2⟩
    · rcases cost_cases xs (s := q) (i := p) e with ⟨g1, g2⟩ | ⟨n, g1, g2⟩
      · rw [r1, g1]
      · obtain ⟨c', _, h⟩ := (path_back hs h0 (fun x => e x.symm) hq g2.1).1 rfl
        exact absurd h (r2 c')
    · rcases cost_cases xs (s := q) (i := p) e with ⟨g1, g2⟩ | ⟨n, g1, g2⟩
      · obtain ⟨c', _, h⟩ := (path_back hs h0 e hp r2.1).1 rfl
        exact absurd h (g2 c')
      · obtain ⟨c1, h1, h2⟩ := (path_back hs h0 e hp r2.1).1 rfl
        obtain ⟨c2, h3, h4⟩ := (path_back hs h0 (fun x => e x.symm) hq g2.1).1 rfl
        have := g2.2 c1 h2
        have := r2.2 c2 h4
        rw [r1, g1]; omega
end Go.Proofs.YtcbkimbeljhbhaaGreatDoor
