/-
  The prefixes in the graph of a good store are those that its nodes tell. Plain lemmas, no program in sight.
  A way is a step and a way from there; a way back. Plain lemmas, no program in sight.
  What ways cost; a table that is made may be. Plain lemmas, no program in sight.
-/
import Derived.Test.YtcbkimbeljhbhaaGreatDoorGTaB
import Derived.Test.YtcbkimbeljhbhaaGreatDoorGWaF
import Derived.Test.YtcbkimbeljhbhaaGreatDoorGTaD
import Derived.Test.YtcbkimbeljhbhaaGreatDoorGRibC
set_option linter.unusedVariables false
set_option linter.unusedSimpArgs false
namespace Go.Proofs.YtcbkimbeljhbhaaGreatDoor
open Go

theorem key_iffP (e : Entry) {n : Nat} (hn : n < 12) : (kindE e = [112] ∧ nodeE e = n) ↔ e.key = keyP n := by
  unfold kindE nodeE
  constructor
  · rintro ⟨h1, h2⟩
    obtain ⟨m, h3, _, h5⟩ := num_inv (s := (cutB 58 e.key.data.toList).2.1) (most := 11) (by omega)
    have hm : m = n := by omega
    subst hm
    rcases cutB_form 58 e.key.data.toList with h | h
    · unfold keyP
      rw [h1, h3] at h
      rw [← bOf_data e.key, h]; rfl
    · rw [h] at h3
      exact absurd h3.symm (dec_ne m)
  · intro h
    have hc : cutB 58 e.key.data.toList = ([112], Lib.decDigits n, true) := by
      rw [h]; unfold keyP; rw [bOf_list]
      exact cutB_at (a := [112]) (Lib.decDigits n) (by decide)
    rw [hc]
    exact ⟨rfl, num_dec n 11 (by omega) (by omega)⟩
theorem prefsAt_take {xs : List Entry} (h : OkS xs) {k : Nat} (hk : k < xs.length) (n : Nat) : prefsAt (xs.take (k + 1)) n = if xs[k].key = keyP n then (readPrefs xs[k].value.data.toList).1 else prefsAt (xs.take k) n := by
  unfold prefsAt
  rw [find_takeE h.ord hk]
  by_cases e : xs[k].key = keyP n
  · rw [if_pos e, if_pos e]
  · rw [if_neg e, if_neg e]
theorem prf_take {xs : List Entry} (h : OkS xs) : ∀ k, k ≤ xs.length → ∀ a, a < 12 → (gphTo xs k).P a = prefsAt (xs.take k) a
  | 0, _, a, _ => rfl
  | k + 1, hk, a, ha => by
    have hk' : k < xs.length := hk
    have ih := prf_take h k (by omega) a ha
    rw [gphTo_succ hk', prefsAt_take h hk']
    have hno : stepE (gphTo xs k) xs[k] = gphTo xs k ∨ True := .inr trivial
    rcases nodeE_cases xs[k] with hn | ⟨n, hn, hn12⟩
    · rw [if_neg (fun e => by have := ((key_iffP xs[k] ha).2 e).2; omega)]
      have hs : stepE (gphTo xs k) xs[k] = gphTo xs k := by unfold stepE; rw [if_pos hn]
      rw [hs]; exact ih
    · have hnn : ¬ nodeE xs[k] < 0 := by omega
      have hnt : (nodeE xs[k]).toNat = n := by omega
      by_cases hk1 : kindE xs[k] = [97]
      · have hs : stepE (gphTo xs k) xs[k] = stepA (gphTo xs k) n xs[k].value.data.toList := by unfold stepE; rw [if_neg hnn, if_pos hk1, hnt]
        rw [hs, if_neg (fun e => by have := ((key_iffP xs[k] ha).2 e).1; rw [hk1] at this; cases this)]
        exact ih
      · by_cases hk2 : kindE xs[k] = [112]
        · have hs : stepE (gphTo xs k) xs[k] = stepP (gphTo xs k) n xs[k].value.data.toList := by unfold stepE; rw [if_neg hnn, if_neg hk1, if_pos hk2, hnt]
          rw [hs]
          show (if a = n then (readPrefs xs[k].value.data.toList).1 else (gphTo xs k).P a) = _
          by_cases e : a = n
          · subst e
            rw [if_pos rfl, if_pos ((key_iffP xs[k] ha).1 ⟨hk2, hn⟩)]
          · rw [if_neg e, if_neg (fun e2 => by have := ((key_iffP xs[k] ha).2 e2).2; omega)]
            exact ih
        · have hs : stepE (gphTo xs k) xs[k] = gphTo xs k := by unfold stepE; rw [if_neg hnn, if_neg hk1, if_neg hk2]
          rw [hs, if_neg (fun e => hk2 ((key_iffP xs[k] ha).2 e).1)]
          exact ih
theorem graphS_prefs {xs : List Entry} (h : checkS xs = 0) : ∀ a, a < 12 → (graphS xs).P a = prefsAt xs a := by
  intro a ha
  have := prf_take (okS_of h) xs.length (Nat.le_refl _) a ha
  rw [List.take_length] at this
  exact this

/-- how long a table can be -/
theorem len_addR : ∀ (l : List Route) (r : Route), (addR l r).length ≤ l.length + 1
  | [], _ => by simp [addR]
  | x :: l, r => by
    unfold addR
    have := len_addR l r
    split
    · simp; exact this
    · split <;> simp
theorem len_row {xs : List Entry} {s n : Nat} : ∀ (ps : List Prefix) (l : List Route), (rowN xs s n l ps).length ≤ l.length + ps.length
  | [], l => by simp [rowN]
  | p :: ps, l => by
    have h1 := len_row (xs := xs) (s := s) (n := n) ps (addN xs s n l p)
    have h2 : (addN xs s n l p).length ≤ l.length + 1 := by
      unfold addN; split
      · omega
      · exact len_addR _ _
    show (rowN xs s n (addN xs s n l p) ps).length ≤ _
    simp only [List.length_cons]; omega
theorem len_tab (xs : List Entry) (s : Nat) : ∀ n, (tabTo xs s n).length ≤ 6 * n
  | 0 => Nat.le_refl _
  | n + 1 => by
    have h1 := len_tab xs s n
    have h2 := len_row (xs := xs) (s := s) (n := n) (prefsAt xs n) (tabTo xs s n)
    have h3 := (prefs_fine (prefsAt_chk xs n)).1
    show (rowN xs s n (tabTo xs s n) (prefsAt xs n)).length ≤ _
    omega
end Go.Proofs.YtcbkimbeljhbhaaGreatDoor

namespace Go.Proofs.YtcbkimbeljhbhaaGreatDoor
open Go

section
variable {C : Nat → Nat → Nat} {D : Nat → Bool}
theorem path_up {a k : Nat} (hk : k < 12) (hka : k ≠ a) (h1 : C a k ≠ 0) (h2 : D k = false) {i c : Nat} (h : Pth C D k (fun _ => True) i c) (hi : i ≠ a) :
    Pth C D a (· = k) i (C a k + c) ∨ ∃ c', c' < C a k + c ∧ Pth C D a (fun _ => True) i c' := by
  induction h with
  | one j hj1 hj2 hj3 _ => exact .inl (.step k j _ (.one k hk hka h1 rfl) h2 hj1 hi hj3)
  | step x y c hp hd hy hyk hc ih =>
    by_cases e : x = a
    · subst e
      right
      refine ⟨C x y, by omega, .one y hy hi hc trivial⟩
    · rcases ih e with h | ⟨c', h3, h4⟩
      · left
        rw [← Nat.add_assoc]
        exact .step x y _ h hd hy hi hc
      · right
        exact ⟨c' + C x y, by omega, .step x y _ h4 hd hy hi hc⟩
theorem path_down {a k : Nat} {i c : Nat} (h : Pth C D a (· = k) i c) : (i = k → C a k ≤ c) ∧ (i ≠ k → D k = false ∧ ∃ c', Pth C D k (fun _ => True) i c' ∧ C a k + c' ≤ c) := by
  induction h with
  | one j hj1 hj2 hj3 hj4 =>
    have e : j = k := hj4
    subst e
    exact ⟨fun _ => Nat.le_refl _, fun h => absurd rfl h⟩
  | step x y c hp hd hy hya hc ih =>
    have hle : C a k ≤ c := by
      by_cases e : x = k
      · exact ih.1 e
      · obtain ⟨_, c', _, h2⟩ := ih.2 e; omega
    refine ⟨fun _ => by omega, fun hyk => ?_⟩
    by_cases e : x = k
    · subst e
      exact ⟨hd, C x y, .one y hy hyk hc trivial, by omega⟩
    · obtain ⟨h1, c', h2, h3⟩ := ih.2 e
      exact ⟨h1, c' + C x y, .step x y _ h2 hd hy hyk hc, by omega⟩
theorem path_back (hs : ∀ a b, C a b = C b a) (h0 : ∀ a, C a a = 0) {p q : Nat} (hpq : p ≠ q) (hp : p < 12) {x c : Nat} (h : Pth C D p (fun _ => True) x c) :
    (x = q → ∃ c', c' ≤ c ∧ Pth C D q (fun _ => True) p c') ∧ (∀ e, x ≠ q → D x = false → Pth C D q (fun _ => True) x e → ∃ c', c' ≤ e + c ∧ Pth C D q (fun _ => True) p c') := by
  induction h with
  | one x hx1 hx2 hx3 _ =>
    refine ⟨fun e => ?_, fun e hxq hd hpe => ?_⟩
    · subst e
      exact ⟨C x p, by rw [hs]; exact Nat.le_refl _, .one p hp hpq (by rw [hs]; exact hx3) trivial⟩
    · exact ⟨e + C x p, by rw [hs x p]; exact Nat.le_refl _, .step x p _ hpe hd hp hpq (by rw [hs]; exact hx3)⟩
  | step y x c hy hd hx hxp hc ih =>
    refine ⟨fun e => ?_, fun e hxq hdx hpe => ?_⟩
    · subst e
      have hyx : y ≠ x := fun e => by subst e; exact hc (h0 y)
      obtain ⟨c', h1, h2⟩ := ih.2 (C x y) hyx hd (.one y hy.lt.1 hyx (by rw [hs]; exact hc) trivial)
      exact ⟨c', by rw [hs x y] at h1; omega, h2⟩
    · by_cases e2 : y = q
      · obtain ⟨c', h1, h2⟩ := ih.1 e2
        exact ⟨c', by omega, h2⟩
      · obtain ⟨c', h1, h2⟩ := ih.2 (e + C x y) e2 hd (.step x y _ hpe hdx hy.lt.1 e2 (by rw [hs]; exact hc))
        exact ⟨c', by rw [hs x y] at h1; omega, h2⟩
end

/-- what a way's cost is: none leads there, or the least of those that do -/
theorem cost_cases (xs : List Entry) {s i : Nat} (hi : i ≠ s) :
    ((wayTo xs s i).cost = -1 ∧ ∀ c, ¬ Pth (linkC xs) (fun a => (adjAt xs a).1) s (fun _ => True) i c) ∨
    ∃ m : Nat, (wayTo xs s i).cost = m ∧ Mn (linkC xs) (fun a => (adjAt xs a).1) s (fun _ => True) i m := by
  have hall : ∀ c, Pth (linkC xs) (fun a => (adjAt xs a).1) s (fun k => fstF (-1) k = true) i c ↔ Pth (linkC xs) (fun a => (adjAt xs a).1) s (fun _ => True) i c := fun c => Pth.same fst_all
  have hw : (wayTo xs s i).cost = gI (rnds (linkC xs) (fun a => (adjAt xs a).1) s (iniB (linkC xs) s (fstF (-1))) 12) i := by
    unfold wayTo; rw [if_neg hi]; rfl
  rw [hw]
  rcases rounds_find (C := linkC xs) (D := fun a => (adjAt xs a).1) (s := s) (F := fstF (-1)) i with ⟨r1, r2⟩ | ⟨m, r1, r2⟩
  · exact .inl ⟨r1, fun c h => r2 c ((hall c).2 h)⟩
  · exact .inr ⟨m, r1, (hall m).1 r2.1, fun c h => r2.2 c ((hall c).2 h)⟩
theorem best_iff (xs : List Entry) {s i m : Nat} (hm : Mn (linkC xs) (fun a => (adjAt xs a).1) s (fun _ => True) i m) (k : Nat) :
    gI (best xs s (k : Int) 12) i = m ↔ Pth (linkC xs) (fun a => (adjAt xs a).1) s (· = k) i m := by
  have hone : ∀ c, Pth (linkC xs) (fun a => (adjAt xs a).1) s (fun j => fstF (k : Int) j = true) i c ↔ Pth (linkC xs) (fun a => (adjAt xs a).1) s (· = k) i c := fun c => Pth.same (fst_one k)
  show gI (rnds (linkC xs) (fun a => (adjAt xs a).1) s (iniB (linkC xs) s (fstF (k : Int))) 12) i = m ↔ _
  rcases rounds_find (C := linkC xs) (D := fun a => (adjAt xs a).1) (s := s) (F := fstF (k : Int)) i with ⟨r1, r2⟩ | ⟨m', r1, r2⟩
  · rw [r1]
    exact ⟨fun e => by omega, fun h => absurd ((hone m).2 h) (r2 m)⟩
  · rw [r1]
    constructor
    · intro e
      have : m' = m := by omega
      rw [← this]; exact (hone m').1 r2.1
    · intro h
      have h1 := r2.2 m ((hone m).2 h)
      have h2 := hm.2 m' (((hone m').1 r2.1).mono (fun _ _ => trivial))
      omega

/-- over a neighbor: what it costs, -1: it can't be -/
def overC (xs : List Entry) (a dst k : Nat) : Int :=
  if linkC xs a k = 0 then -1 else if k = dst then (linkC xs a k : Nat) else if (wayTo xs k dst).cost < 0 ∨ (adjAt xs k).1 = true then -1 else (wayTo xs k dst).cost + (linkC xs a k : Nat)
theorem linkC_self (xs : List Entry) (a : Nat) : linkC xs a a = 0 := by unfold linkC; rw [if_pos (.inl rfl)]
theorem over_up {xs : List Entry} {a dst k : Nat} (hk : k < 12) (hto : dst ≠ a) (h : 0 ≤ overC xs a dst k) :
    ∃ n : Nat, overC xs a dst k = n ∧ (Pth (linkC xs) (fun a => (adjAt xs a).1) a (· = k) dst n ∨ ∃ c', c' < n ∧ Pth (linkC xs) (fun a => (adjAt xs a).1) a (fun _ => True) dst c') := by
  unfold overC at h ⊢
  by_cases h0 : linkC xs a k = 0
  · rw [if_pos h0] at h; omega
  · have hka : k ≠ a := fun e => by subst e; exact h0 (linkC_self xs k)
    rw [if_neg h0] at h ⊢
    by_cases e : k = dst
    · subst e
      rw [if_pos rfl]
      exact ⟨_, rfl, .inl (.one k hk hka h0 rfl)⟩
    · rw [if_neg e] at h ⊢
      by_cases h1 : (wayTo xs k dst).cost < 0 ∨ (adjAt xs k).1 = true
      · rw [if_pos h1] at h; omega
      · rw [if_neg h1]
        rcases cost_cases xs (s := k) (i := dst) (fun x => e x.symm) with ⟨r1, _⟩ | ⟨m, r1, r2⟩
        · omega
        · refine ⟨linkC xs a k + m, by omega, ?_⟩
          have hd : (adjAt xs k).1 = false := by
            cases hx : (adjAt xs k).1 with
            | false => rfl
            | true => exact absurd (.inr hx) h1
          exact path_up hk hka h0 hd r2.1 hto
theorem over_down {xs : List Entry} {a dst k m : Nat} (h : Pth (linkC xs) (fun a => (adjAt xs a).1) a (· = k) dst m) : 0 ≤ overC xs a dst k ∧ overC xs a dst k ≤ m := by
  obtain ⟨k', hk1, _, _, hk4, _⟩ := h.first
  have e1 : k' = k := hk1
  subst e1
  obtain ⟨h1, h2⟩ := path_down h
  unfold overC
  rw [if_neg hk4]
  by_cases e : k' = dst
  · rw [if_pos e]
    have := h1 e.symm
    omega
  · rw [if_neg e]
    obtain ⟨hd, c', h3, h4⟩ := h2 (fun x => e x.symm)
    rcases cost_cases xs (s := k') (i := dst) (fun x => e x.symm) with ⟨_, r2⟩ | ⟨m', r1, r2⟩
    · exact absurd h3 (r2 c')
    · have := r2.2 c' h3
      rw [if_neg (by rw [hd]; simp; omega)]
      omega

/-- the least of what the neighbors cost, and which they are -/
def bestTo2 (xs : List Entry) (a dst : Nat) : Nat → Int × List Int
  | 0 => (-1, [])
  | k + 1 =>
    let (b, l) := bestTo2 xs a dst k
    let c := overC xs a dst k
    if c < 0 then (b, l) else if b < 0 ∨ c < b then (c, [(k : Int)]) else if c = b then (b, l ++ [(k : Int)]) else (b, l)
theorem best2_inv (xs : List Entry) (a dst : Nat) : ∀ n, ((bestTo2 xs a dst n).1 = -1 ∧ (bestTo2 xs a dst n).2 = [] ∧ ∀ k, k < n → overC xs a dst k < 0) ∨
    (0 ≤ (bestTo2 xs a dst n).1 ∧ (∃ k, k < n ∧ overC xs a dst k = (bestTo2 xs a dst n).1) ∧ (∀ k, k < n → 0 ≤ overC xs a dst k → (bestTo2 xs a dst n).1 ≤ overC xs a dst k) ∧
      (bestTo2 xs a dst n).2 = ((List.range n).map fun (i : Nat) => (i : Int)).filter fun i => decide (overC xs a dst i.toNat = (bestTo2 xs a dst n).1))
  | 0 => .inl ⟨rfl, rfl, fun k hk => by omega⟩
  | n + 1 => by
    have ih := best2_inv xs a dst n
    have hs : bestTo2 xs a dst (n + 1) = (if overC xs a dst n < 0 then ((bestTo2 xs a dst n).1, (bestTo2 xs a dst n).2) else if (bestTo2 xs a dst n).1 < 0 ∨ overC xs a dst n < (bestTo2 xs a dst n).1 then (overC xs a dst n, [(n : Int)]) else if overC xs a dst n = (bestTo2 xs a dst n).1 then ((bestTo2 xs a dst n).1, (bestTo2 xs a dst n).2 ++ [(n : Int)]) else ((bestTo2 xs a dst n).1, (bestTo2 xs a dst n).2)) := rfl
    have hr : ∀ P : Int → Bool, ((List.range (n + 1)).map fun (i : Nat) => (i : Int)).filter P = (((List.range n).map fun (i : Nat) => (i : Int)).filter P) ++ (if P (n : Int) = true then [(n : Int)] else []) := by
      intro P
      rw [List.range_succ, List.map_append, List.filter_append]
      congr 1
      show List.filter P [(n : Int)] = _
      rw [List.filter_cons]
      split <;> simp
    have hnone : ∀ v : Int, (∀ k, k < n → 0 ≤ overC xs a dst k → v < overC xs a dst k) → 0 ≤ v → (((List.range n).map fun (i : Nat) => (i : Int)).filter fun i => decide (overC xs a dst i.toNat = v)) = [] := by
      intro v hv hv0
      rw [List.filter_eq_nil_iff]
      intro i hi
      obtain ⟨k, hk, rfl⟩ := List.mem_map.1 hi
      have hkn := List.mem_range.1 hk
      rw [Int.toNat_natCast]
      simp only [decide_eq_true_eq]
      intro e
      have := hv k hkn (by omega)
      omega
    rw [hs]
    by_cases c0 : overC xs a dst n < 0
    · rw [if_pos c0]
      rcases ih with ⟨i1, i2, i3⟩ | ⟨i1, ⟨k, i2, i3⟩, i4, i5⟩
      · refine .inl ⟨i1, i2, fun k hk => ?_⟩
        by_cases e : k = n
        · rw [e]; exact c0
        · exact i3 k (by omega)
      · refine .inr ⟨i1, ⟨k, by omega, i3⟩, fun j hj h0 => ?_, ?_⟩
        · by_cases e : j = n
          · subst e; omega
          · exact i4 j (by omega) h0
        · rw [hr, if_neg (by rw [Int.toNat_natCast]; simp; omega), List.append_nil]; exact i5
    · rw [if_neg c0]
      have hself : (fun i : Int => decide (overC xs a dst i.toNat = overC xs a dst n)) (n : Int) = true := by simp
      by_cases c1 : (bestTo2 xs a dst n).1 < 0 ∨ overC xs a dst n < (bestTo2 xs a dst n).1
      · rw [if_pos c1]
        have hlt : ∀ k, k < n → 0 ≤ overC xs a dst k → overC xs a dst n < overC xs a dst k := by
          intro k hk hk0
          rcases ih with ⟨i1, i2, i3⟩ | ⟨i1, _, i4, i5⟩
          · have := i3 k hk; omega
          · have := i4 k hk hk0; omega
        refine .inr ⟨by show 0 ≤ overC xs a dst n; omega, ⟨n, by omega, rfl⟩, fun j hj h0 => ?_, ?_⟩
        · show overC xs a dst n ≤ _
          by_cases e : j = n
          · subst e; exact Int.le_refl _
          · have := hlt j (by omega) h0; omega
        · show [(n : Int)] = _
          rw [hr, if_pos hself, hnone _ hlt (by omega)]; rfl
      · rw [if_neg c1]
        rcases ih with ⟨i1, i2, i3⟩ | ⟨i1, ⟨k, i2, i3⟩, i4, i5⟩
        · exact absurd (.inl (by omega)) c1
        · by_cases c2 : overC xs a dst n = (bestTo2 xs a dst n).1
          · rw [if_pos c2]
            refine .inr ⟨i1, ⟨k, by omega, i3⟩, fun j hj h0 => ?_, ?_⟩
            · show (bestTo2 xs a dst n).1 ≤ _
              by_cases e : j = n
              · subst e; omega
              · exact i4 j (by omega) h0
            · show (bestTo2 xs a dst n).2 ++ [(n : Int)] = _
              rw [hr, if_pos (by rw [Int.toNat_natCast]; simpa using c2), ← i5]
          · rw [if_neg c2]
            refine .inr ⟨i1, ⟨k, by omega, i3⟩, fun j hj h0 => ?_, ?_⟩
            · show (bestTo2 xs a dst n).1 ≤ _
              by_cases e : j = n
              · subst e; omega
              · exact i4 j (by omega) h0
            · show (bestTo2 xs a dst n).2 = _
              rw [hr, if_neg (by rw [Int.toNat_natCast]; simpa using c2), List.append_nil]; exact i5
theorem hopsTo_list (xs : List Entry) (s q : Nat) (c : Int) : ∀ k, hopsTo xs s q c k = ((List.range k).map fun (i : Nat) => (i : Int)).filter fun i => decide (gI (best xs s i 12) q = c)
  | 0 => rfl
  | k + 1 => by
    unfold hopsTo
    rw [List.range_succ, List.map_append, List.filter_append, ← hopsTo_list xs s q c k]
    by_cases e : gI (best xs s (k : Int) 12) q = c
    · rw [if_pos e]; simp [e]
    · rw [if_neg e]; simp [e]
/-- A WAY IS A STEP TO A HOP, AND A WAY FROM THERE -/
theorem way_step (xs : List Entry) {a dst : Nat} (hto : dst ≠ a) : bestTo2 xs a dst 12 = ((wayTo xs a dst).cost, (wayTo xs a dst).hops) := by
  have hw : (wayTo xs a dst).hops = hopsFor xs a dst (wayTo xs a dst).cost 12 := by unfold wayTo; rw [if_neg hto]
  rw [hw]
  refine Prod.ext ?_ ?_
  all_goals
    rcases cost_cases xs (s := a) (i := dst) hto with ⟨r1, r2⟩ | ⟨m, r1, r2⟩
    · rcases best2_inv xs a dst 12 with ⟨i1, i2, i3⟩ | ⟨i1, ⟨k, i2, i3⟩, i4, i5⟩
      · simp only [r1, i1, i2]
        try (unfold hopsFor; rw [if_pos (by omega)])
      · obtain ⟨n, h1, h2⟩ := over_up i2 hto (by rw [i3]; exact i1)
        rcases h2 with h2 | ⟨c', _, h2⟩
        · exact absurd (h2.mono (fun _ _ => trivial)) (r2 n)
        · exact absurd h2 (r2 c')
    · obtain ⟨k0, _, hk12, _, _, hk5⟩ := r2.1.first
      obtain ⟨d1, d2⟩ := over_down hk5
      have hge : ∀ k, k < 12 → 0 ≤ overC xs a dst k → (m : Int) ≤ overC xs a dst k := by
        intro k hk h0
        obtain ⟨n, h1, h2⟩ := over_up hk hto h0
        rcases h2 with h2 | ⟨c', h3, h2⟩
        · have := r2.2 n (h2.mono (fun _ _ => trivial)); omega
        · have := r2.2 c' h2; omega
      rcases best2_inv xs a dst 12 with ⟨i1, i2, i3⟩ | ⟨i1, ⟨k, i2, i3⟩, i4, i5⟩
      · have := i3 k0 hk12; omega
      · have hb : (bestTo2 xs a dst 12).1 = m := by
          have h1 := i4 k0 hk12 d1
          have h2 := hge k i2 (by omega)
          omega
        first
          | (show (bestTo2 xs a dst 12).1 = _; rw [hb, r1])
          | (show (bestTo2 xs a dst 12).2 = hopsFor xs a dst (wayTo xs a dst).cost 12
             rw [i5, hb, r1]
             unfold hopsFor
             rw [if_neg (by omega), hopsTo_list]
             refine List.filter_congr (fun i hi => ?_)
             obtain ⟨k, hk, rfl⟩ := List.mem_map.1 hi
             have hk12 := List.mem_range.1 hk
             rw [Int.toNat_natCast, Bool.eq_iff_iff, decide_eq_true_eq, decide_eq_true_eq, best_iff xs r2 k]
             constructor
             · intro e
               obtain ⟨n, h1, h2⟩ := over_up hk12 hto (by rw [e]; omega)
               have hn : n = m := by omega
               rcases h2 with h2 | ⟨c', h3, h2⟩
               · rw [← hn]; exact h2
               · have := r2.2 c' h2; omega
             · intro hp
               obtain ⟨e1, e2⟩ := over_down hp
               have := hge k hk12 e1
               omega)
/-- WHERE ALL LINKS COST AS MUCH IN BOTH DIRECTIONS a way back costs as much -/
theorem way_back {xs : List Entry} (hs : ∀ a b, linkC xs a b = linkC xs b a) {p q : Nat} (hp : p < 12) (hq : q < 12) : (wayTo xs p q).cost = (wayTo xs q p).cost := by
  by_cases e : p = q
  · subst e; rfl
  · have h0 := linkC_self xs
    rcases cost_cases xs (s := p) (i := q) (fun x => e x.symm) with ⟨r1, r2⟩ | ⟨m, r1, r2⟩
    · rcases cost_cases xs (s := q) (i := p) e with ⟨g1, g2⟩ | ⟨n, g1, g2⟩
      · rw [r1, g1]
      · obtain ⟨c', _, h⟩ := (path_back hs h0 (fun x => e x.symm) hq g2.1).1 rfl
        exact absurd h (r2 c')
    · rcases cost_cases xs (s := q) (i := p) e with ⟨g1, g2⟩ | ⟨n, g1, g2⟩
      · obtain ⟨c', _, h⟩ := (path_back hs h0 e hp r2.1).1 rfl
        exact absurd h (g2 c')
      · obtain ⟨c1, h1, h2⟩ := (path_back hs h0 e hp r2.1).1 rfl
        obtain ⟨c2, h3, h4⟩ := (path_back hs h0 (fun x => e x.symm) hq g2.1).1 rfl
        have := g2.2 c1 h2
        have := r2.2 c2 h4
        rw [r1, g1]; omega
end Go.Proofs.YtcbkimbeljhbhaaGreatDoor

namespace Go.Proofs.YtcbkimbeljhbhaaGreatDoor
open Go

theorem dij_ex {C : Nat → Nat → Nat} {D : Nat → Bool} {s : Nat} (hC : ∀ a b, C a b ≤ 1000) (hs : s < 12) : ∀ (n : Nat) (st : Ds) (R : Nat → Nat → Prop), mu st ≤ n → Inv C D s R st → Cov C D s 0 12 R st →
    ∃ st' R', Inv C D s R' st' ∧ Cov C D s 0 12 R' st' ∧ st'.heap = [] := by
  intro n
  induction n with
  | zero =>
    intro st R hm hi hc
    refine ⟨st, R, hi, hc, List.eq_nil_of_length_eq_zero ?_⟩
    unfold mu at hm; omega
  | succ n ih =>
    intro st R hm hi hc
    by_cases hl : 0 < st.heap.length
    · obtain ⟨_, _, ⟨R', h1, h2⟩, h3, _⟩ := step_inv hC hs hi hc hl
      exact ih _ R' (by omega) h1 h2
    · exact ⟨st, R, hi, hc, List.eq_nil_of_length_eq_zero (by omega)⟩
theorem way_le (xs : List Entry) {s q : Nat} (hs : s < 12) (hq : q < 12) : -1 ≤ (wayTo xs s q).cost ∧ (wayTo xs s q).cost ≤ 1048576 := by
  obtain ⟨h1, h2⟩ := ini_inv (linkC xs) (fun a => (adjAt xs a).1) hs
  obtain ⟨st, R, g1, g2, g3⟩ := dij_ex (linkC_le xs) hs _ _ _ (Nat.le_refl _) h1 h2
  rw [← ways_agree hs (fun _ _ => rfl) (fun _ => rfl) g1 g2 g3 hq]
  show -1 ≤ costW st q ∧ costW st q ≤ 1048576
  have := g1.nn hq
  unfold costW
  split <;> omega
theorem way_hops {xs : List Entry} {s q : Nat} (hq : q ≠ s) (hc : 0 ≤ (wayTo xs s q).cost) : (wayTo xs s q).hops ≠ [] := by
  rcases cost_cases xs hq with ⟨r1, _⟩ | ⟨m, r1, r2⟩
  · omega
  · obtain ⟨k, _, hk12, _, _, hk5⟩ := r2.1.first
    have hw : (wayTo xs s q).hops = hopsFor xs s q (wayTo xs s q).cost 12 := by unfold wayTo; rw [if_neg hq]
    rw [hw, r1]
    unfold hopsFor
    rw [if_neg (by omega), hopsTo_list]
    intro e
    have : (k : Int) ∈ (((List.range 12).map fun (i : Nat) => (i : Int)).filter fun i => decide (gI (best xs s i 12) q = (m : Int))) :=
      List.mem_filter.2 ⟨List.mem_map.2 ⟨k, List.mem_range.2 hk12, rfl⟩, by simpa using (best_iff xs r2 k).2 hk5⟩
    rw [e] at this; cases this

theorem seq_zero {α : Type} {bad : α → Int} {ord : α → α → Bool} (l : List α) (h1 : ∀ x ∈ l, bad x = 0) (h2 : l.Pairwise fun a b => ord a b = true) : ∀ n k, seqChk bad ord l n k = 0
  | 0, _ => rfl
  | n + 1, k => by
    unfold seqChk
    by_cases hk : k < l.length
    · rw [List.getElem?_eq_getElem hk]
      simp only
      rw [if_neg (by rw [h1 _ (List.getElem_mem hk)]; simp)]
      cases k with
      | zero => simp; exact seq_zero l h1 h2 n 1
      | succ j =>
        have hj : l[j]? = some l[j] := List.getElem?_eq_getElem (by omega)
        have ho : ord l[j] l[j + 1] = true := List.pairwise_iff_getElem.1 h2 j (j + 1) (by omega) hk (by omega)
        simp [hj, ho]
        exact seq_zero l h1 h2 n (j + 1 + 1)
    · rw [List.getElem?_eq_none (by omega)]
theorem hops_ok {l : List Int} (h1 : ∀ x ∈ l, 0 ≤ x ∧ x ≤ 11) (h2 : l.Pairwise (· < ·)) : ∀ n k, hopsAt l n k = true
  | 0, _ => rfl
  | n + 1, k => by
    unfold hopsAt
    by_cases hk : k < l.length
    · rw [List.getElem?_eq_getElem hk]
      have hb := h1 _ (List.getElem_mem hk)
      cases k with
      | zero => simp [hb]; exact hops_ok h1 h2 n 1
      | succ j =>
        have hj : l[j]? = some l[j] := List.getElem?_eq_getElem (by omega)
        have ho : l[j] < l[j + 1] := List.pairwise_iff_getElem.1 h2 j (j + 1) (by omega) hk (by omega)
        simp [hj, ho, hb]
        exact hops_ok h1 h2 n (j + 1 + 1)
    · rw [List.getElem?_eq_none (by omega)]
theorem canon_ok {l : List Int} (h : Canon l) : hopsOk l = true :=
  hops_ok (canon_in h) (by rw [← h]; exact nodes12_lt.filter _) _ _

/-- a route that a table may bear -/
structure GoodR (r : Route) : Prop where
  pre : prefBad r.pre = 0
  c0 : 0 ≤ r.cost
  c1 : r.cost ≤ 1048576
  canon : Canon r.hops
  kind : (r.here = true ∧ r.cost = 0 ∧ r.hops = []) ∨ (r.here = false ∧ r.hops ≠ [])
theorem GoodR.ok {r : Route} (h : GoodR r) : routeBad r = 0 := by
  unfold routeBad
  rw [canon_ok h.canon]
  have : routeForm r = true := by
    rcases routeForm_cases r with ⟨h1, _⟩ | ⟨_, h1 | h1 | h1⟩
    · exact h1
    · exact absurd h.pre h1
    · have := h.c0; have := h.c1; omega
    · obtain ⟨_, _, _, h2⟩ := h1
      rcases h.kind with ⟨k1, k2, k3⟩ | ⟨k1, k2⟩
      · rcases h2 with ⟨_, h2⟩ | ⟨_, _, h2⟩ | ⟨h2, _⟩
        · exact absurd k2 h2
        · rw [k3] at h2; simp at h2
        · rw [k1] at h2; cases h2
      · rcases h2 with ⟨h2, _⟩ | ⟨h2, _, _⟩ | ⟨_, h2⟩
        · rw [k1] at h2; cases h2
        · rw [k1] at h2; cases h2
        · exact absurd (List.eq_nil_of_length_eq_zero h2) k2
  rw [this]; rfl
theorem good_upd {x r : Route} (hx : GoodR x) (hr : GoodR r) (he : x.pre = r.pre) : GoodR (updR x r) := by
  unfold updR
  split
  · exact hr
  · split
    · rename_i h2
      simp only [Bool.and_eq_true, beq_iff_eq, Bool.not_eq_true'] at h2
      have hxf : x.here = false := h2.1
      refine ⟨hx.pre, hx.c0, hx.c1, canon_join _ _, .inr ⟨hxf, ?_⟩⟩
      rcases hx.kind with ⟨k1, _⟩ | ⟨_, k2⟩
      · rw [hxf] at k1; cases k1
      · intro e
        cases hh : x.hops with
        | nil => exact k2 hh
        | cons a l =>
          have ha := canon_in hx.canon a (by rw [hh]; simp)
          have : a ∈ joinS x.hops r.hops := List.mem_filter.2 ⟨nodes12_mem.2 ha, by rw [hh]; simp⟩
          rw [show joinS x.hops r.hops = [] from e] at this; cases this
    · exact hx
theorem good_add {r : Route} (hr : GoodR r) : ∀ {l : List Route}, (∀ x ∈ l, GoodR x) → ∀ y ∈ addR l r, GoodR y
  | [], _, y, hy => by simp [addR] at hy; rw [hy]; exact hr
  | x :: l, h, y, hy => by
    unfold addR at hy
    split at hy
    · rcases List.mem_cons.1 hy with e | e
      · rw [e]; exact h x (by simp)
      · exact good_add hr (fun z hz => h z (by simp [hz])) y e
    · split at hy
      · rename_i hs
        rcases List.mem_cons.1 hy with e | e
        · rw [e]; exact good_upd (h x (by simp)) hr ((sameP_iff _ _).1 hs)
        · exact h y (by simp [e])
      · rcases List.mem_cons.1 hy with e | e
        · rw [e]; exact hr
        · exact h y e
theorem canon_nil : Canon [] := by unfold Canon; simp
theorem good_of {xs : List Entry} {s n : Nat} (hs : s < 12) (hn : n < 12) {p : Prefix} (hp : prefBad p = 0) {r : Route} (h : routeOfN xs s n p = some r) : GoodR r := by
  unfold routeOfN at h
  split at h
  · injection h with h; subst h
    exact ⟨hp, Int.le_refl _, (by show (0 : Int) ≤ 1048576; omega), canon_nil, .inl ⟨rfl, rfl, rfl⟩⟩
  · rename_i hne
    split at h
    · rename_i hc
      injection h with h; subst h
      exact ⟨hp, hc, (way_le xs hs hn).2, canon_way _ _ _, .inr ⟨rfl, way_hops hne hc⟩⟩
    · cases h
theorem good_addN {xs : List Entry} {s n : Nat} (hs : s < 12) (hn : n < 12) {l : List Route} (hl : ∀ x ∈ l, GoodR x) {p : Prefix} (hp : prefBad p = 0) : ∀ y ∈ addN xs s n l p, GoodR y := by
  unfold addN
  split
  · exact hl
  · rename_i r hr
    exact good_add (good_of hs hn hp hr) hl
theorem good_row {xs : List Entry} {s n : Nat} (hs : s < 12) (hn : n < 12) : ∀ (ps : List Prefix) (l : List Route), (∀ p ∈ ps, prefBad p = 0) → (∀ x ∈ l, GoodR x) → ∀ y ∈ rowN xs s n l ps, GoodR y
  | [], _, _, hl => hl
  | p :: ps, l, hp, hl => good_row hs hn ps (addN xs s n l p) (fun q hq => hp q (by simp [hq])) (good_addN hs hn hl (hp p (by simp)))
theorem good_tab {xs : List Entry} {s : Nat} (hs : s < 12) : ∀ n, n ≤ 12 → ∀ y ∈ tabTo xs s n, GoodR y
  | 0, _ => fun y hy => by cases hy
  | n + 1, hn => good_row hs (by omega) _ _ (prefs_fine (prefsAt_chk xs n)).2.1 (good_tab hs n (by omega))
theorem sorted_tab (xs : List Entry) (s n : Nat) : SortedR (tabTo xs s n) := (tab_find (fun n => (prefs_fine (prefsAt_chk xs n)).2.2) n).1
theorem chk_sorted {l : List Route} (h1 : ∀ x ∈ l, GoodR x) (h2 : SortedR l) (h3 : l.length ≤ 200) : chkRoutes l = 0 := by
  unfold chkRoutes
  rw [if_neg (by omega)]
  exact seq_zero l (fun x hx => (h1 x hx).ok) h2 _ _
theorem chk_tab {xs : List Entry} {s : Nat} (hs : s < 12) : chkRoutes (tabTo xs s 12) = 0 :=
  chk_sorted (good_tab hs 12 (Nat.le_refl _)) (sorted_tab xs s 12) (by have := len_tab xs s 12; omega)
end Go.Proofs.YtcbkimbeljhbhaaGreatDoor
