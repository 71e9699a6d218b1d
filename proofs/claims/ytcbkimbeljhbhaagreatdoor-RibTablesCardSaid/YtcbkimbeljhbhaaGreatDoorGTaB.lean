/-
  Tables of routes, kept in order; a route added to one. Plain lemmas, no program in sight.
  The table of what all nodes tell: added route by route, and looked up prefix by prefix. Plain lemmas, no program in sight.
-/
import Derived.Test.YtcbkimbeljhbhaaGreatDoorGRibP
import Derived.Test.YtcbkimbeljhbhaaGreatDoorGWaF
set_option linter.unusedVariables false
set_option linter.unusedSimpArgs false
namespace Go.Proofs.YtcbkimbeljhbhaaGreatDoor
open Go

instance : DecidableEq Prefix := fun a b => decidable_of_iff _ (sameP_iff a b)

def nodes12 : List Int := (List.range 12).map fun (k : Nat) => (k : Int)
def joinS (a b : List Int) : List Int := nodes12.filter fun k => a.contains k || b.contains k
def updR (x r : Route) : Route := if (r.here || (!x.here && decide (r.cost < x.cost))) = true then r else if (!x.here && r.cost == x.cost) = true then { x with hops := joinS x.hops r.hops } else x
def addR : List Route → Route → List Route
  | [], r => [r]
  | x :: l, r => if prefOrd x.pre r.pre = true then x :: addR l r else if sameP x.pre r.pre = true then updR x r :: l else r :: x :: l
def SortedR (l : List Route) : Prop := l.Pairwise fun a b => prefOrd a.pre b.pre = true
def atP (l : List Route) (p : Prefix) : Option Route := l.find? fun x => sameP x.pre p
def mergeO : Option Route → Route → Route
  | none, r => r
  | some x, r => updR x r

theorem sameP_comm (a b : Prefix) : sameP a b = sameP b a := by
  rw [Bool.eq_iff_iff, sameP_iff, sameP_iff]; exact ⟨Eq.symm, Eq.symm⟩
theorem sameP_ne {a b : Prefix} (h : a ≠ b) : sameP a b = false := by
  rw [Bool.eq_false_iff]; exact fun e => h ((sameP_iff a b).1 e)
theorem ord_irr (p : Prefix) : prefOrd p p = false := by
  rw [Bool.eq_false_iff]; intro h; rw [prefOrd_iff] at h; omega
theorem ord_total {p q : Prefix} (h : prefOrd p q = false) (h2 : sameP p q = false) : prefOrd q p = true := by
  rw [prefOrd_iff]
  have h1 : ¬ (p.addr < q.addr ∨ (p.addr = q.addr ∧ p.bits < q.bits)) := fun e => by rw [(prefOrd_iff p q).2 e] at h; cases h
  have h3 : ¬ (p.addr = q.addr ∧ p.bits = q.bits) := fun e => by
    rw [Bool.eq_false_iff] at h2
    exact h2 (by unfold sameP; simp [e.1, e.2])
  omega
theorem ord_neq {p q : Prefix} (h : prefOrd p q = true) : p ≠ q := fun e => by rw [e, ord_irr] at h; cases h
theorem updR_pre {x r : Route} (h : x.pre = r.pre) : (updR x r).pre = r.pre := by
  unfold updR; split
  · rfl
  · split
    · exact h
    · exact h
theorem mem_addR {l : List Route} {r y : Route} (h : y ∈ addR l r) : y.pre = r.pre ∨ y ∈ l := by
  induction l with
  | nil => simp [addR] at h; exact .inl (by rw [h])
  | cons x l ih =>
    unfold addR at h
    split at h
    · rcases List.mem_cons.1 h with e | e
      · exact .inr (by simp [e])
      · rcases ih e with e | e
        · exact .inl e
        · exact .inr (by simp [e])
    · split at h
      · rename_i _ hs
        rcases List.mem_cons.1 h with e | e
        · exact .inl (by rw [e, updR_pre ((sameP_iff _ _).1 hs)])
        · exact .inr (by simp [e])
      · rcases List.mem_cons.1 h with e | e
        · exact .inl (by rw [e])
        · exact .inr e
theorem sorted_add {l : List Route} (h : SortedR l) (r : Route) : SortedR (addR l r) := by
  induction l with
  | nil => simp [addR, SortedR]
  | cons x l ih =>
    obtain ⟨h1, h2⟩ := List.pairwise_cons.1 h
    unfold addR
    split
    · rename_i hx
      refine List.pairwise_cons.2 ⟨fun y hy => ?_, ih h2⟩
      rcases mem_addR hy with e | e
      · rw [e]; exact hx
      · exact h1 y e
    · rename_i hx
      split
      · rename_i hs
        have e := (sameP_iff _ _).1 hs
        refine List.pairwise_cons.2 ⟨fun y hy => ?_, h2⟩
        rw [updR_pre e, ← e]; exact h1 y hy
      · rename_i hs
        have hrx := ord_total (by simpa using hx) (by simpa using hs)
        refine List.pairwise_cons.2 ⟨fun y hy => ?_, h⟩
        rcases List.mem_cons.1 hy with e | e
        · rw [e]; exact hrx
        · exact ord_trans hrx (h1 y e)
theorem atP_none_of {l : List Route} {p : Prefix} (h : ∀ y ∈ l, y.pre ≠ p) : atP l p = none := by
  unfold atP
  rw [List.find?_eq_none]
  intro x hx e
  exact h x hx ((sameP_iff _ _).1 e)
theorem atP_cons (x : Route) (l : List Route) (p : Prefix) : atP (x :: l) p = if x.pre = p then some x else atP l p := by
  unfold atP
  rw [List.find?_cons]
  by_cases e : x.pre = p
  · rw [if_pos e, (sameP_iff _ _).2 e]
  · rw [if_neg e, sameP_ne e]
theorem find_add {l : List Route} (h : SortedR l) (r : Route) (p : Prefix) : atP (addR l r) p = if r.pre = p then some (mergeO (atP l p) r) else atP l p := by
  induction l with
  | nil => unfold addR; rw [atP_cons]; rfl
  | cons x l ih =>
    obtain ⟨h1, h2⟩ := List.pairwise_cons.1 h
    unfold addR
    split
    · rename_i hx
      rw [atP_cons, atP_cons, ih h2]
      by_cases e : x.pre = p
      · rw [if_pos e, if_pos e, if_neg (fun e2 => ord_neq hx (e.trans e2.symm))]
      · rw [if_neg e, if_neg e]
    · rename_i hx
      split
      · rename_i hs
        have e := (sameP_iff _ _).1 hs
        rw [atP_cons, atP_cons, updR_pre e, e]
        by_cases e2 : r.pre = p
        · rw [if_pos e2, if_pos e2, if_pos e2]; rfl
        · rw [if_neg e2, if_neg e2, if_neg e2]
      · rename_i hs
        have hrx := ord_total (by simpa using hx) (by simpa using hs)
        rw [atP_cons r]
        by_cases e2 : r.pre = p
        · rw [if_pos e2, if_pos e2, atP_none_of]
          · rfl
          · intro y hy e
            rcases List.mem_cons.1 hy with e3 | e3
            · rw [e3, ← e2] at e; exact ord_neq hrx e.symm
            · rw [← e2] at e; exact ord_neq (ord_trans hrx (h1 y e3)) e.symm
        · rw [if_neg e2, if_neg e2]
theorem atP_mem {l : List Route} {p : Prefix} {r : Route} (h : atP l p = some r) : r ∈ l ∧ r.pre = p := by
  unfold atP at h
  have h2 := List.find?_some h
  exact ⟨List.mem_of_find?_eq_some h, (sameP_iff _ _).1 h2⟩
theorem mem_atP {l : List Route} (h : SortedR l) {r : Route} (hr : r ∈ l) : atP l r.pre = some r := by
  induction l with
  | nil => cases hr
  | cons x l ih =>
    obtain ⟨h1, h2⟩ := List.pairwise_cons.1 h
    rw [atP_cons]
    rcases List.mem_cons.1 hr with e | e
    · rw [e, if_pos rfl]
    · rw [if_neg (ord_neq (h1 r e)), ih h2 e]
/-- tables in order that find the same are the same -/
theorem sorted_ext : ∀ {l m : List Route}, SortedR l → SortedR m → (∀ p, atP l p = atP m p) → l = m
  | [], [], _, _, _ => rfl
  | [], y :: m, _, hm, h => by
    have := h y.pre
    rw [mem_atP hm (by simp)] at this; cases this
  | x :: l, [], hl, _, h => by
    have := h x.pre
    rw [mem_atP hl (by simp)] at this; cases this
  | x :: l, y :: m, hl, hm, h => by
    obtain ⟨h1, h2⟩ := List.pairwise_cons.1 hl
    obtain ⟨g1, g2⟩ := List.pairwise_cons.1 hm
    have hx : atP (y :: m) x.pre = some x := by rw [← h]; exact mem_atP hl (by simp)
    have hy : atP (x :: l) y.pre = some y := by rw [h]; exact mem_atP hm (by simp)
    have hxy : x = y := by
      rcases List.mem_cons.1 (atP_mem hx).1 with e | e
      · exact e
      · rcases List.mem_cons.1 (atP_mem hy).1 with e2 | e2
        · exact e2.symm
        · have := ord_trans (g1 x e) (h1 y e2)
          rw [ord_irr] at this; cases this
    subst hxy
    have : l = m := sorted_ext h2 g2 (fun p => by
      have hp := h p
      rw [atP_cons, atP_cons] at hp
      by_cases e : x.pre = p
      · rw [atP_none_of, atP_none_of]
        · intro z hz e2; exact ord_neq (g1 z hz) (e.trans e2.symm)
        · intro z hz e2; exact ord_neq (h1 z hz) (e.trans e2.symm)
      · rw [if_neg e, if_neg e] at hp; exact hp)
    rw [this]
end Go.Proofs.YtcbkimbeljhbhaaGreatDoor

namespace Go.Proofs.YtcbkimbeljhbhaaGreatDoor
open Go

def keyP (n : Nat) : ByteArray := bOf ([112, 58] ++ Lib.decDigits n)
/-- the prefixes that a node tells -/
def prefsAt (xs : List Entry) (n : Nat) : List Prefix := match findE xs (keyP n) with | some e => (readPrefs e.value.data.toList).1 | none => []
def inP (l : List Prefix) (p : Prefix) : Bool := l.any fun q => sameP q p
theorem inP_iff (l : List Prefix) (p : Prefix) : inP l p = true ↔ p ∈ l := by
  unfold inP
  rw [List.any_eq_true]
  constructor
  · rintro ⟨q, h1, h2⟩; rw [← (sameP_iff _ _).1 h2]; exact h1
  · intro h; exact ⟨p, h, sameP_refl p⟩

/-- the route that a node's prefix makes -/
def routeOfN (xs : List Entry) (s n : Nat) (p : Prefix) : Option Route :=
  if n = s then some ⟨p, true, 0, []⟩ else if 0 ≤ (wayTo xs s n).cost then some ⟨p, false, (wayTo xs s n).cost, (wayTo xs s n).hops⟩ else none
def addN (xs : List Entry) (s n : Nat) (l : List Route) (p : Prefix) : List Route := match routeOfN xs s n p with | none => l | some r => addR l r
def rowN (xs : List Entry) (s n : Nat) (l : List Route) (ps : List Prefix) : List Route := ps.foldl (addN xs s n) l
def tabTo (xs : List Entry) (s : Nat) : Nat → List Route
  | 0 => []
  | n + 1 => rowN xs s n (tabTo xs s n) (prefsAt xs n)
def accP (xs : List Entry) (s : Nat) (p : Prefix) : Nat → Option Route
  | 0 => none
  | n + 1 => if inP (prefsAt xs n) p = true then (match routeOfN xs s n p with | none => accP xs s p n | some r => some (mergeO (accP xs s p n) r)) else accP xs s p n

theorem routeOfN_pre {xs : List Entry} {s n : Nat} {p : Prefix} {r : Route} (h : routeOfN xs s n p = some r) : r.pre = p := by
  unfold routeOfN at h
  split at h
  · injection h with h; rw [← h]
  · split at h
    · injection h with h; rw [← h]
    · cases h
theorem sorted_addN {xs : List Entry} {s n : Nat} {l : List Route} (h : SortedR l) (p : Prefix) : SortedR (addN xs s n l p) := by
  unfold addN; split
  · exact h
  · exact sorted_add h _
theorem find_addN {xs : List Entry} {s n : Nat} {l : List Route} (h : SortedR l) (q p : Prefix) :
    atP (addN xs s n l q) p = if q = p then (match routeOfN xs s n p with | none => atP l p | some r => some (mergeO (atP l p) r)) else atP l p := by
  unfold addN
  by_cases e : q = p
  · subst e
    rw [if_pos rfl]
    cases hr : routeOfN xs s n q with
    | none => rfl
    | some r => show atP (addR l r) q = _; rw [find_add h, if_pos (routeOfN_pre hr)]
  · rw [if_neg e]
    cases hr : routeOfN xs s n q with
    | none => rfl
    | some r => show atP (addR l r) p = _; rw [find_add h, if_neg (by rw [routeOfN_pre hr]; exact e)]
theorem row_find {xs : List Entry} {s n : Nat} : ∀ (ps : List Prefix) (l : List Route), SortedR l → ps.Pairwise (fun a b => prefOrd a b = true) →
    SortedR (rowN xs s n l ps) ∧ ∀ p, atP (rowN xs s n l ps) p = if inP ps p = true then (match routeOfN xs s n p with | none => atP l p | some r => some (mergeO (atP l p) r)) else atP l p
  | [], l, hl, _ => ⟨hl, fun p => by rw [if_neg (by simp [inP])]; rfl⟩
  | q :: ps, l, hl, hp => by
    obtain ⟨h1, h2⟩ := List.pairwise_cons.1 hp
    obtain ⟨g1, g2⟩ := row_find ps (addN xs s n l q) (sorted_addN hl q) h2
    refine ⟨g1, fun p => ?_⟩
    show atP (rowN xs s n (addN xs s n l q) ps) p = _
    rw [g2 p]
    by_cases e : q = p
    · subst e
      have hno : ¬ inP ps q = true := fun hc => by
        rw [inP_iff] at hc; exact ord_neq (h1 q hc) rfl
      rw [if_neg hno, find_addN hl, if_pos rfl, if_pos (by rw [inP_iff]; simp)]
    · have hin : inP (q :: ps) p = inP ps p := by
        rw [Bool.eq_iff_iff, inP_iff, inP_iff, List.mem_cons]
        exact ⟨fun h => h.resolve_left (fun x => e x.symm), .inr⟩
      rw [hin, find_addN hl, if_neg e]
theorem tab_find {xs : List Entry} {s : Nat} (hp : ∀ n, (prefsAt xs n).Pairwise (fun a b => prefOrd a b = true)) : ∀ n, SortedR (tabTo xs s n) ∧ ∀ p, atP (tabTo xs s n) p = accP xs s p n
  | 0 => ⟨List.Pairwise.nil, fun _ => rfl⟩
  | n + 1 => by
    obtain ⟨h1, h2⟩ := tab_find hp n
    obtain ⟨g1, g2⟩ := row_find (xs := xs) (s := s) (n := n) _ _ h1 (hp n)
    refine ⟨g1, fun p => ?_⟩
    show atP (rowN xs s n (tabTo xs s n) (prefsAt xs n)) p = _
    rw [g2 p, h2 p]; rfl

/-- as the document has it: the least cost of the nodes that tell a prefix; the hops of those that cost as much -/
def okN (xs : List Entry) (s : Nat) (p : Prefix) (n : Nat) : Bool := decide (n ≠ s) && decide (0 ≤ (wayTo xs s n).cost) && inP (prefsAt xs n) p
def refCost (xs : List Entry) (s : Nat) (p : Prefix) : Nat → Int
  | 0 => -1
  | n + 1 => if okN xs s p n = true ∧ (refCost xs s p n < 0 ∨ (wayTo xs s n).cost < refCost xs s p n) then (wayTo xs s n).cost else refCost xs s p n
def atN (xs : List Entry) (s : Nat) (p : Prefix) (c : Int) (h : Int) (n : Nat) : Bool := decide (n ≠ s) && decide ((wayTo xs s n).cost = c) && inP (prefsAt xs n) p && (wayTo xs s n).hops.contains h
def refHas (xs : List Entry) (s : Nat) (p : Prefix) (c : Int) (h : Int) : Nat → Bool
  | 0 => false
  | n + 1 => refHas xs s p c h n || atN xs s p c h n
def refHops (xs : List Entry) (s : Nat) (p : Prefix) (c : Int) : Nat → List Int
  | 0 => []
  | h + 1 => if refHas xs s p c (h : Int) 12 = true then refHops xs s p c h ++ [(h : Int)] else refHops xs s p c h
def refRoute (xs : List Entry) (s : Nat) (p : Prefix) : Option Route :=
  if inP (prefsAt xs s) p = true then some ⟨p, true, 0, []⟩ else if refCost xs s p 12 < 0 then none else some ⟨p, false, refCost xs s p 12, refHops xs s p (refCost xs s p 12) 12⟩

theorem refCost_ok {xs : List Entry} {s : Nat} {p : Prefix} : ∀ n, -1 ≤ refCost xs s p n ∧ ∀ m, m < n → okN xs s p m = true → 0 ≤ refCost xs s p n ∧ refCost xs s p n ≤ (wayTo xs s m).cost
  | 0 => ⟨by unfold refCost; omega, fun m hm => by omega⟩
  | n + 1 => by
    obtain ⟨h1, h2⟩ := refCost_ok (xs := xs) (s := s) (p := p) n
    unfold refCost
    have hok : okN xs s p n = true → 0 ≤ (wayTo xs s n).cost := fun h => by unfold okN at h; simp at h; exact h.1.2
    split
    · rename_i hc
      have h3 := hok hc.1
      refine ⟨by omega, fun m hm hk => ?_⟩
      by_cases e : m = n
      · subst e; omega
      · have := h2 m (by omega) hk; omega
    · rename_i hc
      refine ⟨h1, fun m hm hk => ?_⟩
      by_cases e : m = n
      · subst e
        have h3 := hok hk
        have : ¬ (refCost xs s p m < 0 ∨ (wayTo xs s m).cost < refCost xs s p m) := fun x => hc ⟨hk, x⟩
        omega
      · exact h2 m (by omega) hk
theorem refHas_no {xs : List Entry} {s : Nat} {p : Prefix} {c h : Int} (hc : 0 ≤ c) : ∀ n, (∀ m, m < n → okN xs s p m = true → (wayTo xs s m).cost ≠ c) → refHas xs s p c h n = false
  | 0, _ => rfl
  | n + 1, hm => by
    unfold refHas
    rw [refHas_no hc n (fun m hm1 => hm m (by omega)), Bool.false_or]
    rw [Bool.eq_false_iff]
    intro e
    unfold atN at e
    simp only [Bool.and_eq_true, decide_eq_true_eq] at e
    obtain ⟨⟨⟨e1, e2⟩, e3⟩, _⟩ := e
    exact hm n (by omega) (by unfold okN; simp [e1, e3]; omega) e2
theorem atN_ok {xs : List Entry} {s n : Nat} {p : Prefix} {h : Int} (hk : okN xs s p n = true) : atN xs s p (wayTo xs s n).cost h n = (wayTo xs s n).hops.contains h := by
  unfold okN at hk
  simp only [Bool.and_eq_true, decide_eq_true_eq] at hk
  unfold atN
  simp [hk.1.1, hk.2]
theorem atN_no {xs : List Entry} {s n : Nat} {p : Prefix} {c h : Int} (hc : 0 ≤ c) (hk : okN xs s p n = false ∨ (wayTo xs s n).cost ≠ c) : atN xs s p c h n = false := by
  rw [Bool.eq_false_iff]
  intro e
  unfold atN at e
  simp only [Bool.and_eq_true, decide_eq_true_eq] at e
  obtain ⟨⟨⟨e1, e2⟩, e3⟩, _⟩ := e
  rcases hk with hk | hk
  · rw [Bool.eq_false_iff] at hk; exact hk (by unfold okN; simp [e1, e3]; omega)
  · exact hk e2

/-- hops that stand in their order -/
def Canon (l : List Int) : Prop := nodes12.filter (fun k => l.contains k) = l
theorem canon_filter (P : Int → Bool) : Canon (nodes12.filter P) := by
  unfold Canon
  refine List.filter_congr (fun k hk => ?_)
  rw [Bool.eq_iff_iff, List.contains_iff_mem, List.mem_filter]
  exact ⟨fun h => h.2, fun h => ⟨hk, h⟩⟩
theorem hopsTo_filter (xs : List Entry) (s q : Nat) (c : Int) : ∀ k, hopsTo xs s q c k = ((List.range k).map fun (i : Nat) => (i : Int)).filter fun i => decide (gI (best xs s i 12) q = c)
  | 0 => rfl
  | k + 1 => by
    unfold hopsTo
    rw [List.range_succ, List.map_append, List.filter_append, ← hopsTo_filter xs s q c k]
    by_cases e : gI (best xs s (k : Int) 12) q = c
    · rw [if_pos e]; simp [e]
    · rw [if_neg e]; simp [e]
theorem canon_way (xs : List Entry) (s n : Nat) : Canon (wayTo xs s n).hops := by
  unfold wayTo
  split
  · show Canon ([] : List Int)
    unfold Canon; simp
  · show Canon (hopsFor xs s n (costTo xs s n) 12)
    unfold hopsFor
    split
    · unfold Canon; simp
    · rw [hopsTo_filter]; exact canon_filter _

theorem acc_none {xs : List Entry} {s : Nat} {p : Prefix} (hs : inP (prefsAt xs s) p = false) : ∀ n,
    accP xs s p n = if refCost xs s p n < 0 then none else some ⟨p, false, refCost xs s p n, nodes12.filter fun h => refHas xs s p (refCost xs s p n) h n⟩
  | 0 => rfl
  | n + 1 => by
    have ih := acc_none hs n
    obtain ⟨hb, hle⟩ := refCost_ok (xs := xs) (s := s) (p := p) n
    by_cases hk : okN xs s p n = true
    · have hk2 := hk
      unfold okN at hk2
      simp only [Bool.and_eq_true, decide_eq_true_eq] at hk2
      obtain ⟨⟨k1, k2⟩, k3⟩ := hk2
      have hr : routeOfN xs s n p = some ⟨p, false, (wayTo xs s n).cost, (wayTo xs s n).hops⟩ := by
        unfold routeOfN; rw [if_neg k1, if_pos k2]
      have ha : accP xs s p (n + 1) = some (mergeO (accP xs s p n) ⟨p, false, (wayTo xs s n).cost, (wayTo xs s n).hops⟩) := by
        show (if _ then _ else _) = _
        rw [if_pos k3, hr]
      rw [ha, ih]
      by_cases hc : refCost xs s p n < 0
      · have hc2 : refCost xs s p (n + 1) = (wayTo xs s n).cost := by
          show (if _ then _ else _) = _
          rw [if_pos ⟨hk, .inl hc⟩]
        rw [if_pos hc, hc2, if_neg (by omega)]
        show some (⟨p, false, (wayTo xs s n).cost, (wayTo xs s n).hops⟩ : Route) = _
        have hf : (nodes12.filter fun h => refHas xs s p (wayTo xs s n).cost h (n + 1)) = (wayTo xs s n).hops := by
          refine Eq.trans (List.filter_congr fun h _ => ?_) (canon_way xs s n)
          show (refHas xs s p (wayTo xs s n).cost h n || atN xs s p (wayTo xs s n).cost h n) = _
          rw [refHas_no k2 n (fun m hm hkm => by have := hle m hm hkm; omega), Bool.false_or, atN_ok hk]
        rw [hf]
      · rw [if_neg hc]
        by_cases hlt : (wayTo xs s n).cost < refCost xs s p n
        · have hc2 : refCost xs s p (n + 1) = (wayTo xs s n).cost := by
            show (if _ then _ else _) = _
            rw [if_pos ⟨hk, .inr hlt⟩]
          rw [hc2, if_neg (by omega)]
          have hf : (nodes12.filter fun h => refHas xs s p (wayTo xs s n).cost h (n + 1)) = (wayTo xs s n).hops := by
            refine Eq.trans (List.filter_congr fun h _ => ?_) (canon_way xs s n)
            show (refHas xs s p (wayTo xs s n).cost h n || atN xs s p (wayTo xs s n).cost h n) = _
            rw [refHas_no k2 n (fun m hm hkm => by have := hle m hm hkm; omega), Bool.false_or, atN_ok hk]
          rw [hf]
          show some (updR _ _) = _
          unfold updR
          rw [if_pos (by simp [hlt])]
        · have hc2 : refCost xs s p (n + 1) = refCost xs s p n := by
            show (if _ then _ else _) = _
            rw [if_neg]; rintro ⟨_, h | h⟩ <;> contradiction
          rw [hc2, if_neg hc]
          show some (updR _ _) = _
          unfold updR
          rw [if_neg (by simp; omega)]
          by_cases he : (wayTo xs s n).cost = refCost xs s p n
          · rw [if_pos (by simp [he])]
            have hf : joinS (nodes12.filter fun h => refHas xs s p (refCost xs s p n) h n) (wayTo xs s n).hops = nodes12.filter fun h => refHas xs s p (refCost xs s p n) h (n + 1) := by
              unfold joinS
              refine List.filter_congr fun h hh => ?_
              show _ = (refHas xs s p (refCost xs s p n) h n || atN xs s p (refCost xs s p n) h n)
              rw [← he, atN_ok hk]
              congr 1
              rw [Bool.eq_iff_iff, List.contains_iff_mem, List.mem_filter]
              exact ⟨fun x => x.2, fun x => ⟨hh, x⟩⟩
            rw [hf]
          · rw [if_neg (by simp [he])]
            have hf : (nodes12.filter fun h => refHas xs s p (refCost xs s p n) h (n + 1)) = nodes12.filter fun h => refHas xs s p (refCost xs s p n) h n := by
              refine List.filter_congr fun h _ => ?_
              show (refHas xs s p (refCost xs s p n) h n || atN xs s p (refCost xs s p n) h n) = _
              rw [atN_no (by omega) (.inr he), Bool.or_false]
            rw [hf]
    · have hk' : okN xs s p n = false := by simpa using hk
      have hc2 : refCost xs s p (n + 1) = refCost xs s p n := by
        show (if _ then _ else _) = _
        rw [if_neg (fun h => hk h.1)]
      have ha : accP xs s p (n + 1) = accP xs s p n := by
        show (if _ then _ else _) = _
        split
        · rename_i hin
          have : routeOfN xs s n p = none := by
            unfold routeOfN
            by_cases e : n = s
            · subst e; rw [hs] at hin; cases hin
            · rw [if_neg e, if_neg]
              intro h
              exact hk (by unfold okN; simp [e, h, hin])
          rw [this]
        · rfl
      rw [ha, ih, hc2]
      split
      · rfl
      · rename_i hc
        have hf : (nodes12.filter fun h => refHas xs s p (refCost xs s p n) h (n + 1)) = nodes12.filter fun h => refHas xs s p (refCost xs s p n) h n := by
          refine List.filter_congr fun h _ => ?_
          show (refHas xs s p (refCost xs s p n) h n || atN xs s p (refCost xs s p n) h n) = _
          rw [atN_no (by omega) (.inl hk'), Bool.or_false]
        rw [hf]
theorem acc_here {xs : List Entry} {s : Nat} {p : Prefix} (hs : inP (prefsAt xs s) p = true) : ∀ n, s < n → accP xs s p n = some ⟨p, true, 0, []⟩
  | 0, h => by omega
  | n + 1, h => by
    show (if _ then _ else _) = _
    by_cases e : n = s
    · subst e
      rw [if_pos hs]
      have : routeOfN xs n n p = some ⟨p, true, 0, []⟩ := by unfold routeOfN; rw [if_pos rfl]
      rw [this]
      show some (mergeO _ _) = _
      congr 1
      cases accP xs n p n with
      | none => rfl
      | some x => show updR _ _ = _; unfold updR; rw [if_pos (by simp)]
    · have ih := acc_here hs n (by omega)
      rw [ih]
      split
      · by_cases hw : 0 ≤ (wayTo xs s n).cost
        · have : routeOfN xs s n p = some ⟨p, false, (wayTo xs s n).cost, (wayTo xs s n).hops⟩ := by unfold routeOfN; rw [if_neg e, if_pos hw]
          rw [this]; rfl
        · have : routeOfN xs s n p = none := by unfold routeOfN; rw [if_neg e, if_neg hw]
          rw [this]
      · rfl
theorem refHops_filter {xs : List Entry} {s : Nat} {p : Prefix} {c : Int} : ∀ k, refHops xs s p c k = ((List.range k).map fun (i : Nat) => (i : Int)).filter fun h => refHas xs s p c h 12
  | 0 => rfl
  | k + 1 => by
    unfold refHops
    rw [List.range_succ, List.map_append, List.filter_append, ← refHops_filter k]
    cases e : refHas xs s p c (k : Int) 12 <;> simp [e]
theorem acc_ref {xs : List Entry} {s : Nat} (hs : s < 12) (p : Prefix) : accP xs s p 12 = refRoute xs s p := by
  unfold refRoute
  by_cases h : inP (prefsAt xs s) p = true
  · rw [if_pos h, acc_here h 12 hs]
  · rw [if_neg h, acc_none (by simpa using h) 12, refHops_filter]; rfl

/-- prefix by prefix -/
def refAt (xs : List Entry) (s : Nat) (p : Prefix) : List Route := if p.addr % spanN p.bits ≠ 0 then [] else (refRoute xs s p).toList
def refBits (xs : List Entry) (s a : Nat) : Nat → List Route
  | 0 => []
  | b + 1 => refBits xs s a b ++ refAt xs s ⟨a, b⟩
def refTab (xs : List Entry) (s : Nat) : Nat → List Route
  | 0 => []
  | a + 1 => refTab xs s a ++ refBits xs s a 9
theorem refAt_pre {xs : List Entry} {s : Nat} {p : Prefix} {r : Route} (h : r ∈ refAt xs s p) : r.pre = p := by
  unfold refAt at h
  split at h
  · cases h
  · unfold refRoute at h
    split at h
    · simp at h; rw [h]
    · split at h
      · simp at h
      · simp at h; rw [h]
theorem refBits_mem {xs : List Entry} {s a : Nat} {r : Route} : ∀ b, r ∈ refBits xs s a b → r.pre.addr = a ∧ 0 ≤ r.pre.bits ∧ r.pre.bits < b
  | 0, h => by cases h
  | b + 1, h => by
    rcases List.mem_append.1 h with h | h
    · have := refBits_mem b h; omega
    · rw [refAt_pre h]; exact ⟨rfl, by show (0 : Int) ≤ b; omega, by show (b : Int) < _; omega⟩
theorem refTab_mem {xs : List Entry} {s : Nat} {r : Route} : ∀ a, r ∈ refTab xs s a → 0 ≤ r.pre.addr ∧ r.pre.addr < a ∧ 0 ≤ r.pre.bits ∧ r.pre.bits < 9
  | 0, h => by cases h
  | a + 1, h => by
    rcases List.mem_append.1 h with h | h
    · have := refTab_mem a h; omega
    · have := refBits_mem 9 h; omega
theorem refAt_sorted {xs : List Entry} {s : Nat} {p : Prefix} : SortedR (refAt xs s p) := by
  unfold refAt
  split
  · exact List.Pairwise.nil
  · cases refRoute xs s p with
    | none => exact List.Pairwise.nil
    | some r => exact List.pairwise_singleton _ _
theorem refBits_sorted {xs : List Entry} {s a : Nat} : ∀ b, SortedR (refBits xs s a b)
  | 0 => List.Pairwise.nil
  | b + 1 => List.pairwise_append.2 ⟨refBits_sorted b, refAt_sorted, fun x hx y hy => by
      have h1 := refBits_mem b hx
      rw [refAt_pre hy, prefOrd_iff]; exact .inr ⟨h1.1, h1.2.2⟩⟩
theorem refTab_sorted {xs : List Entry} {s : Nat} : ∀ a, SortedR (refTab xs s a)
  | 0 => List.Pairwise.nil
  | a + 1 => List.pairwise_append.2 ⟨refTab_sorted a, refBits_sorted 9, fun x hx y hy => by
      have h1 := refTab_mem a hx
      have h2 := refBits_mem 9 hy
      rw [prefOrd_iff]; left; omega⟩
theorem atP_append (l m : List Route) (p : Prefix) : atP (l ++ m) p = (atP l p).or (atP m p) := by unfold atP; exact List.find?_append
theorem refAt_at {xs : List Entry} {s : Nat} (p : Prefix) : atP (refAt xs s p) p = if p.addr % spanN p.bits ≠ 0 then none else refRoute xs s p := by
  unfold refAt
  split
  · rfl
  · cases h : refRoute xs s p with
    | none => rfl
    | some r =>
      have : r.pre = p := by
        unfold refRoute at h
        split at h
        · injection h with h; rw [← h]
        · split at h
          · cases h
          · injection h with h; rw [← h]
      show atP [r] p = _
      rw [atP_cons, if_pos this]
theorem refBits_at {xs : List Entry} {s a : Nat} {p : Prefix} (ha : p.addr = a) : ∀ b, atP (refBits xs s a b) p = if 0 ≤ p.bits ∧ p.bits < b then atP (refAt xs s p) p else none
  | 0 => by rw [if_neg (by omega)]; rfl
  | b + 1 => by
    show atP (refBits xs s a b ++ refAt xs s ⟨a, b⟩) p = _
    rw [atP_append, refBits_at ha b]
    by_cases e : p.bits = b
    · rw [if_neg (by omega), if_pos (by omega)]
      have : (⟨a, b⟩ : Prefix) = p := by cases p; simp at ha e; rw [ha, e]
      rw [this]; simp
    · have hno : atP (refAt xs s ⟨a, b⟩) p = none := atP_none_of (fun y hy e2 => e (by rw [← e2, refAt_pre hy]))
      rw [hno, Option.or_none]
      by_cases h : 0 ≤ p.bits ∧ p.bits < b
      · rw [if_pos h, if_pos (by omega)]
      · rw [if_neg h, if_neg (by omega)]
theorem refTab_at {xs : List Entry} {s : Nat} {p : Prefix} : ∀ a, atP (refTab xs s a) p = if 0 ≤ p.addr ∧ p.addr < a ∧ 0 ≤ p.bits ∧ p.bits < 9 then atP (refAt xs s p) p else none
  | 0 => by rw [if_neg (by omega)]; rfl
  | a + 1 => by
    show atP (refTab xs s a ++ refBits xs s a 9) p = _
    rw [atP_append, refTab_at a]
    by_cases e : p.addr = a
    · rw [if_neg (by omega), refBits_at e 9]
      by_cases h : 0 ≤ p.bits ∧ p.bits < 9
      · rw [if_pos (by omega), if_pos (by omega)]; simp
      · rw [if_neg (by omega), if_neg (by omega)]; rfl
    · have hno : atP (refBits xs s a 9) p = none := atP_none_of (fun y hy e2 => e (by rw [← e2]; exact (refBits_mem 9 hy).1))
      rw [hno, Option.or_none]
      by_cases h : 0 ≤ p.addr ∧ p.addr < a ∧ 0 ≤ p.bits ∧ p.bits < 9
      · rw [if_pos h, if_pos (by omega)]
      · rw [if_neg h, if_neg (by omega)]

/-- what is told of prefixes is in order -/
theorem prefs_chk (s : List UInt8) : chkPrefs (readPrefs s).1 = 0 := by
  unfold readPrefs
  cases pairsD 47 (partsC s) with
  | none => rfl
  | some l =>
    show chkPrefs (if chkPrefs (l.map prefOf) = 0 then _ else _ : List Prefix × Int).1 = 0
    split
    · assumption
    · rfl
theorem prefsAt_chk (xs : List Entry) (n : Nat) : chkPrefs (prefsAt xs n) = 0 := by
  unfold prefsAt
  split
  · exact prefs_chk _
  · rfl
theorem prefs_fine {l : List Prefix} (h : chkPrefs l = 0) : l.length ≤ 6 ∧ (∀ p ∈ l, prefBad p = 0) ∧ l.Pairwise (fun a b => prefOrd a b = true) := by
  unfold chkPrefs at h
  split at h
  · cases h
  · rename_i h6
    have hs := seq_ok l _ 0 (by omega) h
    have adj : ∀ m, (hm : m + 1 < l.length) → prefOrd l[m] l[m + 1] = true := fun m hm => (hs (m + 1) (by omega) hm).2 m rfl (hs (m + 1) (by omega) hm).1 (by omega)
    refine ⟨by omega, fun p hp => ?_, ?_⟩
    · obtain ⟨i, hi, rfl⟩ := List.getElem_of_mem hp
      exact (hs i (by omega) hi).1
    · rw [List.pairwise_iff_getElem]
      have key : ∀ d i, (h : i + d + 1 < l.length) → prefOrd l[i] l[i + d + 1] = true := by
        intro d
        induction d with
        | zero => intro i h; exact adj i h
        | succ d ih => intro i h; exact ord_trans (ih i (by omega)) (adj (i + d + 1) h)
      intro i j hi hj hij
      have := key (j - i - 1) i (by omega)
      have he : i + (j - i - 1) + 1 = j := by omega
      simp only [he] at this
      exact this
/-- THE TABLE -/
theorem tab_ref {xs : List Entry} {s : Nat} (hs : s < 12) : tabTo xs s 12 = refTab xs s 256 := by
  obtain ⟨h1, h2⟩ := tab_find (xs := xs) (s := s) (fun n => (prefs_fine (prefsAt_chk xs n)).2.2) 12
  refine sorted_ext h1 (refTab_sorted 256) (fun p => ?_)
  rw [h2 p, refTab_at 256, acc_ref hs p, refAt_at p]
  have hno : ¬ prefBad p = 0 → refRoute xs s p = none := by
    intro hb
    have hin : ∀ n, inP (prefsAt xs n) p = false := fun n => by
      rw [Bool.eq_false_iff]; intro e
      exact hb ((prefs_fine (prefsAt_chk xs n)).2.1 p ((inP_iff _ _).1 e))
    have hc : ∀ n, refCost xs s p n = -1 := by
      intro n
      induction n with
      | zero => rfl
      | succ n ih =>
        show (if _ then _ else _) = _
        rw [if_neg, ih]
        rintro ⟨h, _⟩
        unfold okN at h
        rw [hin n] at h; simp at h
    unfold refRoute
    rw [hin s, hc 12]; rfl
  by_cases hb : prefBad p = 0
  · have hb2 := hb
    unfold prefBad at hb2
    split at hb2
    · rename_i hr
      split at hb2
      · rename_i hm
        rw [if_pos (by omega), if_neg (by simpa using hm)]
      · cases hb2
    · cases hb2
  · rw [hno hb]
    split
    · split <;> rfl
    · rfl
end Go.Proofs.YtcbkimbeljhbhaaGreatDoor
