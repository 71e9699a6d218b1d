/-
  
-/
import Derived.Test.YtbhbilenbbldnaaGreatDoorGRibQ
import Derived.Test.YtbhbilenbbldnaaGreatDoorGWaF
import Derived.Lib.SlicesCompact
import Derived.Test.YtbhbilenbbldnaaGreatDoorGRibC
set_option linter.unusedVariables false
set_option linter.unusedSimpArgs false
set_option maxHeartbeats 16000000
namespace Go.Proofs.YtbhbilenbbldnaaGreatDoor
section
open Go
instance : DecidableEq Prefix := fun a b => decidable_of_iff _ (sameP_iff a b)
def nodes12 : List Int := (List.range 12).map fun (k : Nat) => (k : Int)
def joinS (a b : List Int) : List Int := nodes12.filter fun k => a.contains k || b.contains k
def updR (x r : Route) : Route := if (r.here || (!x.here && decide (r.cost < x.cost))) = true then r else if (!x.here && r.cost == x.cost) = true then { x with hops := joinS x.hops r.hops } else x
def addR : List Route -> Route -> List Route
 | [], r => [r]
 | x :: l, r => if prefOrd x.pre r.pre = true then x :: addR l r else if sameP x.pre r.pre = true then updR x r :: l else r :: x :: l
def SortedR (l : List Route) : Prop := l.Pairwise fun a b => prefOrd a.pre b.pre = true
def atP (l : List Route) (p : Prefix) : Option Route := l.find? fun x => sameP x.pre p
def mergeO : Option Route -> Route -> Route
 | none, r => r
 | some x, r => updR x r
theorem sameP_comm (a b : Prefix) : sameP a b = sameP b a := by
 rw [Bool.eq_iff_iff, sameP_iff, sameP_iff]; exact ⟨Eq.symm, Eq.symm⟩
theorem sameP_ne {a b : Prefix} (h : a ≠ b) : sameP a b = false := by
 rw [Bool.eq_false_iff]; exact fun e => h ((sameP_iff a b).1 e)
theorem ord_irr (p : Prefix) : prefOrd p p = false := by
 rw [Bool.eq_false_iff]; intro h; rw [prefOrd_iff] at h; omega
theorem ord_total {p q : Prefix} (h : prefOrd p q = false) (h2 : sameP p q = false) : prefOrd q p = true := by
 rw [prefOrd_iff]
 have h1 : ¬ (p.addr < q.addr ∨ (p.addr = q.addr /\ p.bits < q.bits)) := fun e => by rw [(prefOrd_iff p q).2 e] at h; cases h
 have h3 : ¬ (p.addr = q.addr /\ p.bits = q.bits) := fun e => by
  rw [Bool.eq_false_iff] at h2
  exact h2 (by unfold sameP; simp [e.1, e.2])
 omega
theorem ord_neq {p q : Prefix} (h : prefOrd p q = true) : p ≠ q := fun e => by rw [e, ord_irr] at h; cases h
theorem updR_pre {x r : Route} (h : x.pre = r.pre) : (updR x r).pre = r.pre := by
 unfold updR; split
 · rfl
 · split
   · exact h
   · exact h
theorem mem_addR {l : List Route} {r y : Route} (h : y ∈ addR l r) : y.pre = r.pre ∨ y ∈ l := by
 induction l with
 | nil => simp [addR] at h; exact .inl (by rw [h])
 | cons x l ih =>
   unfold addR at h
   split at h
   · rcases zaA.1 h with e | e
     · exact .inr (by simp [e])
     · rcases ih e with e | e
       · exact .inl e
       · exact .inr (by simp [e])
   · split at h
     · rename_i _ hs
       rcases zaA.1 h with e | e
       · exact .inl (by rw [e, updR_pre ((sameP_iff _ _).1 hs)])
       · exact .inr (by simp [e])
     · rcases zaA.1 h with e | e
       · exact .inl (by rw [e])
       · exact .inr e
theorem sorted_add {l : List Route} (h : SortedR l) (r : Route) : SortedR (addR l r) := by
 induction l with
 | nil => simp [addR, SortedR]
 | cons x l ih =>
   obtain ⟨h1, h2⟩ := zaC.1 h
   unfold addR
   split
   · rename_i hx
     refine zaC.2 ⟨fun y hy => ?_, ih h2⟩
     rcases mem_addR hy with e | e
     · rw [e]; exact hx
     · exact h1 y e
   · rename_i hx
     split
     · rename_i hs
       have e := (sameP_iff _ _).1 hs
       refine zaC.2 ⟨fun y hy => ?_, h2⟩
       rw [updR_pre e, <- e]; exact h1 y hy
     · rename_i hs
       have hrx := ord_total (by simpa using hx) (by simpa using hs)
       refine zaC.2 ⟨fun y hy => ?_, h⟩
       rcases zaA.1 hy with e | e
       · rw [e]; exact hrx
       · exact ord_trans hrx (h1 y e)
theorem atP_none_of {l : List Route} {p : Prefix} (h : ∀ y ∈ l, y.pre ≠ p) : atP l p = none := by
 unfold atP
 rw [zbT]
 intro x hx e
 exact h x hx ((sameP_iff _ _).1 e)
theorem atP_cons (x : Route) (l : List Route) (p : Prefix) : atP (x :: l) p = if x.pre = p then some x else atP l p := by
 unfold atP
 rw [List.find?_cons]
 by_cases e : x.pre = p
 · rw [if_pos e, (sameP_iff _ _).2 e]
 · rw [if_neg e, sameP_ne e]
theorem find_add {l : List Route} (h : SortedR l) (r : Route) (p : Prefix) : atP (addR l r) p = if r.pre = p then some (mergeO (atP l p) r) else atP l p := by
 induction l with
 | nil => unfold addR; rw [atP_cons]; rfl
 | cons x l ih =>
   obtain ⟨h1, h2⟩ := zaC.1 h
   unfold addR
   split
   · rename_i hx
     rw [atP_cons, atP_cons, ih h2]
     by_cases e : x.pre = p
     · rw [if_pos e, if_pos e, if_neg (fun e2 => ord_neq hx (e.trans e2.symm))]
     · rw [if_neg e, if_neg e]
   · rename_i hx
     split
     · rename_i hs
       have e := (sameP_iff _ _).1 hs
       rw [atP_cons, atP_cons, updR_pre e, e]
       by_cases e2 : r.pre = p
       · rw [if_pos e2, if_pos e2, if_pos e2]; rfl
       · rw [if_neg e2, if_neg e2, if_neg e2]
     · rename_i hs
       have hrx := ord_total (by simpa using hx) (by simpa using hs)
       rw [atP_cons r]
       by_cases e2 : r.pre = p
       · rw [if_pos e2, if_pos e2, atP_none_of]
         · rfl
         · intro y hy e
           rcases zaA.1 hy with e3 | e3
           · rw [e3, <- e2] at e; exact ord_neq hrx e.symm
           · rw [<- e2] at e; exact ord_neq (ord_trans hrx (h1 y e3)) e.symm
       · rw [if_neg e2, if_neg e2]
theorem atP_mem {l : List Route} {p : Prefix} {r : Route} (h : atP l p = some r) : r ∈ l /\ r.pre = p := by
 unfold atP at h
 have h2 := List.find?_some h
 exact ⟨zcj h, (sameP_iff _ _).1 h2⟩
theorem mem_atP {l : List Route} (h : SortedR l) {r : Route} (hr : r ∈ l) : atP l r.pre = some r := by
 induction l with
 | nil => cases hr
 | cons x l ih =>
   obtain ⟨h1, h2⟩ := zaC.1 h
   rw [atP_cons]
   rcases zaA.1 hr with e | e
   · rw [e, if_pos rfl]
   · rw [if_neg (ord_neq (h1 r e)), ih h2 e]
theorem sorted_ext : ∀ {l m : List Route}, SortedR l -> SortedR m -> (∀ p, atP l p = atP m p) -> l = m
 | [], [], _, _, _ => rfl
 | [], y :: m, _, hm, h => by
   have := h y.pre
   rw [mem_atP hm (by simp)] at this; cases this
 | x :: l, [], hl, _, h => by
   have := h x.pre
   rw [mem_atP hl (by simp)] at this; cases this
 | x :: l, y :: m, hl, hm, h => by
   obtain ⟨h1, h2⟩ := zaC.1 hl
   obtain ⟨g1, g2⟩ := zaC.1 hm
   have hx : atP (y :: m) x.pre = some x := by rw [<- h]; exact mem_atP hl (by simp)
   have hy : atP (x :: l) y.pre = some y := by rw [h]; exact mem_atP hm (by simp)
   have hxy : x = y := by
    rcases zaA.1 (atP_mem hx).1 with e | e
    · exact e
    · rcases zaA.1 (atP_mem hy).1 with e2 | e2
      · exact e2.symm
      · have := ord_trans (g1 x e) (h1 y e2)
        rw [ord_irr] at this; cases this
   subst hxy
   have : l = m := sorted_ext h2 g2 (fun p => by
    have hp := h p
    rw [atP_cons, atP_cons] at hp
    by_cases e : x.pre = p
    · rw [atP_none_of, atP_none_of]
      · intro z hz e2; exact ord_neq (g1 z hz) (e.trans e2.symm)
      · intro z hz e2; exact ord_neq (h1 z hz) (e.trans e2.symm)
    · rw [if_neg e, if_neg e] at hp; exact hp)
   rw [this]
def keyP (n : Nat) : ByteArray := bOf ([112, 58] ++ Lib.decDigits n)
def prefsAt (xs : List Entry) (n : Nat) : List Prefix := match findE xs (keyP n) with | some e => (readPrefs e.value.data.toList).1 | none => []
def inP (l : List Prefix) (p : Prefix) : Bool := l.any fun q => sameP q p
theorem inP_iff (l : List Prefix) (p : Prefix) : inP l p = true ↔ p ∈ l := by
 unfold inP
 rw [zbp]
 constructor
 · rintro ⟨q, h1, h2⟩; rw [<- (sameP_iff _ _).1 h2]; exact h1
 · intro h; exact ⟨p, h, sameP_refl p⟩
def routeOfN (xs : List Entry) (s n : Nat) (p : Prefix) : Option Route :=
 if n = s then some ⟨p, true, 0, []⟩ else if 0 <= (wayTo xs s n).cost then some ⟨p, false, (wayTo xs s n).cost, (wayTo xs s n).hops⟩ else none
def addN (xs : List Entry) (s n : Nat) (l : List Route) (p : Prefix) : List Route := match routeOfN xs s n p with | none => l | some r => addR l r
def rowN (xs : List Entry) (s n : Nat) (l : List Route) (ps : List Prefix) : List Route := ps.foldl (addN xs s n) l
def tabTo (xs : List Entry) (s : Nat) : Nat -> List Route
 | 0 => []
 | n + 1 => rowN xs s n (tabTo xs s n) (prefsAt xs n)
def accP (xs : List Entry) (s : Nat) (p : Prefix) : Nat -> Option Route
 | 0 => none
 | n + 1 => if inP (prefsAt xs n) p = true then (match routeOfN xs s n p with | none => accP xs s p n | some r => some (mergeO (accP xs s p n) r)) else accP xs s p n
theorem routeOfN_pre {xs : List Entry} {s n : Nat} {p : Prefix} {r : Route} (h : routeOfN xs s n p = some r) : r.pre = p := by
 unfold routeOfN at h
 split at h
 · injection h with h; rw [<- h]
 · split at h
   · injection h with h; rw [<- h]
   · cases h
theorem sorted_addN {xs : List Entry} {s n : Nat} {l : List Route} (h : SortedR l) (p : Prefix) : SortedR (addN xs s n l p) := by
 unfold addN; split
 · exact h
 · exact sorted_add h _
theorem find_addN {xs : List Entry} {s n : Nat} {l : List Route} (h : SortedR l) (q p : Prefix) :
  atP (addN xs s n l q) p = if q = p then (match routeOfN xs s n p with | none => atP l p | some r => some (mergeO (atP l p) r)) else atP l p := by
 unfold addN
 by_cases e : q = p
 · subst e
   rw [if_pos rfl]
   cases hr : routeOfN xs s n q with
   | none => rfl
   | some r => show atP (addR l r) q = _; rw [find_add h, if_pos (routeOfN_pre hr)]
 · rw [if_neg e]
   cases hr : routeOfN xs s n q with
   | none => rfl
   | some r => show atP (addR l r) p = _; rw [find_add h, if_neg (by rw [routeOfN_pre hr]; exact e)]
theorem row_find {xs : List Entry} {s n : Nat} : ∀ (ps : List Prefix) (l : List Route), SortedR l -> ps.Pairwise (fun a b => prefOrd a b = true) ->
  SortedR (rowN xs s n l ps) /\ ∀ p, atP (rowN xs s n l ps) p = if inP ps p = true then (match routeOfN xs s n p with | none => atP l p | some r => some (mergeO (atP l p) r)) else atP l p
 | [], l, hl, _ => ⟨hl, fun p => by rw [if_neg (by simp [inP])]; rfl⟩
 | q :: ps, l, hl, hp => by
   obtain ⟨h1, h2⟩ := zaC.1 hp
   obtain ⟨g1, g2⟩ := row_find ps (addN xs s n l q) (sorted_addN hl q) h2
   refine ⟨g1, fun p => ?_⟩
   show atP (rowN xs s n (addN xs s n l q) ps) p = _
   rw [g2 p]
   by_cases e : q = p
   · subst e
     have hno : ¬ inP ps q = true := fun hc => by
      rw [inP_iff] at hc; exact ord_neq (h1 q hc) rfl
     rw [if_neg hno, find_addN hl, if_pos rfl, if_pos (by rw [inP_iff]; simp)]
   · have hin : inP (q :: ps) p = inP ps p := by
      rw [Bool.eq_iff_iff, inP_iff, inP_iff, zaA]
      exact ⟨fun h => h.resolve_left (fun x => e x.symm), .inr⟩
     rw [hin, find_addN hl, if_neg e]
theorem tab_find {xs : List Entry} {s : Nat} (hp : ∀ n, (prefsAt xs n).Pairwise (fun a b => prefOrd a b = true)) : ∀ n, SortedR (tabTo xs s n) /\ ∀ p, atP (tabTo xs s n) p = accP xs s p n
 | 0 => ⟨List.Pairwise.nil, fun _ => rfl⟩
 | n + 1 => by
   obtain ⟨h1, h2⟩ := tab_find hp n
   obtain ⟨g1, g2⟩ := row_find (xs := xs) (s := s) (n := n) _ _ h1 (hp n)
   refine ⟨g1, fun p => ?_⟩
   show atP (rowN xs s n (tabTo xs s n) (prefsAt xs n)) p = _
   rw [g2 p, h2 p]; rfl
def okN (xs : List Entry) (s : Nat) (p : Prefix) (n : Nat) : Bool := decide (n ≠ s) && decide (0 <= (wayTo xs s n).cost) && inP (prefsAt xs n) p
def refCost (xs : List Entry) (s : Nat) (p : Prefix) : Nat -> Int
 | 0 => -1
 | n + 1 => if okN xs s p n = true /\ (refCost xs s p n < 0 ∨ (wayTo xs s n).cost < refCost xs s p n) then (wayTo xs s n).cost else refCost xs s p n
def atN (xs : List Entry) (s : Nat) (p : Prefix) (c : Int) (h : Int) (n : Nat) : Bool := decide (n ≠ s) && decide ((wayTo xs s n).cost = c) && inP (prefsAt xs n) p && (wayTo xs s n).hops.contains h
def refHas (xs : List Entry) (s : Nat) (p : Prefix) (c : Int) (h : Int) : Nat -> Bool
 | 0 => false
 | n + 1 => refHas xs s p c h n || atN xs s p c h n
def refHops (xs : List Entry) (s : Nat) (p : Prefix) (c : Int) : Nat -> List Int
 | 0 => []
 | h + 1 => if refHas xs s p c (h : Int) 12 = true then refHops xs s p c h ++ [(h : Int)] else refHops xs s p c h
def refRoute (xs : List Entry) (s : Nat) (p : Prefix) : Option Route :=
 if inP (prefsAt xs s) p = true then some ⟨p, true, 0, []⟩ else if refCost xs s p 12 < 0 then none else some ⟨p, false, refCost xs s p 12, refHops xs s p (refCost xs s p 12) 12⟩
theorem refCost_ok {xs : List Entry} {s : Nat} {p : Prefix} : ∀ n, -1 <= refCost xs s p n /\ ∀ m, m < n -> okN xs s p m = true -> 0 <= refCost xs s p n /\ refCost xs s p n <= (wayTo xs s m).cost
 | 0 => ⟨by unfold refCost; omega, fun m hm => by omega⟩
 | n + 1 => by
   obtain ⟨h1, h2⟩ := refCost_ok (xs := xs) (s := s) (p := p) n
   unfold refCost
   have hok : okN xs s p n = true -> 0 <= (wayTo xs s n).cost := fun h => by unfold okN at h; simp at h; exact h.1.2
   split
   · rename_i hc
     have h3 := hok hc.1
     refine ⟨by omega, fun m hm hk => ?_⟩
     by_cases e : m = n
     · subst e; omega
     · have := h2 m (by omega) hk; omega
   · rename_i hc
     refine ⟨h1, fun m hm hk => ?_⟩
     by_cases e : m = n
     · subst e
       have h3 := hok hk
       have : ¬ (refCost xs s p m < 0 ∨ (wayTo xs s m).cost < refCost xs s p m) := fun x => hc ⟨hk, x⟩
       omega
     · exact h2 m (by omega) hk
theorem refHas_no {xs : List Entry} {s : Nat} {p : Prefix} {c h : Int} (hc : 0 <= c) : ∀ n, (∀ m, m < n -> okN xs s p m = true -> (wayTo xs s m).cost ≠ c) -> refHas xs s p c h n = false
 | 0, _ => rfl
 | n + 1, hm => by
   unfold refHas
   rw [refHas_no hc n (fun m hm1 => hm m (by omega)), Bool.false_or]
   rw [Bool.eq_false_iff]
   intro e
   unfold atN at e
   simp only [Bool.and_eq_true, decide_eq_true_eq] at e
   obtain ⟨⟨⟨e1, e2⟩, e3⟩, _⟩ := e
   exact hm n (by omega) (by unfold okN; simp [e1, e3]; omega) e2
theorem atN_ok {xs : List Entry} {s n : Nat} {p : Prefix} {h : Int} (hk : okN xs s p n = true) : atN xs s p (wayTo xs s n).cost h n = (wayTo xs s n).hops.contains h := by
 unfold okN at hk
 simp only [Bool.and_eq_true, decide_eq_true_eq] at hk
 unfold atN
 simp [hk.1.1, hk.2]
theorem atN_no {xs : List Entry} {s n : Nat} {p : Prefix} {c h : Int} (hc : 0 <= c) (hk : okN xs s p n = false ∨ (wayTo xs s n).cost ≠ c) : atN xs s p c h n = false := by
 rw [Bool.eq_false_iff]
 intro e
 unfold atN at e
 simp only [Bool.and_eq_true, decide_eq_true_eq] at e
 obtain ⟨⟨⟨e1, e2⟩, e3⟩, _⟩ := e
 rcases hk with hk | hk
 · rw [Bool.eq_false_iff] at hk; exact hk (by unfold okN; simp [e1, e3]; omega)
 · exact hk e2
def Canon (l : List Int) : Prop := nodes12.filter (fun k => l.contains k) = l
theorem canon_filter (P : Int -> Bool) : Canon (nodes12.filter P) := by
 unfold Canon
 refine zch (fun k hk => ?_)
 rw [Bool.eq_iff_iff, zbU, zaV]
 exact ⟨fun h => h.2, fun h => ⟨hk, h⟩⟩
theorem hopsTo_filter (xs : List Entry) (s q : Nat) (c : Int) : ∀ k, hopsTo xs s q c k = ((List.range k).map fun (i : Nat) => (i : Int)).filter fun i => decide (gI (best xs s i 12) q = c)
 | 0 => rfl
 | k + 1 => by
   unfold hopsTo
   rw [zbW, zbd, zbx, <- hopsTo_filter xs s q c k]
   by_cases e : gI (best xs s (k : Int) 12) q = c
   · rw [if_pos e]; simp [e]
   · rw [if_neg e]; simp [e]
theorem canon_way (xs : List Entry) (s n : Nat) : Canon (wayTo xs s n).hops := by
 unfold wayTo
 split
 · show Canon ([] : List Int)
   unfold Canon; simp
 · show Canon (hopsFor xs s n (costTo xs s n) 12)
   unfold hopsFor
   split
   · unfold Canon; simp
   · rw [hopsTo_filter]; exact canon_filter _
theorem acc_none {xs : List Entry} {s : Nat} {p : Prefix} (hs : inP (prefsAt xs s) p = false) : ∀ n,
  accP xs s p n = if refCost xs s p n < 0 then none else some ⟨p, false, refCost xs s p n, nodes12.filter fun h => refHas xs s p (refCost xs s p n) h n⟩
 | 0 => rfl
 | n + 1 => by
   have ih := acc_none hs n
   obtain ⟨hb, hle⟩ := refCost_ok (xs := xs) (s := s) (p := p) n
   by_cases hk : okN xs s p n = true
   · have hk2 := hk
     unfold okN at hk2
     simp only [Bool.and_eq_true, decide_eq_true_eq] at hk2
     obtain ⟨⟨k1, k2⟩, k3⟩ := hk2
     have hr : routeOfN xs s n p = some ⟨p, false, (wayTo xs s n).cost, (wayTo xs s n).hops⟩ := by
      unfold routeOfN; rw [if_neg k1, if_pos k2]
     have ha : accP xs s p (n + 1) = some (mergeO (accP xs s p n) ⟨p, false, (wayTo xs s n).cost, (wayTo xs s n).hops⟩) := by
      show (if _ then _ else _) = _
      rw [if_pos k3, hr]
     rw [ha, ih]
     by_cases hc : refCost xs s p n < 0
     · have hc2 : refCost xs s p (n + 1) = (wayTo xs s n).cost := by
        show (if _ then _ else _) = _
        rw [if_pos ⟨hk, .inl hc⟩]
       rw [if_pos hc, hc2, if_neg (by omega)]
       show some (⟨p, false, (wayTo xs s n).cost, (wayTo xs s n).hops⟩ : Route) = _
       have hf : (nodes12.filter fun h => refHas xs s p (wayTo xs s n).cost h (n + 1)) = (wayTo xs s n).hops := by
        refine Eq.trans (zch fun h _ => ?_) (canon_way xs s n)
        show (refHas xs s p (wayTo xs s n).cost h n || atN xs s p (wayTo xs s n).cost h n) = _
        rw [refHas_no k2 n (fun m hm hkm => by have := hle m hm hkm; omega), Bool.false_or, atN_ok hk]
       rw [hf]
     · rw [if_neg hc]
       by_cases hlt : (wayTo xs s n).cost < refCost xs s p n
       · have hc2 : refCost xs s p (n + 1) = (wayTo xs s n).cost := by
          show (if _ then _ else _) = _
          rw [if_pos ⟨hk, .inr hlt⟩]
         rw [hc2, if_neg (by omega)]
         have hf : (nodes12.filter fun h => refHas xs s p (wayTo xs s n).cost h (n + 1)) = (wayTo xs s n).hops := by
          refine Eq.trans (zch fun h _ => ?_) (canon_way xs s n)
          show (refHas xs s p (wayTo xs s n).cost h n || atN xs s p (wayTo xs s n).cost h n) = _
          rw [refHas_no k2 n (fun m hm hkm => by have := hle m hm hkm; omega), Bool.false_or, atN_ok hk]
         rw [hf]
         show some (updR _ _) = _
         unfold updR
         rw [if_pos (by simp [hlt])]
       · have hc2 : refCost xs s p (n + 1) = refCost xs s p n := by
          show (if _ then _ else _) = _
          rw [if_neg]; rintro ⟨_, h | h⟩ <;> contradiction
         rw [hc2, if_neg hc]
         show some (updR _ _) = _
         unfold updR
         rw [if_neg (by simp; omega)]
         by_cases he : (wayTo xs s n).cost = refCost xs s p n
         · rw [if_pos (by simp [he])]
           have hf : joinS (nodes12.filter fun h => refHas xs s p (refCost xs s p n) h n) (wayTo xs s n).hops = nodes12.filter fun h => refHas xs s p (refCost xs s p n) h (n + 1) := by
            unfold joinS
            refine zch fun h hh => ?_
            show _ = (refHas xs s p (refCost xs s p n) h n || atN xs s p (refCost xs s p n) h n)
            rw [<- he, atN_ok hk]
            congr 1
            rw [Bool.eq_iff_iff, zbU, zaV]
            exact ⟨fun x => x.2, fun x => ⟨hh, x⟩⟩
           rw [hf]
         · rw [if_neg (by simp [he])]
           have hf : (nodes12.filter fun h => refHas xs s p (refCost xs s p n) h (n + 1)) = nodes12.filter fun h => refHas xs s p (refCost xs s p n) h n := by
            refine zch fun h _ => ?_
            show (refHas xs s p (refCost xs s p n) h n || atN xs s p (refCost xs s p n) h n) = _
            rw [atN_no (by omega) (.inr he), Bool.or_false]
           rw [hf]
   · have hk' : okN xs s p n = false := by simpa using hk
     have hc2 : refCost xs s p (n + 1) = refCost xs s p n := by
      show (if _ then _ else _) = _
      rw [if_neg (fun h => hk h.1)]
     have ha : accP xs s p (n + 1) = accP xs s p n := by
      show (if _ then _ else _) = _
      split
      · rename_i hin
        have : routeOfN xs s n p = none := by
         unfold routeOfN
         by_cases e : n = s
         · subst e; rw [hs] at hin; cases hin
         · rw [if_neg e, if_neg]
           intro h
           exact hk (by unfold okN; simp [e, h, hin])
        rw [this]
      · rfl
     rw [ha, ih, hc2]
     split
     · rfl
     · rename_i hc
       have hf : (nodes12.filter fun h => refHas xs s p (refCost xs s p n) h (n + 1)) = nodes12.filter fun h => refHas xs s p (refCost xs s p n) h n := by
        refine zch fun h _ => ?_
        show (refHas xs s p (refCost xs s p n) h n || atN xs s p (refCost xs s p n) h n) = _
        rw [atN_no (by omega) (.inl hk'), Bool.or_false]
       rw [hf]
theorem acc_here {xs : List Entry} {s : Nat} {p : Prefix} (hs : inP (prefsAt xs s) p = true) : ∀ n, s < n -> accP xs s p n = some ⟨p, true, 0, []⟩
 | 0, h => by omega
 | n + 1, h => by
   show (if _ then _ else _) = _
   by_cases e : n = s
   · subst e
     rw [if_pos hs]
     have : routeOfN xs n n p = some ⟨p, true, 0, []⟩ := by unfold routeOfN; rw [if_pos rfl]
     rw [this]
     show some (mergeO _ _) = _
     congr 1
     cases accP xs n p n with
     | none => rfl
     | some x => show updR _ _ = _; unfold updR; rw [if_pos (by simp)]
   · have ih := acc_here hs n (by omega)
     rw [ih]
     split
     · by_cases hw : 0 <= (wayTo xs s n).cost
       · have : routeOfN xs s n p = some ⟨p, false, (wayTo xs s n).cost, (wayTo xs s n).hops⟩ := by unfold routeOfN; rw [if_neg e, if_pos hw]
         rw [this]; rfl
       · have : routeOfN xs s n p = none := by unfold routeOfN; rw [if_neg e, if_neg hw]
         rw [this]
     · rfl
theorem refHops_filter {xs : List Entry} {s : Nat} {p : Prefix} {c : Int} : ∀ k, refHops xs s p c k = ((List.range k).map fun (i : Nat) => (i : Int)).filter fun h => refHas xs s p c h 12
 | 0 => rfl
 | k + 1 => by
   unfold refHops
   rw [zbW, zbd, zbx, <- refHops_filter k]
   cases e : refHas xs s p c (k : Int) 12 <;> simp [e]
theorem acc_ref {xs : List Entry} {s : Nat} (hs : s < 12) (p : Prefix) : accP xs s p 12 = refRoute xs s p := by
 unfold refRoute
 by_cases h : inP (prefsAt xs s) p = true
 · rw [if_pos h, acc_here h 12 hs]
 · rw [if_neg h, acc_none (by simpa using h) 12, refHops_filter]; rfl
theorem prefs_chk (s : List UInt8) : chkPrefs (readPrefs s).1 = 0 := by
 unfold readPrefs
 cases pairsD 47 (partsC s) with
 | none => rfl
 | some l =>
   show chkPrefs (if chkPrefs (l.map prefOf) = 0 then _ else _ : List Prefix × Int).1 = 0
   split
   · assumption
   · rfl
theorem prefsAt_chk (xs : List Entry) (n : Nat) : chkPrefs (prefsAt xs n) = 0 := by
 unfold prefsAt
 split
 · exact prefs_chk _
 · rfl
theorem prefs_fine {l : List Prefix} (h : chkPrefs l = 0) : l.length <= 6 /\ (∀ p ∈ l, prefBad p = 0) /\ l.Pairwise (fun a b => prefOrd a b = true) := by
 unfold chkPrefs at h
 split at h
 · cases h
 · rename_i h6
   have hs := seq_ok l _ 0 (by omega) h
   have adj : ∀ m, (hm : m + 1 < l.length) -> prefOrd l[m] l[m + 1] = true := fun m hm => (hs (m + 1) (by omega) hm).2 m rfl (hs (m + 1) (by omega) hm).1 (by omega)
   refine ⟨by omega, fun p hp => ?_, ?_⟩
   · obtain ⟨i, hi, rfl⟩ := zal hp
     exact (hs i (by omega) hi).1
   · rw [zaG]
     have key : ∀ d i, (h : i + d + 1 < l.length) -> prefOrd l[i] l[i + d + 1] = true := by
      intro d
      induction d with
      | zero => intro i h; exact adj i h
      | succ d ih => intro i h; exact ord_trans (ih i (by omega)) (adj (i + d + 1) h)
     intro i j hi hj hij
     have := key (j - i - 1) i (by omega)
     have he : i + (j - i - 1) + 1 = j := by omega
     simp only [he] at this
     exact this
theorem compact_mem {zs : List Int} {x : Int} : x ∈ Lib.compact zs ↔ x ∈ zs := by
 unfold Lib.compact Lib.compactUpTo
 rw [zaX]
 constructor
 · rintro ⟨j, hj, rfl⟩
   have hl := zbf.1 (zaV.1 hj).1
   rw [getElem!_pos _ j (by simpa using hl)]
   exact zap _
 · intro hx
   have key : ∀ n j, j < n -> (hj : j < zs.length) -> zs[j] = x -> ∃ i, ∃ hi : i < zs.length, zs[i] = x /\ Lib.keeps zs.toArray i = true := by
    intro n
    induction n with
    | zero => intro j h; omega
    | succ n ih =>
      intro j hjn hj he
      by_cases hk : Lib.keeps zs.toArray j = true
      · exact ⟨j, hj, he, hk⟩
      · have h0 : j ≠ 0 := fun e => hk (by subst e; exact Lib.keeps_lt_one _ 0 (by omega))
        have h1 : zs.toArray[j]! = zs.toArray[j - 1]! := Classical.byContradiction fun hne => hk (Lib.keeps_pos hne)
        rw [getElem!_pos _ j (by simpa using hj), getElem!_pos _ (j - 1) (by simp; omega)] at h1
        exact ih (j - 1) (by omega) (by omega) (by rw [<- he]; exact h1.symm)
   obtain ⟨j, hj, he⟩ := zal hx
   obtain ⟨i, hi, h1, h2⟩ := key (j + 1) j (by omega) hj he
   refine ⟨i, zaV.2 ⟨zbf.2 hi, h2⟩, ?_⟩
   rw [getElem!_pos _ i (by simpa using hi)]; exact h1
theorem compact_lt {zs : List Int} (hs : zs.Pairwise (· <= ·)) : (Lib.compact zs).Pairwise (· < ·) := by
 unfold Lib.compact Lib.compactUpTo
 rw [List.pairwise_map]
 have hr : (List.range zs.length).Pairwise (· < ·) := List.pairwise_lt_range
 have hp := List.Pairwise.filter (Lib.keeps zs.toArray) hr
 refine List.Pairwise.imp_of_mem ?_ hp
 intro i j hi hj hij
 have hjl := zbf.1 (zaV.1 hj).1
 have hk := (zaV.1 hj).2
 rw [getElem!_pos _ i (by simp; omega), getElem!_pos _ j (by simpa using hjl)]
 have hne : zs[j] ≠ zs[j - 1]'(by omega) := by
  intro e
  have hf := Lib.keeps_neg (d := zs.toArray) (m := j) (by omega) (by rw [getElem!_pos _ j (by simpa using hjl), getElem!_pos _ (j - 1) (by simp; omega)]; exact e)
  rw [hf] at hk; cases hk
 have h1 : zs[j - 1]'(by omega) <= zs[j] := zaG.1 hs (j - 1) j (by omega) hjl (by omega)
 have h2 : zs[i]'(by omega) <= zs[j - 1]'(by omega) := by
  by_cases e : i = j - 1
  · subst e; exact zbF _
  · exact zaG.1 hs i (j - 1) (by omega) (by omega) (by omega)
 show zs[i]'(by omega) < zs[j]
 omega
theorem strict_ext : ∀ {l m : List Int}, l.Pairwise (· < ·) -> m.Pairwise (· < ·) -> (∀ x, x ∈ l ↔ x ∈ m) -> l = m
 | [], [], _, _, _ => rfl
 | [], y :: m, _, _, h => by have := (h y).2 (by simp); cases this
 | x :: l, [], _, _, h => by have := (h x).1 (by simp); cases this
 | x :: l, y :: m, hl, hm, h => by
   obtain ⟨h1, h2⟩ := zaC.1 hl
   obtain ⟨g1, g2⟩ := zaC.1 hm
   have hxy : x = y := by
    rcases zaA.1 ((h x).1 (by simp)) with e | e
    · exact e
    · rcases zaA.1 ((h y).2 (by simp)) with e2 | e2
      · exact e2.symm
      · have := g1 x e; have := h1 y e2; omega
   subst hxy
   have : l = m := strict_ext h2 g2 (fun z => by
    have hz := h z
    rw [zaA, zaA] at hz
    constructor
    · intro hl
      rcases hz.1 (.inr hl) with e | e
      · have := h1 z hl; omega
      · exact e
    · intro hm
      rcases hz.2 (.inr hm) with e | e
      · have := g1 z hm; omega
      · exact e)
   rw [this]
theorem nodes12_lt : nodes12.Pairwise (· < ·) := by decide
theorem nodes12_mem {k : Int} : k ∈ nodes12 ↔ 0 <= k /\ k <= 11 := by
 unfold nodes12
 rw [zaX]
 constructor
 · rintro ⟨n, hn, rfl⟩
   have := zbf.1 hn; omega
 · intro h
   exact ⟨k.toNat, zbf.2 (by omega), by omega⟩
theorem join_sort {a b : List Int} (ha : ∀ x ∈ a, 0 <= x /\ x <= 11) (hb : ∀ x ∈ b, 0 <= x /\ x <= 11) :
  Lib.compact ((a ++ b).mergeSort fun x y => decide (x <= y)) = joinS a b := by
 have hs : ((a ++ b).mergeSort fun x y => decide (x <= y)).Pairwise (· <= ·) := by
  have := List.pairwise_mergeSort (le := fun (x y : Int) => decide (x <= y)) (fun x y z h1 h2 => by simp at *; omega) (fun x y => by simp; omega) (a ++ b)
  exact this.imp (fun h => by simpa using h)
 refine strict_ext (compact_lt hs) (nodes12_lt.filter _) (fun x => ?_)
 unfold joinS
 rw [compact_mem, List.mem_mergeSort, zaB, zaV, nodes12_mem]
 simp only [Bool.or_eq_true, zbU]
 constructor
 · rintro (h | h)
   · exact ⟨ha x h, .inl h⟩
   · exact ⟨hb x h, .inr h⟩
 · rintro ⟨_, h | h⟩
   · exact .inl h
   · exact .inr h
theorem canon_in {l : List Int} (h : Canon l) : ∀ x ∈ l, 0 <= x /\ x <= 11 := by
 intro x hx
 rw [<- h] at hx
 exact nodes12_mem.1 (zaV.1 hx).1
theorem canon_join (a b : List Int) : Canon (joinS a b) := canon_filter _
theorem key_iffP (e : Entry) {n : Nat} (hn : n < 12) : (kindE e = [112] /\ nodeE e = n) ↔ e.key = keyP n := by
 unfold kindE nodeE
 constructor
 · rintro ⟨h1, h2⟩
   obtain ⟨m, h3, _, h5⟩ := num_inv (s := (cutB 58 e.key.data.toList).2.1) (most := 11) (by omega)
   have hm : m = n := by omega
   subst hm
   rcases cutB_form 58 e.key.data.toList with h | h
   · unfold keyP
     rw [h1, h3] at h
     rw [<- bOf_data e.key, h]; rfl
   · rw [h] at h3
     exact absurd h3.symm (dec_ne m)
 · intro h
   have hc : cutB 58 e.key.data.toList = ([112], Lib.decDigits n, true) := by
    rw [h]; unfold keyP; rw [bOf_list]
    exact cutB_at (a := [112]) (Lib.decDigits n) (by decide)
   rw [hc]
   exact ⟨rfl, num_dec n 11 (by omega) (by omega)⟩
theorem prefsAt_take {xs : List Entry} (h : OkS xs) {k : Nat} (hk : k < xs.length) (n : Nat) : prefsAt (xs.take (k + 1)) n = if xs[k].key = keyP n then (readPrefs xs[k].value.data.toList).1 else prefsAt (xs.take k) n := by
 unfold prefsAt
 rw [find_takeE h.ord hk]
 by_cases e : xs[k].key = keyP n
 · rw [if_pos e, if_pos e]
 · rw [if_neg e, if_neg e]
theorem prf_take {xs : List Entry} (h : OkS xs) : ∀ k, k <= xs.length -> ∀ a, a < 12 -> (gphTo xs k).P a = prefsAt (xs.take k) a
 | 0, _, a, _ => rfl
 | k + 1, hk, a, ha => by
   have hk' : k < xs.length := hk
   have ih := prf_take h k (by omega) a ha
   rw [gphTo_succ hk', prefsAt_take h hk']
   have hno : stepE (gphTo xs k) xs[k] = gphTo xs k ∨ True := .inr trivial
   rcases nodeE_cases xs[k] with hn | ⟨n, hn, hn12⟩
   · rw [if_neg (fun e => by have := ((key_iffP xs[k] ha).2 e).2; omega)]
     have hs : stepE (gphTo xs k) xs[k] = gphTo xs k := by unfold stepE; rw [if_pos hn]
     rw [hs]; exact ih
   · have hnn : ¬ nodeE xs[k] < 0 := by omega
     have hnt : (nodeE xs[k]).toNat = n := by omega
     by_cases hk1 : kindE xs[k] = [97]
     · have hs : stepE (gphTo xs k) xs[k] = stepA (gphTo xs k) n xs[k].value.data.toList := by unfold stepE; rw [if_neg hnn, if_pos hk1, hnt]
       rw [hs, if_neg (fun e => by have := ((key_iffP xs[k] ha).2 e).1; rw [hk1] at this; cases this)]
       exact ih
     · by_cases hk2 : kindE xs[k] = [112]
       · have hs : stepE (gphTo xs k) xs[k] = stepP (gphTo xs k) n xs[k].value.data.toList := by unfold stepE; rw [if_neg hnn, if_neg hk1, if_pos hk2, hnt]
         rw [hs]
         show (if a = n then (readPrefs xs[k].value.data.toList).1 else (gphTo xs k).P a) = _
         by_cases e : a = n
         · subst e
           rw [if_pos rfl, if_pos ((key_iffP xs[k] ha).1 ⟨hk2, hn⟩)]
         · rw [if_neg e, if_neg (fun e2 => by have := ((key_iffP xs[k] ha).2 e2).2; omega)]
           exact ih
       · have hs : stepE (gphTo xs k) xs[k] = gphTo xs k := by unfold stepE; rw [if_neg hnn, if_neg hk1, if_neg hk2]
         rw [hs, if_neg (fun e => hk2 ((key_iffP xs[k] ha).2 e).1)]
         exact ih
theorem graphS_prefs {xs : List Entry} (h : checkS xs = 0) : ∀ a, a < 12 -> (graphS xs).P a = prefsAt xs a := by
 intro a ha
 have := prf_take (okS_of h) xs.length (zab _) a ha
 rw [zaS] at this
 exact this
theorem len_addR : ∀ (l : List Route) (r : Route), (addR l r).length <= l.length + 1
 | [], _ => by simp [addR]
 | x :: l, r => by
   unfold addR
   have := len_addR l r
   split
   · simp; exact this
   · split <;> simp
theorem len_row {xs : List Entry} {s n : Nat} : ∀ (ps : List Prefix) (l : List Route), (rowN xs s n l ps).length <= l.length + ps.length
 | [], l => by simp [rowN]
 | p :: ps, l => by
   have h1 := len_row (xs := xs) (s := s) (n := n) ps (addN xs s n l p)
   have h2 : (addN xs s n l p).length <= l.length + 1 := by
    unfold addN; split
    · omega
    · exact len_addR _ _
   show (rowN xs s n (addN xs s n l p) ps).length <= _
   simp only [zay]; omega
theorem len_tab (xs : List Entry) (s : Nat) : ∀ n, (tabTo xs s n).length <= 6 * n
 | 0 => zab _
 | n + 1 => by
   have h1 := len_tab xs s n
   have h2 := len_row (xs := xs) (s := s) (n := n) (prefsAt xs n) (tabTo xs s n)
   have h3 := (prefs_fine (prefsAt_chk xs n)).1
   show (rowN xs s n (tabTo xs s n) (prefsAt xs n)).length <= _
   omega
section
variable {C : Nat -> Nat -> Nat} {D : Nat -> Bool}
theorem path_down {a k : Nat} {i c : Nat} (h : Pth C D a (· = k) i c) : (i = k -> C a k <= c) /\ (i ≠ k -> D k = false /\ ∃ c', Pth C D k (fun _ => True) i c' /\ C a k + c' <= c) := by
 induction h with
 | one j hj1 hj2 hj3 hj4 =>
   have e : j = k := hj4
   subst e
   exact ⟨fun _ => zab _, fun h => absurd rfl h⟩
 | step x y c hp hd hy hya hc ih =>
   have hle : C a k <= c := by
    by_cases e : x = k
    · exact ih.1 e
    · obtain ⟨_, c', _, h2⟩ := ih.2 e; omega
   refine ⟨fun _ => by omega, fun hyk => ?_⟩
   by_cases e : x = k
   · subst e
     exact ⟨hd, C x y, .one y hy hyk hc trivial, by omega⟩
   · obtain ⟨h1, c', h2, h3⟩ := ih.2 e
     exact ⟨h1, c' + C x y, .step x y _ h2 hd hy hyk hc, by omega⟩
end
theorem cost_cases (xs : List Entry) {s i : Nat} (hi : i ≠ s) :
  ((wayTo xs s i).cost = -1 /\ ∀ c, ¬ Pth (linkC xs) (fun a => (adjAt xs a).1) s (fun _ => True) i c) ∨
  ∃ m : Nat, (wayTo xs s i).cost = m /\ Mn (linkC xs) (fun a => (adjAt xs a).1) s (fun _ => True) i m := by
 have hall : ∀ c, Pth (linkC xs) (fun a => (adjAt xs a).1) s (fun k => fstF (-1) k = true) i c ↔ Pth (linkC xs) (fun a => (adjAt xs a).1) s (fun _ => True) i c := fun c => Pth.same fst_all
 have hw : (wayTo xs s i).cost = gI (rnds (linkC xs) (fun a => (adjAt xs a).1) s (iniB (linkC xs) s (fstF (-1))) 12) i := by
  unfold wayTo; rw [if_neg hi]; rfl
 rw [hw]
 rcases rounds_find (C := linkC xs) (D := fun a => (adjAt xs a).1) (s := s) (F := fstF (-1)) i with ⟨r1, r2⟩ | ⟨m, r1, r2⟩
 · exact .inl ⟨r1, fun c h => r2 c ((hall c).2 h)⟩
 · exact .inr ⟨m, r1, (hall m).1 r2.1, fun c h => r2.2 c ((hall c).2 h)⟩
theorem best_iff (xs : List Entry) {s i m : Nat} (hm : Mn (linkC xs) (fun a => (adjAt xs a).1) s (fun _ => True) i m) (k : Nat) :
  gI (best xs s (k : Int) 12) i = m ↔ Pth (linkC xs) (fun a => (adjAt xs a).1) s (· = k) i m := by
 have hone : ∀ c, Pth (linkC xs) (fun a => (adjAt xs a).1) s (fun j => fstF (k : Int) j = true) i c ↔ Pth (linkC xs) (fun a => (adjAt xs a).1) s (· = k) i c := fun c => Pth.same (fst_one k)
 show gI (rnds (linkC xs) (fun a => (adjAt xs a).1) s (iniB (linkC xs) s (fstF (k : Int))) 12) i = m ↔ _
 rcases rounds_find (C := linkC xs) (D := fun a => (adjAt xs a).1) (s := s) (F := fstF (k : Int)) i with ⟨r1, r2⟩ | ⟨m', r1, r2⟩
 · rw [r1]
   exact ⟨fun e => by omega, fun h => absurd ((hone m).2 h) (r2 m)⟩
 · rw [r1]
   constructor
   · intro e
     have : m' = m := by omega
     rw [<- this]; exact (hone m').1 r2.1
   · intro h
     have h1 := r2.2 m ((hone m).2 h)
     have h2 := hm.2 m' (((hone m').1 r2.1).mono (fun _ _ => trivial))
     omega
theorem hopsTo_list (xs : List Entry) (s q : Nat) (c : Int) : ∀ k, hopsTo xs s q c k = ((List.range k).map fun (i : Nat) => (i : Int)).filter fun i => decide (gI (best xs s i 12) q = c)
 | 0 => rfl
 | k + 1 => by
   unfold hopsTo
   rw [zbW, zbd, zbx, <- hopsTo_list xs s q c k]
   by_cases e : gI (best xs s (k : Int) 12) q = c
   · rw [if_pos e]; simp [e]
   · rw [if_neg e]; simp [e]
theorem dij_ex {C : Nat -> Nat -> Nat} {D : Nat -> Bool} {s : Nat} (hC : ∀ a b, C a b <= 1000) (hs : s < 12) : ∀ (n : Nat) (st : Ds) (R : Nat -> Nat -> Prop), mu st <= n -> Inv C D s R st -> Cov C D s 0 12 R st ->
  ∃ st' R', Inv C D s R' st' /\ Cov C D s 0 12 R' st' /\ st'.heap = [] := by
 intro n
 induction n with
 | zero =>
   intro st R hm hi hc
   refine ⟨st, R, hi, hc, zat ?_⟩
   unfold mu at hm; omega
 | succ n ih =>
   intro st R hm hi hc
   by_cases hl : 0 < st.heap.length
   · obtain ⟨_, _, ⟨R', h1, h2⟩, h3, _⟩ := step_inv hC hs hi hc hl
     exact ih _ R' (by omega) h1 h2
   · exact ⟨st, R, hi, hc, zat (by omega)⟩
theorem way_le (xs : List Entry) {s q : Nat} (hs : s < 12) (hq : q < 12) : -1 <= (wayTo xs s q).cost /\ (wayTo xs s q).cost <= 1048576 := by
 obtain ⟨h1, h2⟩ := ini_inv (linkC xs) (fun a => (adjAt xs a).1) hs
 obtain ⟨st, R, g1, g2, g3⟩ := dij_ex (linkC_le xs) hs _ _ _ (zab _) h1 h2
 rw [<- ways_agree hs (fun _ _ => rfl) (fun _ => rfl) g1 g2 g3 hq]
 show -1 <= costW st q /\ costW st q <= 1048576
 have := g1.nn hq
 unfold costW
 split <;> omega
theorem way_hops {xs : List Entry} {s q : Nat} (hq : q ≠ s) (hc : 0 <= (wayTo xs s q).cost) : (wayTo xs s q).hops ≠ [] := by
 rcases cost_cases xs hq with ⟨r1, _⟩ | ⟨m, r1, r2⟩
 · omega
 · obtain ⟨k, _, hk12, _, _, hk5⟩ := r2.1.first
   have hw : (wayTo xs s q).hops = hopsFor xs s q (wayTo xs s q).cost 12 := by unfold wayTo; rw [if_neg hq]
   rw [hw, r1]
   unfold hopsFor
   rw [if_neg (by omega), hopsTo_list]
   intro e
   have : (k : Int) ∈ (((List.range 12).map fun (i : Nat) => (i : Int)).filter fun i => decide (gI (best xs s i 12) q = (m : Int))) :=
    zaV.2 ⟨zaX.2 ⟨k, zbf.2 hk12, rfl⟩, by simpa using (best_iff xs r2 k).2 hk5⟩
   rw [e] at this; cases this
theorem seq_zero {α : Type} {bad : α -> Int} {ord : α -> α -> Bool} (l : List α) (h1 : ∀ x ∈ l, bad x = 0) (h2 : l.Pairwise fun a b => ord a b = true) : ∀ n k, seqChk bad ord l n k = 0
 | 0, _ => rfl
 | n + 1, k => by
   unfold seqChk
   by_cases hk : k < l.length
   · rw [zac hk]
     simp only
     rw [if_neg (by rw [h1 _ (zap hk)]; simp)]
     cases k with
     | zero => simp; exact seq_zero l h1 h2 n 1
     | succ j =>
       have hj : l[j]? = some l[j] := zac (by omega)
       have ho : ord l[j] l[j + 1] = true := zaG.1 h2 j (j + 1) (by omega) hk (by omega)
       simp [hj, ho]
       exact seq_zero l h1 h2 n (j + 1 + 1)
   · rw [zbJ (by omega)]
theorem hops_ok {l : List Int} (h1 : ∀ x ∈ l, 0 <= x /\ x <= 11) (h2 : l.Pairwise (· < ·)) : ∀ n k, hopsAt l n k = true
 | 0, _ => rfl
 | n + 1, k => by
   unfold hopsAt
   by_cases hk : k < l.length
   · rw [zac hk]
     have hb := h1 _ (zap hk)
     cases k with
     | zero => simp [hb]; exact hops_ok h1 h2 n 1
     | succ j =>
       have hj : l[j]? = some l[j] := zac (by omega)
       have ho : l[j] < l[j + 1] := zaG.1 h2 j (j + 1) (by omega) hk (by omega)
       simp [hj, ho, hb]
       exact hops_ok h1 h2 n (j + 1 + 1)
   · rw [zbJ (by omega)]
theorem canon_ok {l : List Int} (h : Canon l) : hopsOk l = true :=
 hops_ok (canon_in h) (by rw [<- h]; exact nodes12_lt.filter _) _ _
structure GoodR (r : Route) : Prop where
 pre : prefBad r.pre = 0
 c0 : 0 <= r.cost
 c1 : r.cost <= 1048576
 canon : Canon r.hops
 kind : (r.here = true /\ r.cost = 0 /\ r.hops = []) ∨ (r.here = false /\ r.hops ≠ [])
theorem GoodR.ok {r : Route} (h : GoodR r) : routeBad r = 0 := by
 unfold routeBad
 rw [canon_ok h.canon]
 have : routeForm r = true := by
  rcases routeForm_cases r with ⟨h1, _⟩ | ⟨_, h1 | h1 | h1⟩
  · exact h1
  · exact absurd h.pre h1
  · have := h.c0; have := h.c1; omega
  · obtain ⟨_, _, _, h2⟩ := h1
    rcases h.kind with ⟨k1, k2, k3⟩ | ⟨k1, k2⟩
    · rcases h2 with ⟨_, h2⟩ | ⟨_, _, h2⟩ | ⟨h2, _⟩
      · exact absurd k2 h2
      · rw [k3] at h2; simp at h2
      · rw [k1] at h2; cases h2
    · rcases h2 with ⟨h2, _⟩ | ⟨h2, _, _⟩ | ⟨_, h2⟩
      · rw [k1] at h2; cases h2
      · rw [k1] at h2; cases h2
      · exact absurd (zat h2) k2
 rw [this]; rfl
theorem good_upd {x r : Route} (hx : GoodR x) (hr : GoodR r) (he : x.pre = r.pre) : GoodR (updR x r) := by
 unfold updR
 split
 · exact hr
 · split
   · rename_i h2
     simp only [Bool.and_eq_true, beq_iff_eq, Bool.not_eq_true'] at h2
     have hxf : x.here = false := h2.1
     refine ⟨hx.pre, hx.c0, hx.c1, canon_join _ _, .inr ⟨hxf, ?_⟩⟩
     rcases hx.kind with ⟨k1, _⟩ | ⟨_, k2⟩
     · rw [hxf] at k1; cases k1
     · intro e
       cases hh : x.hops with
       | nil => exact k2 hh
       | cons a l =>
         have ha := canon_in hx.canon a (by rw [hh]; simp)
         have : a ∈ joinS x.hops r.hops := zaV.2 ⟨nodes12_mem.2 ha, by rw [hh]; simp⟩
         rw [show joinS x.hops r.hops = [] from e] at this; cases this
   · exact hx
theorem good_add {r : Route} (hr : GoodR r) : ∀ {l : List Route}, (∀ x ∈ l, GoodR x) -> ∀ y ∈ addR l r, GoodR y
 | [], _, y, hy => by simp [addR] at hy; rw [hy]; exact hr
 | x :: l, h, y, hy => by
   unfold addR at hy
   split at hy
   · rcases zaA.1 hy with e | e
     · rw [e]; exact h x (by simp)
     · exact good_add hr (fun z hz => h z (by simp [hz])) y e
   · split at hy
     · rename_i hs
       rcases zaA.1 hy with e | e
       · rw [e]; exact good_upd (h x (by simp)) hr ((sameP_iff _ _).1 hs)
       · exact h y (by simp [e])
     · rcases zaA.1 hy with e | e
       · rw [e]; exact hr
       · exact h y e
theorem canon_nil : Canon [] := by unfold Canon; simp
theorem good_of {xs : List Entry} {s n : Nat} (hs : s < 12) (hn : n < 12) {p : Prefix} (hp : prefBad p = 0) {r : Route} (h : routeOfN xs s n p = some r) : GoodR r := by
 unfold routeOfN at h
 split at h
 · injection h with h; subst h
   exact ⟨hp, zbF _, (by show (0 : Int) <= 1048576; omega), canon_nil, .inl ⟨rfl, rfl, rfl⟩⟩
 · rename_i hne
   split at h
   · rename_i hc
     injection h with h; subst h
     exact ⟨hp, hc, (way_le xs hs hn).2, canon_way _ _ _, .inr ⟨rfl, way_hops hne hc⟩⟩
   · cases h
theorem good_addN {xs : List Entry} {s n : Nat} (hs : s < 12) (hn : n < 12) {l : List Route} (hl : ∀ x ∈ l, GoodR x) {p : Prefix} (hp : prefBad p = 0) : ∀ y ∈ addN xs s n l p, GoodR y := by
 unfold addN
 split
 · exact hl
 · rename_i r hr
   exact good_add (good_of hs hn hp hr) hl
theorem good_row {xs : List Entry} {s n : Nat} (hs : s < 12) (hn : n < 12) : ∀ (ps : List Prefix) (l : List Route), (∀ p ∈ ps, prefBad p = 0) -> (∀ x ∈ l, GoodR x) -> ∀ y ∈ rowN xs s n l ps, GoodR y
 | [], _, _, hl => hl
 | p :: ps, l, hp, hl => good_row hs hn ps (addN xs s n l p) (fun q hq => hp q (by simp [hq])) (good_addN hs hn hl (hp p (by simp)))
theorem good_tab {xs : List Entry} {s : Nat} (hs : s < 12) : ∀ n, n <= 12 -> ∀ y ∈ tabTo xs s n, GoodR y
 | 0, _ => fun y hy => by cases hy
 | n + 1, hn => good_row hs (by omega) _ _ (prefs_fine (prefsAt_chk xs n)).2.1 (good_tab hs n (by omega))
theorem sorted_tab (xs : List Entry) (s n : Nat) : SortedR (tabTo xs s n) := (tab_find (fun n => (prefs_fine (prefsAt_chk xs n)).2.2) n).1
theorem chk_sorted {l : List Route} (h1 : ∀ x ∈ l, GoodR x) (h2 : SortedR l) (h3 : l.length <= 200) : chkRoutes l = 0 := by
 unfold chkRoutes
 rw [if_neg (by omega)]
 exact seq_zero l (fun x hx => (h1 x hx).ok) h2 _ _
theorem chk_tab {xs : List Entry} {s : Nat} (hs : s < 12) : chkRoutes (tabTo xs s 12) = 0 :=
 chk_sorted (good_tab hs 12 (zab _)) (sorted_tab xs s 12) (by have := len_tab xs s 12; omega)
end
end Go.Proofs.YtbhbilenbbldnaaGreatDoor
