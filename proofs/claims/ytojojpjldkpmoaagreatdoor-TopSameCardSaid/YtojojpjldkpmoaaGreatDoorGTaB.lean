/-
  
-/
import Derived.Test.YtojojpjldkpmoaaGreatDoorGRibF
import Derived.Test.YtojojpjldkpmoaaGreatDoorGWaF
set_option linter.unusedVariables false
set_option linter.unusedSimpArgs false
set_option maxHeartbeats 16000000
namespace Go.Proofs.YtojojpjldkpmoaaGreatDoor
section
open Go.RowKit
def sameP (a b : Prefix) : Bool := a.addr == b.addr && a.bits == b.bits
def sameR (x r : Route) : Bool := sameP x.pre r.pre && (x.here == r.here && (x.cost == r.cost && x.hops == r.hops))
theorem sameP_iff (a b : Prefix) : sameP a b = true ↔ a = b := by
 cases a; cases b
 simp [sameP]
theorem sameP_refl (a : Prefix) : sameP a a = true := (sameP_iff a a).2 rfl
def inTab (a : List Route) (r : Route) : Bool := a.any fun x => sameR x r
def inPre (b : List Route) (r : Route) : Bool := b.any fun x => sameP x.pre r.pre
def diffSet (a b : List Route) : List Route := b.filter fun r => !inTab a r
def diffGone (a b : List Route) : List Prefix := (a.filter fun r => !inPre b r).map Route.pre
def diffS (a b : List Route) : List Route × List Prefix × Int :=
 if chkRoutes a ≠ 0 then ([], [], chkRoutes a) else if chkRoutes b ≠ 0 then ([], [], chkRoutes b) else (diffSet a b, diffGone a b, 0)
theorem diff_bad1 {a b : List Route} (h : chkRoutes a ≠ 0) : diffS a b = ([], [], chkRoutes a) := by unfold diffS; rw [if_pos h]
theorem diff_bad2 {a b : List Route} (h : chkRoutes a = 0) (h2 : chkRoutes b ≠ 0) : diffS a b = ([], [], chkRoutes b) := by unfold diffS; rw [if_neg (by simp [h]), if_pos h2]
theorem diff_ok {a b : List Route} (h : chkRoutes a = 0) (h2 : chkRoutes b = 0) : diffS a b = (diffSet a b, diffGone a b, 0) := by unfold diffS; rw [if_neg (by simp [h]), if_neg (by simp [h2])]
theorem ord_trans {p q r : Prefix} (h : prefOrd p q = true) (h' : prefOrd q r = true) : prefOrd p r = true := by
 rw [prefOrd_iff] at *; omega
theorem ord_ne {p q : Prefix} (h : prefOrd p q = true) : sameP p q = false := by
 rw [Bool.eq_false_iff]
 intro e
 rw [(sameP_iff p q).1 e, prefOrd_iff] at h
 omega
theorem routes_ord {xs : List Route} (h : chkRoutes xs = 0) {i j : Nat} (hij : i < j) (hj : j < xs.length) : prefOrd xs[i].pre xs[j].pre = true := by
 have hseq : seqChk routeBad routeOrd xs (xs.length - 0) 0 = 0 := by
  unfold chkRoutes at h
  split at h
  · cases h
  · exact h
 have adj : ∀ m, (hm : m + 1 < xs.length) -> prefOrd xs[m].pre xs[m + 1].pre = true := by
  intro m hm
  obtain ⟨h1, h2⟩ := seq_ok xs _ 0 (by omega) hseq (m + 1) (by omega) hm
  exact h2 m rfl h1 (by omega)
 have key : ∀ d i, (h : i + d + 1 < xs.length) -> prefOrd xs[i].pre xs[i + d + 1].pre = true := by
  intro d
  induction d with
  | zero => intro i h; exact adj i h
  | succ d ih => intro i h; exact ord_trans (ih i (by omega)) (adj (i + d + 1) (by omega))
 have := key (j - i - 1) i (by omega)
 have e : i + (j - i - 1) + 1 = j := by omega
 simpa only [e] using this
theorem set_to {a b : List Route} {k : Nat} (h : k < b.length) : ((b.take (k + 1)).filter fun r => !inTab a r) = ((b.take k).filter fun r => !inTab a r) ++ (if inTab a b[k] then [] else [b[k]]) := by
 rw [zar h, zbC]
 congr 1
 rcases e : inTab a b[k] with _ | _ <;> simp [e]
theorem gone_to {a b : List Route} {k : Nat} (h : k < a.length) : (((a.take (k + 1)).filter fun r => !inPre b r).map Route.pre) = (((a.take k).filter fun r => !inPre b r).map Route.pre) ++ (if inPre b a[k] then [] else [a[k].pre]) := by
 rw [zar h, zbC, zbf]
 congr 1
 rcases e : inPre b a[k] with _ | _ <;> simp [e]
theorem filt_len {α : Type} (p : α -> Bool) (l : List α) (k : Nat) : ((l.take k).filter p).length <= l.length := by
 refine zaz (zbP _ _) ?_
 rw [zaq]; omega
end
section
open Go
instance : DecidableEq Prefix := fun a b => decidable_of_iff _ (sameP_iff a b)
def nodes12 : List Int := (List.range 12).map fun (k : Nat) => (k : Int)
def joinS (a b : List Int) : List Int := nodes12.filter fun k => a.contains k || b.contains k
def updR (x r : Route) : Route := if (r.here || (!x.here && decide (r.cost < x.cost))) = true then r else if (!x.here && r.cost == x.cost) = true then { x with hops := joinS x.hops r.hops } else x
def addR : List Route -> Route -> List Route
 | [], r => [r]
 | x :: l, r => if prefOrd x.pre r.pre = true then x :: addR l r else if sameP x.pre r.pre = true then updR x r :: l else r :: x :: l
def SortedR (l : List Route) : Prop := l.Pairwise fun a b => prefOrd a.pre b.pre = true
def atP (l : List Route) (p : Prefix) : Option Route := l.find? fun x => sameP x.pre p
def mergeO : Option Route -> Route -> Route
 | none, r => r
 | some x, r => updR x r
theorem sameP_comm (a b : Prefix) : sameP a b = sameP b a := by
 rw [Bool.eq_iff_iff, sameP_iff, sameP_iff]; exact ⟨Eq.symm, Eq.symm⟩
theorem sameP_ne {a b : Prefix} (h : a ≠ b) : sameP a b = false := by
 rw [Bool.eq_false_iff]; exact fun e => h ((sameP_iff a b).1 e)
theorem ord_irr (p : Prefix) : prefOrd p p = false := by
 rw [Bool.eq_false_iff]; intro h; rw [prefOrd_iff] at h; omega
theorem ord_total {p q : Prefix} (h : prefOrd p q = false) (h2 : sameP p q = false) : prefOrd q p = true := by
 rw [prefOrd_iff]
 have h1 : ¬ (p.addr < q.addr ∨ (p.addr = q.addr /\ p.bits < q.bits)) := fun e => by rw [(prefOrd_iff p q).2 e] at h; cases h
 have h3 : ¬ (p.addr = q.addr /\ p.bits = q.bits) := fun e => by
  rw [Bool.eq_false_iff] at h2
  exact h2 (by unfold sameP; simp [e.1, e.2])
 omega
theorem ord_neq {p q : Prefix} (h : prefOrd p q = true) : p ≠ q := fun e => by rw [e, ord_irr] at h; cases h
theorem updR_pre {x r : Route} (h : x.pre = r.pre) : (updR x r).pre = r.pre := by
 unfold updR; split
 · rfl
 · split
   · exact h
   · exact h
theorem mem_addR {l : List Route} {r y : Route} (h : y ∈ addR l r) : y.pre = r.pre ∨ y ∈ l := by
 induction l with
 | nil => simp [addR] at h; exact .inl (by rw [h])
 | cons x l ih =>
   unfold addR at h
   split at h
   · rcases zaB.1 h with e | e
     · exact .inr (by simp [e])
     · rcases ih e with e | e
       · exact .inl e
       · exact .inr (by simp [e])
   · split at h
     · rename_i _ hs
       rcases zaB.1 h with e | e
       · exact .inl (by rw [e, updR_pre ((sameP_iff _ _).1 hs)])
       · exact .inr (by simp [e])
     · rcases zaB.1 h with e | e
       · exact .inl (by rw [e])
       · exact .inr e
theorem sorted_add {l : List Route} (h : SortedR l) (r : Route) : SortedR (addR l r) := by
 induction l with
 | nil => simp [addR, SortedR]
 | cons x l ih =>
   obtain ⟨h1, h2⟩ := zaA.1 h
   unfold addR
   split
   · rename_i hx
     refine zaA.2 ⟨fun y hy => ?_, ih h2⟩
     rcases mem_addR hy with e | e
     · rw [e]; exact hx
     · exact h1 y e
   · rename_i hx
     split
     · rename_i hs
       have e := (sameP_iff _ _).1 hs
       refine zaA.2 ⟨fun y hy => ?_, h2⟩
       rw [updR_pre e, <- e]; exact h1 y hy
     · rename_i hs
       have hrx := ord_total (by simpa using hx) (by simpa using hs)
       refine zaA.2 ⟨fun y hy => ?_, h⟩
       rcases zaB.1 hy with e | e
       · rw [e]; exact hrx
       · exact ord_trans hrx (h1 y e)
theorem atP_none_of {l : List Route} {p : Prefix} (h : ∀ y ∈ l, y.pre ≠ p) : atP l p = none := by
 unfold atP
 rw [zbR]
 intro x hx e
 exact h x hx ((sameP_iff _ _).1 e)
theorem atP_cons (x : Route) (l : List Route) (p : Prefix) : atP (x :: l) p = if x.pre = p then some x else atP l p := by
 unfold atP
 rw [List.find?_cons]
 by_cases e : x.pre = p
 · rw [if_pos e, (sameP_iff _ _).2 e]
 · rw [if_neg e, sameP_ne e]
theorem find_add {l : List Route} (h : SortedR l) (r : Route) (p : Prefix) : atP (addR l r) p = if r.pre = p then some (mergeO (atP l p) r) else atP l p := by
 induction l with
 | nil => unfold addR; rw [atP_cons]; rfl
 | cons x l ih =>
   obtain ⟨h1, h2⟩ := zaA.1 h
   unfold addR
   split
   · rename_i hx
     rw [atP_cons, atP_cons, ih h2]
     by_cases e : x.pre = p
     · rw [if_pos e, if_pos e, if_neg (fun e2 => ord_neq hx (e.trans e2.symm))]
     · rw [if_neg e, if_neg e]
   · rename_i hx
     split
     · rename_i hs
       have e := (sameP_iff _ _).1 hs
       rw [atP_cons, atP_cons, updR_pre e, e]
       by_cases e2 : r.pre = p
       · rw [if_pos e2, if_pos e2, if_pos e2]; rfl
       · rw [if_neg e2, if_neg e2, if_neg e2]
     · rename_i hs
       have hrx := ord_total (by simpa using hx) (by simpa using hs)
       rw [atP_cons r]
       by_cases e2 : r.pre = p
       · rw [if_pos e2, if_pos e2, atP_none_of]
         · rfl
         · intro y hy e
           rcases zaB.1 hy with e3 | e3
           · rw [e3, <- e2] at e; exact ord_neq hrx e.symm
           · rw [<- e2] at e; exact ord_neq (ord_trans hrx (h1 y e3)) e.symm
       · rw [if_neg e2, if_neg e2]
theorem atP_mem {l : List Route} {p : Prefix} {r : Route} (h : atP l p = some r) : r ∈ l /\ r.pre = p := by
 unfold atP at h
 have h2 := List.find?_some h
 exact ⟨List.mem_of_find?_eq_some h, (sameP_iff _ _).1 h2⟩
theorem mem_atP {l : List Route} (h : SortedR l) {r : Route} (hr : r ∈ l) : atP l r.pre = some r := by
 induction l with
 | nil => cases hr
 | cons x l ih =>
   obtain ⟨h1, h2⟩ := zaA.1 h
   rw [atP_cons]
   rcases zaB.1 hr with e | e
   · rw [e, if_pos rfl]
   · rw [if_neg (ord_neq (h1 r e)), ih h2 e]
theorem sorted_ext : ∀ {l m : List Route}, SortedR l -> SortedR m -> (∀ p, atP l p = atP m p) -> l = m
 | [], [], _, _, _ => rfl
 | [], y :: m, _, hm, h => by
   have := h y.pre
   rw [mem_atP hm (by simp)] at this; cases this
 | x :: l, [], hl, _, h => by
   have := h x.pre
   rw [mem_atP hl (by simp)] at this; cases this
 | x :: l, y :: m, hl, hm, h => by
   obtain ⟨h1, h2⟩ := zaA.1 hl
   obtain ⟨g1, g2⟩ := zaA.1 hm
   have hx : atP (y :: m) x.pre = some x := by rw [<- h]; exact mem_atP hl (by simp)
   have hy : atP (x :: l) y.pre = some y := by rw [h]; exact mem_atP hm (by simp)
   have hxy : x = y := by
    rcases zaB.1 (atP_mem hx).1 with e | e
    · exact e
    · rcases zaB.1 (atP_mem hy).1 with e2 | e2
      · exact e2.symm
      · have := ord_trans (g1 x e) (h1 y e2)
        rw [ord_irr] at this; cases this
   subst hxy
   have : l = m := sorted_ext h2 g2 (fun p => by
    have hp := h p
    rw [atP_cons, atP_cons] at hp
    by_cases e : x.pre = p
    · rw [atP_none_of, atP_none_of]
      · intro z hz e2; exact ord_neq (g1 z hz) (e.trans e2.symm)
      · intro z hz e2; exact ord_neq (h1 z hz) (e.trans e2.symm)
    · rw [if_neg e, if_neg e] at hp; exact hp)
   rw [this]
def keyP (n : Nat) : ByteArray := bOf ([112, 58] ++ Lib.decDigits n)
def prefsAt (xs : List Entry) (n : Nat) : List Prefix := match findE xs (keyP n) with | some e => (readPrefs e.value.data.toList).1 | none => []
def inP (l : List Prefix) (p : Prefix) : Bool := l.any fun q => sameP q p
theorem inP_iff (l : List Prefix) (p : Prefix) : inP l p = true ↔ p ∈ l := by
 unfold inP
 rw [zbo]
 constructor
 · rintro ⟨q, h1, h2⟩; rw [<- (sameP_iff _ _).1 h2]; exact h1
 · intro h; exact ⟨p, h, sameP_refl p⟩
def routeOfN (xs : List Entry) (s n : Nat) (p : Prefix) : Option Route :=
 if n = s then some ⟨p, true, 0, []⟩ else if 0 <= (wayTo xs s n).cost then some ⟨p, false, (wayTo xs s n).cost, (wayTo xs s n).hops⟩ else none
def addN (xs : List Entry) (s n : Nat) (l : List Route) (p : Prefix) : List Route := match routeOfN xs s n p with | none => l | some r => addR l r
def rowN (xs : List Entry) (s n : Nat) (l : List Route) (ps : List Prefix) : List Route := ps.foldl (addN xs s n) l
def tabTo (xs : List Entry) (s : Nat) : Nat -> List Route
 | 0 => []
 | n + 1 => rowN xs s n (tabTo xs s n) (prefsAt xs n)
def accP (xs : List Entry) (s : Nat) (p : Prefix) : Nat -> Option Route
 | 0 => none
 | n + 1 => if inP (prefsAt xs n) p = true then (match routeOfN xs s n p with | none => accP xs s p n | some r => some (mergeO (accP xs s p n) r)) else accP xs s p n
theorem routeOfN_pre {xs : List Entry} {s n : Nat} {p : Prefix} {r : Route} (h : routeOfN xs s n p = some r) : r.pre = p := by
 unfold routeOfN at h
 split at h
 · injection h with h; rw [<- h]
 · split at h
   · injection h with h; rw [<- h]
   · cases h
theorem sorted_addN {xs : List Entry} {s n : Nat} {l : List Route} (h : SortedR l) (p : Prefix) : SortedR (addN xs s n l p) := by
 unfold addN; split
 · exact h
 · exact sorted_add h _
theorem find_addN {xs : List Entry} {s n : Nat} {l : List Route} (h : SortedR l) (q p : Prefix) :
  atP (addN xs s n l q) p = if q = p then (match routeOfN xs s n p with | none => atP l p | some r => some (mergeO (atP l p) r)) else atP l p := by
 unfold addN
 by_cases e : q = p
 · subst e
   rw [if_pos rfl]
   cases hr : routeOfN xs s n q with
   | none => rfl
   | some r => show atP (addR l r) q = _; rw [find_add h, if_pos (routeOfN_pre hr)]
 · rw [if_neg e]
   cases hr : routeOfN xs s n q with
   | none => rfl
   | some r => show atP (addR l r) p = _; rw [find_add h, if_neg (by rw [routeOfN_pre hr]; exact e)]
theorem row_find {xs : List Entry} {s n : Nat} : ∀ (ps : List Prefix) (l : List Route), SortedR l -> ps.Pairwise (fun a b => prefOrd a b = true) ->
  SortedR (rowN xs s n l ps) /\ ∀ p, atP (rowN xs s n l ps) p = if inP ps p = true then (match routeOfN xs s n p with | none => atP l p | some r => some (mergeO (atP l p) r)) else atP l p
 | [], l, hl, _ => ⟨hl, fun p => by rw [if_neg (by simp [inP])]; rfl⟩
 | q :: ps, l, hl, hp => by
   obtain ⟨h1, h2⟩ := zaA.1 hp
   obtain ⟨g1, g2⟩ := row_find ps (addN xs s n l q) (sorted_addN hl q) h2
   refine ⟨g1, fun p => ?_⟩
   show atP (rowN xs s n (addN xs s n l q) ps) p = _
   rw [g2 p]
   by_cases e : q = p
   · subst e
     have hno : ¬ inP ps q = true := fun hc => by
      rw [inP_iff] at hc; exact ord_neq (h1 q hc) rfl
     rw [if_neg hno, find_addN hl, if_pos rfl, if_pos (by rw [inP_iff]; simp)]
   · have hin : inP (q :: ps) p = inP ps p := by
      rw [Bool.eq_iff_iff, inP_iff, inP_iff, zaB]
      exact ⟨fun h => h.resolve_left (fun x => e x.symm), .inr⟩
     rw [hin, find_addN hl, if_neg e]
theorem tab_find {xs : List Entry} {s : Nat} (hp : ∀ n, (prefsAt xs n).Pairwise (fun a b => prefOrd a b = true)) : ∀ n, SortedR (tabTo xs s n) /\ ∀ p, atP (tabTo xs s n) p = accP xs s p n
 | 0 => ⟨List.Pairwise.nil, fun _ => rfl⟩
 | n + 1 => by
   obtain ⟨h1, h2⟩ := tab_find hp n
   obtain ⟨g1, g2⟩ := row_find (xs := xs) (s := s) (n := n) _ _ h1 (hp n)
   refine ⟨g1, fun p => ?_⟩
   show atP (rowN xs s n (tabTo xs s n) (prefsAt xs n)) p = _
   rw [g2 p, h2 p]; rfl
def atN (xs : List Entry) (s : Nat) (p : Prefix) (c : Int) (h : Int) (n : Nat) : Bool := decide (n ≠ s) && decide ((wayTo xs s n).cost = c) && inP (prefsAt xs n) p && (wayTo xs s n).hops.contains h
def Canon (l : List Int) : Prop := nodes12.filter (fun k => l.contains k) = l
theorem canon_filter (P : Int -> Bool) : Canon (nodes12.filter P) := by
 unfold Canon
 refine List.filter_congr (fun k hk => ?_)
 rw [Bool.eq_iff_iff, List.contains_iff_mem, zaY]
 exact ⟨fun h => h.2, fun h => ⟨hk, h⟩⟩
theorem hopsTo_filter (xs : List Entry) (s q : Nat) (c : Int) : ∀ k, hopsTo xs s q c k = ((List.range k).map fun (i : Nat) => (i : Int)).filter fun i => decide (gI (best xs s i 12) q = c)
 | 0 => rfl
 | k + 1 => by
   unfold hopsTo
   rw [zcb, zbf, zbC, <- hopsTo_filter xs s q c k]
   by_cases e : gI (best xs s (k : Int) 12) q = c
   · rw [if_pos e]; simp [e]
   · rw [if_neg e]; simp [e]
theorem canon_way (xs : List Entry) (s n : Nat) : Canon (wayTo xs s n).hops := by
 unfold wayTo
 split
 · show Canon ([] : List Int)
   unfold Canon; simp
 · show Canon (hopsFor xs s n (costTo xs s n) 12)
   unfold hopsFor
   split
   · unfold Canon; simp
   · rw [hopsTo_filter]; exact canon_filter _
theorem prefs_chk (s : List UInt8) : chkPrefs (readPrefs s).1 = 0 := by
 unfold readPrefs
 cases pairsD 47 (partsC s) with
 | none => rfl
 | some l =>
   show chkPrefs (if chkPrefs (l.map prefOf) = 0 then _ else _ : List Prefix × Int).1 = 0
   split
   · assumption
   · rfl
theorem prefsAt_chk (xs : List Entry) (n : Nat) : chkPrefs (prefsAt xs n) = 0 := by
 unfold prefsAt
 split
 · exact prefs_chk _
 · rfl
theorem prefs_fine {l : List Prefix} (h : chkPrefs l = 0) : l.length <= 6 /\ (∀ p ∈ l, prefBad p = 0) /\ l.Pairwise (fun a b => prefOrd a b = true) := by
 unfold chkPrefs at h
 split at h
 · cases h
 · rename_i h6
   have hs := seq_ok l _ 0 (by omega) h
   have adj : ∀ m, (hm : m + 1 < l.length) -> prefOrd l[m] l[m + 1] = true := fun m hm => (hs (m + 1) (by omega) hm).2 m rfl (hs (m + 1) (by omega) hm).1 (by omega)
   refine ⟨by omega, fun p hp => ?_, ?_⟩
   · obtain ⟨i, hi, rfl⟩ := zaj hp
     exact (hs i (by omega) hi).1
   · rw [zaF]
     have key : ∀ d i, (h : i + d + 1 < l.length) -> prefOrd l[i] l[i + d + 1] = true := by
      intro d
      induction d with
      | zero => intro i h; exact adj i h
      | succ d ih => intro i h; exact ord_trans (ih i (by omega)) (adj (i + d + 1) h)
     intro i j hi hj hij
     have := key (j - i - 1) i (by omega)
     have he : i + (j - i - 1) + 1 = j := by omega
     simp only [he] at this
     exact this
end
end Go.Proofs.YtojojpjldkpmoaaGreatDoor
