/-
  What Diff computes: plain, no program in sight.
-/
import Derived.Test.YtcbkimbeljhbhaaGreatDoorGRibF
set_option linter.unusedVariables false
set_option linter.unusedSimpArgs false
namespace Go.Proofs.YtcbkimbeljhbhaaGreatDoor
open Go.RowKit

def sameP (a b : Prefix) : Bool := a.addr == b.addr && a.bits == b.bits
def sameR (x r : Route) : Bool := sameP x.pre r.pre && (x.here == r.here && (x.cost == r.cost && x.hops == r.hops))
theorem sameP_iff (a b : Prefix) : sameP a b = true ↔ a = b := by
  cases a; cases b
  simp [sameP]
theorem sameP_refl (a : Prefix) : sameP a a = true := (sameP_iff a a).2 rfl
def inTab (a : List Route) (r : Route) : Bool := a.any fun x => sameR x r
def inPre (b : List Route) (r : Route) : Bool := b.any fun x => sameP x.pre r.pre
def diffSet (a b : List Route) : List Route := b.filter fun r => !inTab a r
def diffGone (a b : List Route) : List Prefix := (a.filter fun r => !inPre b r).map Route.pre
def diffS (a b : List Route) : List Route × List Prefix × Int :=
  if chkRoutes a ≠ 0 then ([], [], chkRoutes a) else if chkRoutes b ≠ 0 then ([], [], chkRoutes b) else (diffSet a b, diffGone a b, 0)
theorem diff_bad1 {a b : List Route} (h : chkRoutes a ≠ 0) : diffS a b = ([], [], chkRoutes a) := by unfold diffS; rw [if_pos h]
theorem diff_bad2 {a b : List Route} (h : chkRoutes a = 0) (h2 : chkRoutes b ≠ 0) : diffS a b = ([], [], chkRoutes b) := by unfold diffS; rw [if_neg (by simp [h]), if_pos h2]
theorem diff_ok {a b : List Route} (h : chkRoutes a = 0) (h2 : chkRoutes b = 0) : diffS a b = (diffSet a b, diffGone a b, 0) := by unfold diffS; rw [if_neg (by simp [h]), if_neg (by simp [h2])]

/-- the first route with a prefix -/
def atR (l : List Route) (p : Prefix) : Option Nat := l.findIdx? fun x => sameP x.pre p
theorem atR_some {l : List Route} {p : Prefix} {j : Nat} (hj : j < l.length) (h : ∀ i, (hi : i < l.length) → i < j → sameP l[i].pre p = false) (he : sameP l[j].pre p = true) : atR l p = some j := by
  unfold atR
  rw [List.findIdx?_eq_some_iff_getElem]
  exact ⟨hj, he, fun i hi => by have := h i (by omega) hi; simp [this]⟩
theorem atR_none {l : List Route} {p : Prefix} (h : ∀ i, (hi : i < l.length) → sameP l[i].pre p = false) : atR l p = none := by
  unfold atR
  rw [List.findIdx?_eq_none_iff]
  intro x hx
  obtain ⟨i, hi, rfl⟩ := List.getElem_of_mem hx
  exact h i hi
theorem atR_inPre (l : List Route) (r : Route) : inPre l r = (atR l r.pre).isSome := by
  unfold inPre atR
  rw [List.findIdx?_isSome]

theorem ord_trans {p q r : Prefix} (h : prefOrd p q = true) (h' : prefOrd q r = true) : prefOrd p r = true := by
  rw [prefOrd_iff] at *; omega
theorem ord_ne {p q : Prefix} (h : prefOrd p q = true) : sameP p q = false := by
  rw [Bool.eq_false_iff]
  intro e
  rw [(sameP_iff p q).1 e, prefOrd_iff] at h
  omega
theorem routes_ord {xs : List Route} (h : chkRoutes xs = 0) {i j : Nat} (hij : i < j) (hj : j < xs.length) : prefOrd xs[i].pre xs[j].pre = true := by
  have hseq : seqChk routeBad routeOrd xs (xs.length - 0) 0 = 0 := by
    unfold chkRoutes at h
    split at h
    · cases h
    · exact h
  have adj : ∀ m, (hm : m + 1 < xs.length) → prefOrd xs[m].pre xs[m + 1].pre = true := by
    intro m hm
    obtain ⟨h1, h2⟩ := seq_ok xs _ 0 (by omega) hseq (m + 1) (by omega) hm
    exact h2 m rfl h1 (by omega)
  have key : ∀ d i, (h : i + d + 1 < xs.length) → prefOrd xs[i].pre xs[i + d + 1].pre = true := by
    intro d
    induction d with
    | zero => intro i h; exact adj i h
    | succ d ih => intro i h; exact ord_trans (ih i (by omega)) (adj (i + d + 1) (by omega))
  have := key (j - i - 1) i (by omega)
  have e : i + (j - i - 1) + 1 = j := by omega
  simpa only [e] using this
/-- where a table may be, the first route with a prefix is the only one -/
theorem inTab_at {xs : List Route} (h : chkRoutes xs = 0) (r : Route) : inTab xs r = match atR xs r.pre with | none => false | some j => (match xs[j]? with | some x => sameR x r | none => false) := by
  rcases e : atR xs r.pre with _ | j
  · simp only
    unfold atR at e
    rw [List.findIdx?_eq_none_iff] at e
    unfold inTab
    rw [List.any_eq_false]
    intro x hx
    have := e x hx
    simp [sameR, this]
  · unfold atR at e
    rw [List.findIdx?_eq_some_iff_getElem] at e
    obtain ⟨hj, h1, h2⟩ := e
    simp only [List.getElem?_eq_getElem hj]
    unfold inTab
    rw [Bool.eq_iff_iff, List.any_eq_true]
    constructor
    · rintro ⟨x, hx, hs⟩
      obtain ⟨i, hi, rfl⟩ := List.getElem_of_mem hx
      have hp : sameP xs[i].pre r.pre = true := by
        unfold sameR at hs
        simp only [Bool.and_eq_true] at hs
        exact hs.1
      rcases Nat.lt_trichotomy i j with c | c | c
      · exact absurd hp (h2 i c)
      · subst c; exact hs
      · have := ord_ne (routes_ord h c hi)
        rw [(sameP_iff _ _).1 h1, (sameP_iff _ _).1 hp] at this
        rw [sameP_refl] at this; cases this
    · intro hs
      exact ⟨_, List.getElem_mem hj, hs⟩

theorem set_to {a b : List Route} {k : Nat} (h : k < b.length) : ((b.take (k + 1)).filter fun r => !inTab a r) = ((b.take k).filter fun r => !inTab a r) ++ (if inTab a b[k] then [] else [b[k]]) := by
  rw [List.take_succ_eq_append_getElem h, List.filter_append]
  congr 1
  rcases e : inTab a b[k] with _ | _ <;> simp [e]
theorem gone_to {a b : List Route} {k : Nat} (h : k < a.length) : (((a.take (k + 1)).filter fun r => !inPre b r).map Route.pre) = (((a.take k).filter fun r => !inPre b r).map Route.pre) ++ (if inPre b a[k] then [] else [a[k].pre]) := by
  rw [List.take_succ_eq_append_getElem h, List.filter_append, List.map_append]
  congr 1
  rcases e : inPre b a[k] with _ | _ <;> simp [e]
theorem filt_len {α : Type} (p : α → Bool) (l : List α) (k : Nat) : ((l.take k).filter p).length ≤ l.length := by
  refine Nat.le_trans (List.length_filter_le _ _) ?_
  rw [List.length_take]; omega
end Go.Proofs.YtcbkimbeljhbhaaGreatDoor
