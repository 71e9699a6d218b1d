/-
  Walks of the rib layer, part B: Check.
-/
import Derived.Test.YtbpamllmbdcdfaaRibA
import Derived.Test.YtbpamllmbdcdfaaStC
namespace Go.Proofs.Ytbpamllmbdcdfaa
open Go.RowKit Go.Sort

theorem chkPrefs_one (p : Prefix) : chkPrefs [p] = prefBad p := by
  unfold chkPrefs
  rw [if_neg (by simp)]
  show seqChk prefBad prefOrd [p] 1 0 = prefBad p
  unfold seqChk
  by_cases h : prefBad p = 0
  · simp [h, seqChk]
  · simp [h]

theorem hops_end (l : List Int) (k : Nat) (h : l.length ≤ k) (n : Nat) : hopsAt l n k = true := by
  cases n with
  | zero => rfl
  | succ n => unfold hopsAt; rw [List.getElem?_eq_none h]
theorem hops_bad (l : List Int) (k : Nat) (hk : k < l.length) (h : l[k] < 0 ∨ 11 < l[k]) : hopsAt l (l.length - k) k = false := by
  obtain ⟨n, hn⟩ : ∃ n, l.length - k = n + 1 := ⟨l.length - k - 1, by omega⟩
  rw [hn]; unfold hopsAt; rw [List.getElem?_eq_getElem hk]; simp only [Bool.and_eq_false_iff, decide_eq_false_iff_not]; omega
theorem hops_first (l : List Int) (hk : 0 < l.length) (h : (0 : Int) ≤ l[0] ∧ l[0] ≤ (11 : Int)) : hopsAt l (l.length - 0) 0 = hopsAt l (l.length - 1) 1 := by
  obtain ⟨n, hn⟩ : ∃ n, l.length = n + 1 := ⟨l.length - 1, by omega⟩
  rw [show l.length - 1 = n by omega, show l.length - 0 = n + 1 by omega]
  conv => lhs; unfold hopsAt
  rw [List.getElem?_eq_getElem hk]; simp [h]
theorem hops_order (l : List Int) (j : Nat) (hk : j + 1 < l.length) (ho : l[j + 1] ≤ l[j]) : hopsAt l (l.length - (j + 1)) (j + 1) = false := by
  obtain ⟨n, hn⟩ : ∃ n, l.length - (j + 1) = n + 1 := ⟨l.length - (j + 1) - 1, by omega⟩
  have h1 : l[j]? = some l[j] := List.getElem?_eq_getElem (by omega)
  rw [hn]; unfold hopsAt; rw [List.getElem?_eq_getElem hk]
  simp only [h1, Bool.and_eq_false_iff, decide_eq_false_iff_not]; left; right; omega
theorem hops_next (l : List Int) (j : Nat) (hk : j + 1 < l.length) (h : 0 ≤ l[j + 1] ∧ l[j + 1] ≤ 11) (ho : l[j] < l[j + 1]) : hopsAt l (l.length - (j + 1)) (j + 1) = hopsAt l (l.length - (j + 1 + 1)) (j + 1 + 1) := by
  obtain ⟨n, hn⟩ : ∃ n, l.length - (j + 1) = n + 1 := ⟨l.length - (j + 1) - 1, by omega⟩
  rw [hn, show l.length - (j + 1 + 1) = n by omega]
  conv => lhs; unfold hopsAt
  have h1 : l[j]? = some l[j] := List.getElem?_eq_getElem (by omega)
  rw [List.getElem?_eq_getElem hk]; simp [h, ho, h1]


theorem routeForm_cases (r : Route) : (routeForm r = true ∧ prefBad r.pre = 0 ∧ 0 ≤ r.cost ∧ r.cost ≤ 1048576 ∧ ((r.here = true ∧ r.cost = 0 ∧ r.hops.length = 0) ∨ (r.here = false ∧ 0 < r.hops.length))) ∨
    (routeForm r = false ∧ (prefBad r.pre ≠ 0 ∨ (prefBad r.pre = 0 ∧ (r.cost < 0 ∨ 1048576 < r.cost)) ∨ (prefBad r.pre = 0 ∧ 0 ≤ r.cost ∧ r.cost ≤ 1048576 ∧ ((r.here = true ∧ r.cost ≠ 0) ∨ (r.here = true ∧ r.cost = 0 ∧ 0 < r.hops.length) ∨ (r.here = false ∧ r.hops.length = 0))))) := by
  unfold routeForm
  by_cases h1 : prefBad r.pre = 0
  · by_cases h2 : 0 ≤ r.cost ∧ r.cost ≤ 1048576
    · obtain ⟨h2, h3⟩ := h2
      rcases hh : r.here with _ | _
      · rcases hl : r.hops with _ | ⟨a, l⟩ <;> simp [h1, h2, h3]
      · by_cases hc : r.cost = 0
        · rcases hl : r.hops with _ | ⟨a, l⟩ <;> simp [h1, hc]
        · simp [h1, h2, h3, hc]
    · right
      refine ⟨?_, .inr (.inl ⟨h1, by omega⟩)⟩
      rw [Bool.eq_false_iff]; simp; omega
  · right
    exact ⟨by simp [h1], .inl h1⟩

def routeVal (r : Route) (v : Value) : Array Value := #[.int .i64 r.pre.addr, .int .i64 r.pre.bits, .bool r.here, .int .i64 r.cost, v]

theorem sl_one {w : World} (p : Prefix) (hw : inR p.addr ∧ inR p.bits) : Sl prefR (w.alloc (.cells #[.int .i64 p.addr, .int .i64 p.bits] 52)) (.slice (some ⟨w.heap.size, 0, none⟩) 1 1) [p] := by
  have h : SlR prefR (w.alloc (.cells [Value.int .i64 p.addr, Value.int .i64 p.bits].toArray 52)) (fun k => k < w.heap.size + 1) (.slice (some ⟨w.heap.size, 0, none⟩) 1 1) [p] := SlR.one_new ⟨rfl, hw⟩
  have e : (w.alloc (.cells #[.int .i64 p.addr, .int .i64 p.bits] 52)).heap.size = w.heap.size + 1 := by simp
  unfold Sl
  rw [e]
  exact h
end Go.Proofs.Ytbpamllmbdcdfaa
