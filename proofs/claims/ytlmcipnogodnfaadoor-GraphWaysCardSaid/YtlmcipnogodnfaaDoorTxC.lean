/-
  What may be told is short: lengths of the texts of links and prefixes. Plain lemmas, no program in sight.
-/
import Derived.Test.YtlmcipnogodnfaaDoorTxB
namespace Go.Proofs.YtlmcipnogodnfaaDoor
open Go Go.RowKit

section
variable {α : Type} {bad : α → Int} {ord : α → α → Bool}
theorem sc_zero (l : List α) : ∀ (n k : Nat), seqChk bad ord l n k = 0 → k + n = l.length → ∀ i, k ≤ i → (h : i < l.length) → bad l[i] = 0 ∧ (∀ j, (hj : j + 1 = i) → ord (l[j]'(by omega)) l[i] = true)
  | 0, k, _, hk, i, hi, h => by omega
  | n + 1, k, hs, hk, i, hi, h => by
    have hlt : k < l.length := by omega
    have hb : bad l[k] = 0 := by
      rcases Classical.em (bad l[k] = 0) with e | e
      · exact e
      · have := sc_bad (bad := bad) (ord := ord) l k hlt e
        rw [show l.length - k = n + 1 by omega, hs] at this
        exact absurd this.symm e
    have hnext : seqChk bad ord l n (k + 1) = 0 ∧ ∀ j, (hj : j + 1 = k) → ord (l[j]'(by omega)) l[k] = true := by
      rcases Nat.eq_zero_or_pos k with h0 | h0
      · subst h0
        have := sc_first (bad := bad) (ord := ord) l hlt hb
        rw [show l.length - 0 = n + 1 by omega, hs, show l.length - 1 = n by omega] at this
        exact ⟨this.symm, fun j hj => by omega⟩
      · obtain ⟨m, rfl⟩ : ∃ m, k = m + 1 := ⟨k - 1, by omega⟩
        rcases ho : ord l[m] l[m + 1] with _ | _
        · have := sc_order (bad := bad) (ord := ord) l m hlt hb ho
          rw [show l.length - (m + 1) = n + 1 by omega, hs] at this
          cases this
        · have := sc_next (bad := bad) (ord := ord) l m hlt hb ho
          rw [show l.length - (m + 1) = n + 1 by omega, hs, show l.length - (m + 1 + 1) = n by omega] at this
          refine ⟨this.symm, fun j hj => ?_⟩
          obtain rfl : j = m := by omega
          exact ho
    rcases Nat.lt_or_ge k i with hki | hki
    · exact sc_zero l n (k + 1) hnext.1 (by omega) i hki h
    · obtain rfl : i = k := by omega
      exact ⟨hb, hnext.2⟩
end
theorem sides_all {l : List Side} (h : chkSides l = 0) : ∀ i, (hi : i < l.length) → 0 ≤ l[i].node ∧ l[i].node ≤ 11 ∧ 1 ≤ l[i].cost ∧ l[i].cost ≤ 1000 := by
  intro i hi
  have h1 := (sc_zero l (l.length - 0) 0 h (by omega) i (Nat.zero_le _) hi).1
  unfold sideBad at h1
  split at h1
  · assumption
  · cases h1
theorem sides_ord {l : List Side} (h : chkSides l = 0) : ∀ i, (hi : i + 1 < l.length) → l[i].node < l[i + 1].node := by
  intro i hi
  have h1 := (sc_zero l (l.length - 0) 0 h (by omega) (i + 1) (Nat.zero_le _) hi).2 i rfl
  unfold sideOrd at h1
  exact of_decide_eq_true h1
theorem sides_node {l : List Side} (h : chkSides l = 0) : ∀ (i : Nat) (hi : i < l.length), (i : Int) ≤ l[i].node
  | 0, hi => (sides_all h 0 hi).1
  | i + 1, hi => by
    have h1 := sides_node h i (by omega)
    have h2 := sides_ord h i hi
    omega
theorem sides_len {l : List Side} (h : chkSides l = 0) : l.length ≤ 12 := by
  rcases Nat.lt_or_ge 12 l.length with h1 | h1
  · have h2 := sides_node h 12 h1
    have h3 := (sides_all h 12 h1).2.1
    omega
  · exact h1
theorem prefs_len {l : List Prefix} (h : chkPrefs l = 0) : l.length ≤ 6 := by
  unfold chkPrefs at h
  split at h
  · cases h
  · omega
theorem prefs_all {l : List Prefix} (h : chkPrefs l = 0) : ∀ i, (hi : i < l.length) → 0 ≤ l[i].bits ∧ l[i].bits ≤ 8 ∧ 0 ≤ l[i].addr ∧ l[i].addr ≤ 255 := by
  intro i hi
  have h0 := prefs_len h
  unfold chkPrefs at h
  rw [if_neg (by omega)] at h
  have h1 := (sc_zero l (l.length - 0) 0 h (by omega) i (Nat.zero_le _) hi).1
  unfold prefBad at h1
  split at h1
  · assumption
  · cases h1

theorem join_len (m : Nat) : ∀ l : List (List UInt8), (∀ x ∈ l, x.length ≤ m) → (Lib.join l [44]).length ≤ l.length * (m + 1)
  | [], _ => by simp [Lib.join_nil]
  | [x], h => by rw [Lib.join_one]; have := h x (by simp); simp; omega
  | x :: y :: l, h => by
    have e : Lib.join (x :: y :: l) [44] = x ++ 44 :: Lib.join (y :: l) [44] := by simp [Lib.join, List.intercalate]
    have h1 := join_len m (y :: l) (fun z hz => h z (by simp [hz]))
    have h2 := h x (by simp)
    rw [e, List.length_append, List.length_cons, List.length_cons, Nat.succ_mul]
    omega
theorem pair_len (b : UInt8) (x y : Int) (hx : 0 ≤ x) (hx2 : x ≤ 1000) (hy : 0 ≤ y) (hy2 : y ≤ 1000) : (pairT b x y).length ≤ 20 := by
  unfold pairT
  have h1 := dec_len 4 x.toNat (by omega)
  have h2 := dec_len 4 y.toNat (by omega)
  simp; omega
theorem itoa_pos {n : Int} (h : 0 ≤ n) : Lib.itoa n = Lib.decDigits n.toNat := by
  obtain ⟨m, rfl⟩ := Int.eq_ofNat_of_zero_le h
  rw [itoa_nat]; rfl
/-- a pair's text, put together -/
theorem pair_cat (b : UInt8) (x y : Int) : bOf (Lib.decDigits x.toNat) ++ ⟨#[b]⟩ ++ bOf (Lib.decDigits y.toNat) = bOf (pairT b x y) := by
  unfold pairT bOf
  rw [Go.ByteArray.mk_append_mk (Lib.decDigits x.toNat) [b], Go.ByteArray.mk_append_mk]
  simp
/-- the text of the first k -/
def adjTo (l : List (List UInt8)) (k : Nat) : List UInt8 := Lib.join (l.take k) [44]
theorem adjTo_first {l : List (List UInt8)} (h : 0 < l.length) : adjTo l 1 = l[0] := by
  unfold adjTo
  rw [List.take_succ_eq_append_getElem h]; simp [Lib.join_one]
theorem adjTo_next {l : List (List UInt8)} {k : Nat} (hk : 0 < k) (h : k < l.length) : adjTo l (k + 1) = adjTo l k ++ [44] ++ l[k] := by
  unfold adjTo
  rw [List.take_succ_eq_append_getElem h, join_snoc, if_neg (by intro e; have := congrArg List.length e; rw [List.length_take, List.length_nil] at this; omega)]
theorem adjTo_all (l : List (List UInt8)) {k : Nat} (h : l.length ≤ k) : adjTo l k = Lib.join l [44] := by
  unfold adjTo; rw [List.take_of_length_le h]
end Go.Proofs.YtlmcipnogodnfaaDoor
