/-
  Links and prefixes that are drawn: they may be told. Plain lemmas, no program in sight.
-/
import Derived.Test.YtlmcipnogodnfaaDoorTxD
import Derived.Test.YtlmcipnogodnfaaDoorPik
namespace Go.Proofs.YtlmcipnogodnfaaDoor
open Go Go.RowKit

section
variable {α : Type} {bad : α → Int} {ord : α → α → Bool}
theorem sc_ok (l : List α) (h1 : ∀ x ∈ l, bad x = 0) (h2 : l.Pairwise fun a b => ord a b = true) : ∀ (n k : Nat), k + n = l.length → seqChk bad ord l n k = 0
  | 0, k, h => sc_end l k (by omega) 0
  | n + 1, k, h => by
    have hk : k < l.length := by omega
    have hb := h1 l[k] (List.getElem_mem hk)
    rcases Nat.eq_zero_or_pos k with h0 | h0
    · subst h0
      have := sc_first (bad := bad) (ord := ord) l hk hb
      rw [show l.length - 0 = n + 1 by omega, show l.length - 1 = n by omega] at this
      rw [this]; exact sc_ok l h1 h2 n 1 (by omega)
    · obtain ⟨m, rfl⟩ : ∃ m, k = m + 1 := ⟨k - 1, by omega⟩
      have ho := List.pairwise_iff_getElem.1 h2 m (m + 1) (by omega) hk (by omega)
      have := sc_next (bad := bad) (ord := ord) l m hk hb ho
      rw [show l.length - (m + 1) = n + 1 by omega, show l.length - (m + 1 + 1) = n by omega] at this
      rw [this]; exact sc_ok l h1 h2 n (m + 1 + 1) (by omega)
end

/-- the links drawn of the first k -/
def sidesK (xs : List Raw) : Nat → List Side
  | 0 => []
  | k + 1 => match xs[k]? with
    | none => sidesK xs k
    | some r => if pickN r.a 2 = 0 then sidesK xs k ++ [⟨k, 1 + (pickN r.b 1000 : Nat)⟩] else sidesK xs k
theorem sidesK_yes {xs : List Raw} {k : Nat} (hk : k < xs.length) (h : pickN xs[k].a 2 = 0) : sidesK xs (k + 1) = sidesK xs k ++ [⟨k, 1 + (pickN xs[k].b 1000 : Nat)⟩] := by
  conv => lhs; unfold sidesK
  rw [List.getElem?_eq_getElem hk]; simp only; rw [if_pos h]
theorem sidesK_no {xs : List Raw} {k : Nat} (hk : k < xs.length) (h : pickN xs[k].a 2 ≠ 0) : sidesK xs (k + 1) = sidesK xs k := by
  conv => lhs; unfold sidesK
  rw [List.getElem?_eq_getElem hk]; simp only; rw [if_neg h]
theorem sidesK_ok (xs : List Raw) : ∀ k, (∀ x ∈ sidesK xs k, 0 ≤ x.node ∧ x.node < k ∧ 1 ≤ x.cost ∧ x.cost ≤ 1000) ∧ (sidesK xs k).Pairwise (fun a b => sideOrd a b = true) ∧ (sidesK xs k).length ≤ k
  | 0 => ⟨by simp [sidesK], by simp [sidesK], by simp [sidesK]⟩
  | k + 1 => by
    obtain ⟨h1, h2, h3⟩ := sidesK_ok xs k
    have hw : (∀ x ∈ sidesK xs k, 0 ≤ x.node ∧ x.node < ((k + 1 : Nat) : Int) ∧ 1 ≤ x.cost ∧ x.cost ≤ 1000) := fun x hx => by
      obtain ⟨a, b, c, d⟩ := h1 x hx
      exact ⟨a, by omega, c, d⟩
    unfold sidesK
    split
    · exact ⟨hw, h2, by omega⟩
    · rename_i r _
      split
      · have hp := pickN_lt r.b 1000 (by omega)
        refine ⟨fun x hx => ?_, ?_, by simp; omega⟩
        · rcases List.mem_append.1 hx with hx | hx
          · exact hw x hx
          · rw [List.mem_singleton] at hx; subst hx
            exact ⟨by show (0 : Int) ≤ (k : Int); omega, by show (k : Int) < _; omega, by show (1 : Int) ≤ 1 + _; omega, by show (1 : Int) + _ ≤ 1000; omega⟩
        · rw [List.pairwise_append]
          refine ⟨h2, by simp, fun a ha b hb => ?_⟩
          rw [List.mem_singleton] at hb; subst hb
          have := (h1 a ha).2.1
          unfold sideOrd; rw [decide_eq_true_iff]; exact this
      · exact ⟨hw, h2, by omega⟩
theorem sidesK_chk (xs : List Raw) {k : Nat} (hk : k ≤ 12) : chkSides (sidesK xs k) = 0 := by
  obtain ⟨h1, h2, _⟩ := sidesK_ok xs k
  unfold chkSides
  refine sc_ok _ (fun x hx => ?_) h2 _ 0 (by omega)
  obtain ⟨a, b, c, d⟩ := h1 x hx
  unfold sideBad; rw [if_pos ⟨a, by omega, c, d⟩]
/-- the prefixes drawn of the first k -/
def prefsK (xs : List Raw) : Nat → List Prefix
  | 0 => []
  | k + 1 => match xs[k]? with
    | none => prefsK xs k
    | some r => prefsK xs k ++ [⟨32 * (k : Nat), 3 + (pickN r.c 6 : Nat)⟩]
theorem prefsK_yes {xs : List Raw} {k : Nat} (hk : k < xs.length) : prefsK xs (k + 1) = prefsK xs k ++ [⟨32 * (k : Nat), 3 + (pickN xs[k].c 6 : Nat)⟩] := by
  conv => lhs; unfold prefsK
  rw [List.getElem?_eq_getElem hk]
theorem span32 : ∀ b, b < 6 → ∀ i : Nat, i < 6 → (32 * (i : Int)) % spanN (3 + (b : Nat)) = 0 := by decide
theorem prefsK_ok (xs : List Raw) : ∀ k, k ≤ 6 → (∀ x ∈ prefsK xs k, prefBad x = 0 ∧ x.addr < 32 * (k : Int)) ∧ (prefsK xs k).Pairwise (fun a b => prefOrd a b = true) ∧ (prefsK xs k).length ≤ k
  | 0, _ => ⟨by simp [prefsK], by simp [prefsK], by simp [prefsK]⟩
  | k + 1, hk => by
    obtain ⟨h1, h2, h3⟩ := prefsK_ok xs k (by omega)
    unfold prefsK
    split
    · exact ⟨fun x hx => ⟨(h1 x hx).1, by have := (h1 x hx).2; omega⟩, h2, by omega⟩
    · rename_i r _
      have hp := pickN_lt r.c 6 (by omega)
      refine ⟨fun x hx => ?_, ?_, by simp; omega⟩
      · rcases List.mem_append.1 hx with hx | hx
        · exact ⟨(h1 x hx).1, by have := (h1 x hx).2; omega⟩
        · rw [List.mem_singleton] at hx; subst hx
          refine ⟨?_, by show 32 * ((k : Nat) : Int) < _; omega⟩
          unfold prefBad
          rw [if_pos (by show 0 ≤ 3 + ((pickN r.c 6 : Nat) : Int) ∧ 3 + ((pickN r.c 6 : Nat) : Int) ≤ 8 ∧ 0 ≤ 32 * ((k : Nat) : Int) ∧ 32 * ((k : Nat) : Int) ≤ 255; omega)]
          exact if_pos (span32 _ hp k (by omega))
      · rw [List.pairwise_append]
        refine ⟨h2, by simp, fun a ha b hb => ?_⟩
        rw [List.mem_singleton] at hb; subst hb
        have := (h1 a ha).2
        rw [prefOrd_iff]; left; exact this
theorem prefsK_chk (xs : List Raw) {k : Nat} (hk : k ≤ 6) : chkPrefs (prefsK xs k) = 0 := by
  obtain ⟨h1, h2, h3⟩ := prefsK_ok xs k hk
  unfold chkPrefs
  rw [if_neg (by omega)]
  exact sc_ok _ (fun x hx => (h1 x hx).1) h2 _ 0 (by omega)
end Go.Proofs.YtlmcipnogodnfaaDoor
