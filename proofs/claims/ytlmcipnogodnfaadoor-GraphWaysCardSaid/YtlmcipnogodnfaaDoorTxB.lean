/-
  Cutting and joining as the library says it; texts of links and prefixes. Plain lemmas, no program in sight.
-/
import Derived.Test.YtlmcipnogodnfaaDoorTxA
import Derived.Test.YtlmcipnogodnfaaDoorGrA
import Derived.Test.YtlmcipnogodnfaaDoorGrB
import Derived.Lib.CountLaws
import Derived.Lib.CutLaws
namespace Go.Proofs.YtlmcipnogodnfaaDoor
open Go Go.RowKit

theorem index_no {b : UInt8} : ∀ {s : List UInt8}, b ∉ s → Lib.index s [b] = -1
  | [], _ => rfl
  | c :: r, h => by
    simp at h
    have e : List.isPrefixOf [b] (c :: r) = false := by simp [List.isPrefixOf, h.1]
    unfold Lib.index
    rw [e, index_no h.2]; rfl
theorem index_at {b : UInt8} : ∀ {a : List UInt8} (r : List UInt8), b ∉ a → Lib.index (a ++ b :: r) [b] = a.length
  | [], r, _ => by simp [Lib.index, List.isPrefixOf]
  | c :: a, r, h => by
    simp at h
    have e : List.isPrefixOf [b] (c :: (a ++ b :: r)) = false := by simp [List.isPrefixOf, h.1]
    rw [List.cons_append]
    unfold Lib.index
    rw [e, index_at r h.2]
    have : (((a.length : Nat) : Int) == -1) = false := by rw [beq_eq_false_iff_ne]; omega
    rw [this]
    simp
theorem split_first {b : UInt8} : ∀ {s : List UInt8}, b ∈ s → ∃ a r, s = a ++ b :: r ∧ b ∉ a
  | [], h => by simp at h
  | c :: s, h => by
    by_cases e : c = b
    · exact ⟨[], s, by simp [e], by simp⟩
    · have h' : b ∈ s := by
        rcases List.mem_cons.1 h with h | h
        · exact absurd h.symm e
        · exact h
      obtain ⟨a, r, rfl, ha⟩ := split_first h'
      exact ⟨c :: a, r, rfl, by simp [ha]; exact fun x => e x.symm⟩
theorem cut_eq (b : UInt8) (s : List UInt8) : Lib.cut s [b] = cutB b s := by
  by_cases h : b ∈ s
  · obtain ⟨a, r, rfl, ha⟩ := split_first h
    unfold Lib.cut
    rw [index_at r ha, cutB_at r ha, if_pos (by omega)]
    simp
  · unfold Lib.cut
    rw [index_no h, cutB_no h, if_neg (by omega)]
theorem splitK_eq (b : UInt8) : ∀ (n : Nat) (s : List UInt8), s.length < n → Lib.splitK [b] 0 (Lib.count s [b]) s = splitC b s
  | 0, s, h => by omega
  | n + 1, s, hn => by
    by_cases h : b ∈ s
    · obtain ⟨a, r, rfl, ha⟩ := split_first h
      have hr : r.length < n := by simp at hn; omega
      rw [Lib.count_hit (by simp) (index_at r ha)]
      have e : (a ++ b :: r).drop (a.length + [b].length) = r := by simp
      rw [e, splitC_at r ha, Nat.add_comm 1]
      unfold Lib.splitK
      rw [index_at r ha]
      have : (((a.length : Nat) : Int) == -1) = false := by rw [beq_eq_false_iff_ne]; omega
      rw [this, Int.toNat_natCast, e, splitK_eq b n r hr]
      simp
    · rw [Lib.count_miss (index_no h), splitC_no h]; rfl
theorem count_len (b : UInt8) : ∀ (n : Nat) (s : List UInt8), s.length < n → Lib.count s [b] + 1 = (splitC b s).length
  | 0, s, h => by omega
  | n + 1, s, hn => by
    by_cases h : b ∈ s
    · obtain ⟨a, r, rfl, ha⟩ := split_first h
      have hr : r.length < n := by simp at hn; omega
      rw [Lib.count_hit (by simp) (index_at r ha)]
      have e : (a ++ b :: r).drop (a.length + [b].length) = r := by simp
      rw [e, splitC_at r ha, List.length_cons, ← count_len b n r hr]; omega
    · rw [Lib.count_miss (index_no h), splitC_no h]; rfl
theorem countB_len (s : ByteArray) (b : UInt8) : Lib.countB s ⟨#[b]⟩ + 1 = (splitC b s.data.toList).length := count_len b _ _ (Nat.lt_succ_self _)
theorem splitB_eq (s : ByteArray) (b : UInt8) : (Lib.splitB ⟨#[b]⟩ 0 (Lib.countB s ⟨#[b]⟩) s).map (·.data.toList) = splitC b s.data.toList := by
  rw [Lib.splitB_data]
  exact splitK_eq b _ _ (Nat.lt_succ_self _)

/-- a text of bytes -/
def bOf (l : List UInt8) : ByteArray := ⟨l.toArray⟩
theorem bOf_list (l : List UInt8) : (bOf l).data.toList = l := by simp [bOf]
theorem bOf_data (s : ByteArray) : bOf s.data.toList = s := ByteArray.ext (by simp [bOf])
theorem bOf_size (l : List UInt8) : (bOf l).size = l.length := by rw [← size_toList, bOf_list]
theorem bOf_inj {l m : List UInt8} (h : bOf l = bOf m) : l = m := by rw [← bOf_list l, h, bOf_list]
theorem join_snoc (l : List (List UInt8)) (x sep : List UInt8) : Lib.join (l ++ [x]) sep = if l = [] then x else Lib.join l sep ++ sep ++ x := by
  rcases l with _ | ⟨y, l⟩
  · simp [Lib.join_one]
  · rw [if_neg (by simp), List.cons_append, Lib.join_cons, Lib.join_cons]
    simp [Lib.joinTail]

/-- one side, one prefix as text -/
def pairT (b : UInt8) (x y : Int) : List UInt8 := Lib.decDigits x.toNat ++ b :: Lib.decDigits y.toNat
def sideT (s : Side) : List UInt8 := pairT 61 s.node s.cost
def prefT (p : Prefix) : List UInt8 := pairT 47 p.addr p.bits
def adjT (d : Bool) (l : List Side) : List UInt8 := if d then 33 :: Lib.join (l.map sideT) [44] else Lib.join (l.map sideT) [44]
def prefsT (l : List Prefix) : List UInt8 := Lib.join (l.map prefT) [44]

/-- two numbers of a text, with a sign between -/
def pairD (b : UInt8) (s : List UInt8) : Option (Int × Int) :=
  if (cutB b s).2.2 = true ∧ 0 ≤ numD 100000 (cutB b s).1 ∧ 0 ≤ numD 100000 (cutB b s).2.1 then some (numD 100000 (cutB b s).1, numD 100000 (cutB b s).2.1) else none
/-- .. of each part -/
def pairsD (b : UInt8) : List (List UInt8) → Option (List (Int × Int))
  | [] => some []
  | p :: r => match pairD b p with
    | none => none
    | some x => match pairsD b r with
      | none => none
      | some l => some (x :: l)
theorem pairsD_snoc (b : UInt8) : ∀ (l : List (List UInt8)) (p : List UInt8), pairsD b (l ++ [p]) = match pairsD b l with
    | none => none
    | some a => match pairD b p with
      | none => none
      | some x => some (a ++ [x])
  | [], p => by
    rw [List.nil_append]
    unfold pairsD
    rcases pairD b p with _ | x <;> rfl
  | q :: l, p => by
    rw [List.cons_append]
    unfold pairsD
    rcases pairD b q with _ | y
    · rfl
    · simp only
      rw [pairsD_snoc b l p]
      rcases pairsD b l with _ | a
      · rfl
      · simp only
        rcases pairD b p with _ | x <;> rfl
theorem pairsD_fail (b : UInt8) : ∀ {l : List (List UInt8)} {k : Nat} {p : List UInt8}, l[k]? = some p → pairD b p = none → pairsD b l = none
  | [], k, p, h, _ => by simp at h
  | q :: l, 0, p, h, hp => by
    simp at h; subst h
    unfold pairsD; rw [hp]
  | q :: l, k + 1, p, h, hp => by
    unfold pairsD
    rw [pairsD_fail b (l := l) (k := k) (by simpa using h) hp]
    split <;> rfl
theorem pairsD_len (b : UInt8) : ∀ {l : List (List UInt8)} {a : List (Int × Int)}, pairsD b l = some a → a.length = l.length
  | [], a, h => by simp [pairsD] at h; subst h; rfl
  | q :: l, a, h => by
    unfold pairsD at h
    rcases hq : pairD b q with _ | y
    · rw [hq] at h; cases h
    · rcases hl : pairsD b l with _ | m
      · rw [hq, hl] at h; cases h
      · rw [hq, hl] at h; simp at h; subst h
        simp [pairsD_len b hl]
theorem num_le (most : Int) (h : -1 ≤ most) (s : List UInt8) : -1 ≤ numD most s ∧ numD most s ≤ most := by
  by_cases h0 : 0 ≤ numD most s
  · obtain ⟨n, _, hn, he⟩ := num_inv h0
    omega
  · rw [num_neg h0]; omega
theorem pairD_bounds {b : UInt8} {s : List UInt8} {x : Int × Int} (h : pairD b s = some x) : 0 ≤ x.1 ∧ x.1 ≤ 100000 ∧ 0 ≤ x.2 ∧ x.2 ≤ 100000 := by
  unfold pairD at h
  split at h
  · rename_i hc
    injection h with h; subst h
    exact ⟨hc.2.1, (num_le 100000 (by omega) _).2, hc.2.2, (num_le 100000 (by omega) _).2⟩
  · cases h

/-- what a text says, where it may be; else what is wrong -/
def readAdj (s : List UInt8) : Bool × List Side × Int :=
  match pairsD 61 (partsC (Lib.trimPrefix s [33])) with
  | none => (false, [], 4)
  | some l => if chkSides (l.map fun x => ⟨x.1, x.2⟩) = 0 then (Lib.hasPrefix s [33], l.map fun x => ⟨x.1, x.2⟩, 0) else (false, [], chkSides (l.map fun x => ⟨x.1, x.2⟩))
def readPrefs (s : List UInt8) : List Prefix × Int :=
  match pairsD 47 (partsC s) with
  | none => ([], 4)
  | some l => if chkPrefs (l.map fun x => ⟨x.1, x.2⟩) = 0 then (l.map fun x => ⟨x.1, x.2⟩, 0) else ([], chkPrefs (l.map fun x => ⟨x.1, x.2⟩))
end Go.Proofs.YtlmcipnogodnfaaDoor
