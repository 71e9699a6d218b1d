/-
  A step looked at, by cases; numbers as sets of bits. Plain lemmas, no program in sight.
-/
import Derived.Test.YtcbkimbeljhbhaaGreatDoorGWaF
import Derived.Laws.Bits64b
set_option linter.unusedVariables false
set_option linter.unusedSimpArgs false
namespace Go.Proofs.YtcbkimbeljhbhaaGreatDoor
open Go

theorem edge_no {C : Nat → Nat → Nat} {s n k : Nat} {st : Ds} (h : C n k = 0 ∨ 1048576 < gI st.cost n + C n k ∨ k = s) : edge C s n st k = st := by
  unfold edge; rw [if_pos h]
theorem edge_set {C : Nat → Nat → Nat} {s n k : Nat} {st : Ds} (h : ¬ (C n k = 0 ∨ 1048576 < gI st.cost n + C n k ∨ k = s)) (h1 : gI st.cost n + C n k < gI st.cost k) :
    edge C s n st k = { cost := st.cost.set k (gI st.cost n + C n k), hops := st.hops.set k (fstH s n k st), done := st.done, heap := pushS st.heap ⟨k, gI st.cost n + C n k⟩ } := by
  unfold edge; rw [if_neg h, if_pos h1]
theorem edge_or {C : Nat → Nat → Nat} {s n k : Nat} {st : Ds} (h : ¬ (C n k = 0 ∨ 1048576 < gI st.cost n + C n k ∨ k = s)) (h1 : gI st.cost n + C n k = gI st.cost k) :
    edge C s n st k = { st with hops := st.hops.set k (gN st.hops k ||| fstH s n k st) } := by
  unfold edge; rw [if_neg h, if_neg (by omega), if_pos h1]
theorem edge_skip {C : Nat → Nat → Nat} {s n k : Nat} {st : Ds} (h1 : gI st.cost k < gI st.cost n + C n k) : edge C s n st k = st := by
  unfold edge
  split
  · rfl
  · rw [if_neg (by omega), if_neg (by omega)]
theorem Inv.hi {C : Nat → Nat → Nat} {D : Nat → Bool} {s : Nat} {R : Nat → Nat → Prop} {st : Ds} (h : Inv C D s R st) {i : Nat} (hi : i < 12) : gI st.cost i ≤ 1048577 := by
  by_cases e : i = s
  · subst e; rw [h.cs]; omega
  · rcases h.snd i hi e with ⟨h1, _⟩ | ⟨_, h1, _⟩
    · omega
    · omega
theorem fst_lt {C : Nat → Nat → Nat} {D : Nat → Bool} {s n k : Nat} {R : Nat → Nat → Prop} {st : Ds} (h : Inv C D s R st) (hk : k < 12) : fstH s n k st < 4096 := by
  unfold fstH
  split
  · exact Nat.lt_of_lt_of_le (Nat.pow_lt_pow_right (by omega) hk) (by decide)
  · exact h.h12 n
theorem or_i64 (a b : Nat) (ha : a < 4096) (hb : b < 4096) : bits .or .i64 (a : Int) (b : Int) = ((a ||| b : Nat) : Int) := by
  have hx : a ||| b < 2 ^ 12 := Nat.or_lt_two_pow (by omega) (by omega)
  have h1 : (BitVec.ofInt 64 (a : Int)).toNat = a := by
    rw [BitVec.ofInt_natCast, BitVec.toNat_ofNat]; exact Nat.mod_eq_of_lt (by omega)
  have h2 : (BitVec.ofInt 64 (b : Int)).toNat = b := by
    rw [BitVec.ofInt_natCast, BitVec.toNat_ofNat]; exact Nat.mod_eq_of_lt (by omega)
  show IntKind.i64.wrap ((BitVec.ofInt 64 (a : Int) ||| BitVec.ofInt 64 (b : Int)).toNat : Int) = _
  rw [BitVec.toNat_or, h1, h2, IntKind.wrap_i64]
  omega
theorem and1_i64 (a : Nat) (ha : a < 4096) : bits .and .i64 (a : Int) 1 = ((a % 2 : Nat) : Int) := by
  have h1 : (BitVec.ofInt 64 (a : Int)).toNat = a := by
    rw [BitVec.ofInt_natCast, BitVec.toNat_ofNat]; exact Nat.mod_eq_of_lt (by omega)
  have h2 : (BitVec.ofInt 64 (1 : Int)).toNat = 1 := by decide
  show IntKind.i64.wrap ((BitVec.ofInt 64 (a : Int) &&& BitVec.ofInt 64 (1 : Int)).toNat : Int) = _
  rw [BitVec.toNat_and, h1, h2, Nat.and_one_is_mod, IntKind.wrap_i64]
  omega
theorem pow_i64 {k : Nat} (hk : k < 12) : IntKind.i64.wrap ((2 : Int) ^ k) = ((2 ^ k : Nat) : Int) := by
  have h1 : (2 : Nat) ^ k < 4096 := Nat.lt_of_lt_of_le (Nat.pow_lt_pow_right (by omega) hk) (by decide)
  have h2 : ((2 : Int) ^ k) = ((2 ^ k : Nat) : Int) := by rw [Int.natCast_pow]; rfl
  rw [h2, IntKind.wrap_i64]
  generalize 2 ^ k = m at h1 ⊢
  omega
/-- the k-th bit, shifted down -/
theorem shr_bit (f k : Nat) : (f : Int) / 2 ^ k = ((f / 2 ^ k : Nat) : Int) := by
  have h2 : ((2 : Int) ^ k) = ((2 ^ k : Nat) : Int) := by rw [Int.natCast_pow]; rfl
  rw [h2, Int.natCast_ediv]
theorem bit_mod (f k : Nat) : f.testBit k = true ↔ f / 2 ^ k % 2 = 1 := by
  rw [Nat.testBit_eq_decide_div_mod_eq]; simp
theorem div_lt (f k : Nat) (hf : f < 4096) : f / 2 ^ k < 4096 := Nat.lt_of_le_of_lt (Nat.div_le_self _ _) hf
theorem bitsTo_yes {f k : Nat} (h : f / 2 ^ k % 2 = 1) : bitsTo f (k + 1) = bitsTo f k ++ [(k : Int)] := by
  show (if f.testBit k = true then _ else _) = _
  rw [if_pos ((bit_mod f k).2 h)]
theorem bitsTo_no {f k : Nat} (h : ¬ f / 2 ^ k % 2 = 1) : bitsTo f (k + 1) = bitsTo f k := by
  show (if f.testBit k = true then _ else _) = _
  rw [if_neg (fun e => h ((bit_mod f k).1 e))]
end Go.Proofs.YtcbkimbeljhbhaaGreatDoor
