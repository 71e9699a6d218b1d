/-
  The ways that are found step by step are the ones that the rounds find. Plain lemmas, no program in sight.
-/
import Derived.Test.YtlmcipnogodnfaaDoorWaE
import Derived.Test.YtlmcipnogodnfaaDoorDoM
namespace Go.Proofs.YtlmcipnogodnfaaDoor
open Go

/-- the numbers of the bits set -/
def bitsTo (h : Nat) : Nat → List Int
  | 0 => []
  | k + 1 => if h.testBit k = true then bitsTo h k ++ [(k : Int)] else bitsTo h k
def costW (st : Ds) (q : Nat) : Int := if gI st.cost q ≤ 1048576 then gI st.cost q else -1
def outW (st : Ds) (q : Nat) : Way := ⟨costW st q, bitsTo (gN st.hops q) 12⟩
theorem bitsTo_len (h : Nat) : ∀ k, (bitsTo h k).length ≤ k
  | 0 => Nat.le_refl _
  | k + 1 => by
    have := bitsTo_len h k
    unfold bitsTo
    split
    · simp; omega
    · omega
theorem bits_zero_list : ∀ k, bitsTo 0 k = []
  | 0 => rfl
  | k + 1 => by unfold bitsTo; rw [if_neg (by simp)]; exact bits_zero_list k
theorem Pth.same {C : Nat → Nat → Nat} {D : Nat → Bool} {s : Nat} {F G : Nat → Prop} (h : ∀ k, F k ↔ G k) {i c : Nat} : Pth C D s F i c ↔ Pth C D s G i c :=
  ⟨Pth.mono fun k => (h k).1, Pth.mono fun k => (h k).2⟩
theorem fst_all (k : Nat) : fstF (-1) k = true ↔ True := by unfold fstF; simp
theorem fst_one (j k : Nat) : fstF (j : Int) k = true ↔ k = j := by
  unfold fstF
  simp only [Bool.or_eq_true, decide_eq_true_eq]
  omega
theorem ways_agree {xs : List Entry} {s : Nat} (hs : s < 12) {C : Nat → Nat → Nat} {D : Nat → Bool} (hC : ∀ a b, C a b = linkC xs a b) (hD : ∀ a, D a = (adjAt xs a).1) {R : Nat → Nat → Prop} {st : Ds} (h : Inv C D s R st) (hv : Cov C D s 0 12 R st) (hl : st.heap = []) {q : Nat} (hq : q < 12) :
    outW st q = wayTo xs s q := by
  obtain rfl : C = linkC xs := by funext a b; exact hC a b
  obtain rfl : D = fun a => (adjAt xs a).1 := by funext a; exact hD a
  unfold wayTo outW
  by_cases hqs : q = s
  · subst hqs
    rw [if_pos rfl]
    unfold costW
    rw [h.cs, h.hs, bits_zero_list]; rfl
  · rw [if_neg hqs]
    have hr := rounds_find (C := linkC xs) (D := fun a => (adjAt xs a).1) (s := s) (F := fstF (-1)) q
    have hall : ∀ c, Pth (linkC xs) (fun a => (adjAt xs a).1) s (fun k => fstF (-1) k = true) q c ↔ Pth (linkC xs) (fun a => (adjAt xs a).1) s (fun _ => True) q c := fun c => Pth.same fst_all
    have hst := steps_find (fun a b => linkC_le xs a b) h hv hs hl hq hqs
    have hco : costTo xs s q = gI (rnds (linkC xs) (fun a => (adjAt xs a).1) s (iniB (linkC xs) s (fstF (-1))) 12) q := rfl
    rcases hst with ⟨e1, e2, e3⟩ | ⟨m, e1, e2, e3, e4⟩
    · have hc : costTo xs s q = -1 := by
        rcases hr with ⟨r1, _⟩ | ⟨m, _, r2⟩
        · rw [hco, r1]
        · exact absurd ((hall _).1 r2.1) (e3 m)
      unfold costW hopsFor
      rw [e1, e2, hc, bits_zero_list, if_neg (by omega), if_pos (by omega)]
    · have hc : costTo xs s q = m := by
        rcases hr with ⟨_, r1⟩ | ⟨m', r1, r2⟩
        · exact absurd ((hall _).2 e3.1) (r1 m)
        · have : m' = m := Mn.uniq ⟨(hall _).1 r2.1, fun c hc => r2.2 c ((hall c).2 hc)⟩ e3
          rw [hco, r1, this]
      have hbit : ∀ k, (gN st.hops q).testBit k = true ↔ gI (best xs s (k : Int) 12) q = m := by
        intro k
        rw [e4 k]
        have hone : ∀ c, Pth (linkC xs) (fun a => (adjAt xs a).1) s (fun i => fstF (k : Int) i = true) q c ↔ Pth (linkC xs) (fun a => (adjAt xs a).1) s (· = k) q c := fun c => Pth.same (fst_one k)
        have hb : best xs s (k : Int) 12 = rnds (linkC xs) (fun a => (adjAt xs a).1) s (iniB (linkC xs) s (fstF (k : Int))) 12 := rfl
        rw [hb]
        rcases rounds_find (C := linkC xs) (D := fun a => (adjAt xs a).1) (s := s) (F := fstF (k : Int)) q with ⟨r1, r2⟩ | ⟨m', r1, r2⟩
        · rw [r1]
          constructor
          · intro hp; exact absurd ((hone _).2 hp) (r2 m)
          · intro e; omega
        · rw [r1]
          constructor
          · intro hp
            have h1 := r2.2 m ((hone m).2 hp)
            have h2 := e3.2 m' (Pth.mono (fun _ _ => trivial) r2.1)
            omega
          · intro e
            have : m' = m := by omega
            rw [← this]; exact (hone _).1 r2.1
      have hh : ∀ k, bitsTo (gN st.hops q) k = hopsTo xs s q m k := by
        intro k
        induction k with
        | zero => rfl
        | succ k ih =>
          unfold bitsTo hopsTo
          rw [ih]
          by_cases e : gI (best xs s (k : Int) 12) q = m
          · rw [if_pos e, if_pos ((hbit k).2 e)]
          · rw [if_neg e, if_neg (fun x => e ((hbit k).1 x))]
      unfold costW hopsFor
      rw [e1, hc, hh, if_pos (by omega), if_neg (by omega)]
end Go.Proofs.YtlmcipnogodnfaaDoor
