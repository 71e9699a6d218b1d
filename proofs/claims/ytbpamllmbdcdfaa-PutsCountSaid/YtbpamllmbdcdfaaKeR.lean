/-
  Walks: slices.Contains at an entry that is not there; how long a store of raw things is.
-/
import Derived.Test.YtbpamllmbdcdfaaKeQ
import Derived.Test.YtbpamllmbdcdfaaKeC
import Derived.Test.YtbpamllmbdcdfaaKeD
namespace Go.Proofs.Ytbpamllmbdcdfaa
open Go.RowKit

theorem withE_len_le {l : List Entry} (hl : l.Pairwise ltE) (e : Entry) : (withE l e).length ≤ l.length + 1 := by
  rw [withE_len hl]; split <;> omega
theorem oneS_len {s : List Entry} (h : OkS s) (r : Raw) : (oneS s r).length ≤ s.length + 1 := by
  have := withE_len_le h.ord (rawE r)
  unfold oneS mergeStep
  split
  · split
    · exact this
    · simp
  · split
    · exact this
    · simp
theorem foldl_one_len : ∀ (l : List Raw) (s : List Entry), OkS s → (l.foldl oneS s).length ≤ s.length + l.length
  | [], _, _ => Nat.le_refl _
  | r :: l, s, h => by
    have h1 := foldl_one_len l _ (oneS_ok h r)
    have h2 := oneS_len h r
    simp only [List.foldl_cons, List.length_cons]
    omega
theorem stoS_len (l : List Raw) : (stoS l).length ≤ l.length := by
  have := foldl_one_len l [] OkS.nil
  simp only [List.length_nil, Nat.zero_add] at this
  exact this
theorem stoS_take_len (l : List Raw) (n : Nat) : (stoS (l.take n)).length ≤ n := by
  have := stoS_len (l.take n)
  rw [List.length_take] at this
  omega

set_option maxHeartbeats 1000000 in
theorem index_none (v : Value) (xs : List Entry) (y : Entry) (w : World) (h : Sl entR w v xs) (hy : y ∉ xs) :
    Calls Try.prog 99 #[v, y.val] w fun e w' => e = .returned (.int .i64 (-1)) ∧ Below w.heap.size w w' := by
  have hl := h.len_le
  have q1 := fun (x y : Entry) (w' : World) => eql_ent x y w'
  have q2 := fun a b => guard_ent .eql a b
  obtain ⟨A, c, rfl⟩ := h.form
  have hal : Below w.heap.size w (w.alloc (.cells #[.string y.key, .int .i64 y.version, .int .i64 y.origin, .string y.value] 39)) := (Below.refl _ _).alloc (Nat.le_refl _) _
  have H := Go.Lib.hid (h.below hal)
  obtain ⟨wa, hwa⟩ : ∃ wa, w.alloc (.cells #[.string y.key, .int .i64 y.version, .int .i64 y.origin, .string y.value] 39) = wa := ⟨_, rfl⟩
  have HAL := Go.Lib.hid hal
  have hne : ∀ x ∈ xs, sameE y x = false := by
    intro x hx
    rcases hs : sameE y x with _ | _
    · rfl
    · rw [sameE_iff] at hs; subst hs; exact absurd hx hy
  unfold Entry.val
  clear h hal hwa
  go_enter Try.func99, Try.ntmps99
  go_wp2_with fail
  go_loopw [5, 8] (fun _ s8 wr => ∃ k : Nat, k ≤ xs.length ∧ s8 = .int .i64 k ∧ Below (w.heap.size + 1) (w.alloc (.cells #[.string y.key, .int .i64 y.version, .int .i64 y.origin, .string y.value] 39)) wr) (fun _ s8 _ => xs.length - (intOf s8).toNat)
  case atStart => exact ⟨0, Nat.zero_le _, rfl, Below.refl _ _⟩
  case round =>
    obtain ⟨k, hk, rfl, hB⟩ := hrel
    have HB := Go.Lib.hid hB
    by_cases hlt : k < xs.length
    · obtain ⟨b1, o1, rfl, hb1⟩ := H.out.at_ hlt
      obtain ⟨f1, f2, f3, f4, _⟩ := (H.out.below (hB.mono (by simp))).ent hlt
      obtain ⟨_, hM, _, _⟩ := pastAlloc (wr := w) (hB.mono (by simp))
      have g1 := hM 0
      have g2 := hM 1
      have g3 := hM 2
      have g4 := hM 3
      have r0 : (0 : Int) ≤ (k : Int) := Int.natCast_nonneg _
      have r1 : (k : Int) < (xs.length : Int) := by omega
      have q3 := q1 y xs[k]
      rw [hne xs[k] (List.getElem_mem hlt)] at q3
      clear hB q1 hM
      go_wp2_with fail
      go_quiet (fail)
      go_wp2_with fail
      go_roundw
      case rel => exact ⟨k + 1, by omega, by go_num, bDrewN HB.out _⟩
      case measure => simp [intOf]; omega
    · clear hB
      go_wp2_with fail
      go_ret
      exact ⟨rfl, HAL.out.trans (HB.out.mono (by omega))⟩

set_option maxHeartbeats 1000000 in
theorem contains_none (v : Value) (xs : List Entry) (y : Entry) (w : World) (h : Sl entR w v xs) (hy : y ∉ xs) :
    Calls Try.prog 56 #[v, y.val] w fun e w' => e = .returned (.bool false) ∧ Below w.heap.size w w' := by
  obtain ⟨A, c, rfl⟩ := h.form
  have hal : Below w.heap.size w (w.alloc (.cells #[.string y.key, .int .i64 y.version, .int .i64 y.origin, .string y.value] 39)) := (Below.refl _ _).alloc (Nat.le_refl _) _
  have HI := Go.Lib.hid (index_none _ xs y _ (h.below hal) hy)
  have HAL := Go.Lib.hid hal
  unfold Entry.val at HI ⊢
  clear h hal
  go_enter Try.func56, Try.ntmps56
  go_wp2_with fail
  refine HI.out.mono ?_
  rintro e w1 ⟨rfl, hb1⟩
  have HB1 := Go.Lib.hid (HAL.out.trans (hb1.mono HAL.out.size))
  clear hb1
  go_wp2_with fail
  go_ret
  exact ⟨rfl, HB1.out⟩
end Go.Proofs.Ytbpamllmbdcdfaa
