/-
  All that a store tells, in cells of its own; the ways of a good store.
-/
import Derived.Test.YtcbkimbeljhbhaaGreatDoorGKtA
set_option linter.unusedVariables false
set_option linter.unusedSimpArgs false
namespace Go.Proofs.YtcbkimbeljhbhaaGreatDoor
open Go Go.RowKit Go.Deep

structure NetC (w : World) (N : Nat) (xs : List Entry) : Prop where
  cost : ∀ a b, a < 12 → b < 12 → w.cell? ⟨N, a * 12 + b, none⟩ = some (.int .i64 (linkC xs a b : Nat))
  drn : ∀ a, a < 12 → w.cell? ⟨N, 144 + a, none⟩ = some (.bool (adjAt xs a).1)
  prf : ∀ a, a < 12 → ∃ v, w.cell? ⟨N, 156 + a, none⟩ = some v ∧ Sl prefR w v (prefsAt xs a)
  lt : N < w.heap.size
theorem NetC.below {w w' : World} {N : Nat} {xs : List Entry} (h : NetC w N xs) (hb : Below w.heap.size w w') : NetC w' N xs :=
  ⟨fun a b ha hb' => cell_keep hb (h.cost a b ha hb'), fun a ha => cell_keep hb (h.drn a ha), fun a ha => by obtain ⟨v, h1, h2⟩ := h.prf a ha; exact ⟨v, cell_keep hb h1, h2.below hb⟩, Nat.lt_of_lt_of_le h.lt hb.size⟩
theorem NetV.laid {w : World} {cs : List Value} {xs : List Entry} (h : NetV w cs xs) : NetC ((w.alloc (.cells Tryz.zeroCells44 44)).setCells w.heap.size 0 cs) w.heap.size xs ∧ Below w.heap.size w ((w.alloc (.cells Tryz.zeroCells44 44)).setCells w.heap.size 0 cs) ∧
    (w.alloc (.cells Tryz.zeroCells44 44)).there w.heap.size 0 cs.toArray.size ∧ (Tryz.prog.info? 44).map (·.size) = some cs.toArray.size := by
  have hth := net_there (w := w) rfl 44
  have hs : cs.toArray.size = 168 := by rw [List.size_toArray, h.len]
  have hr := World.rangeAt_setCells_same (w.alloc (.cells Tryz.zeroCells44 44)) w.heap.size 0 cs (by rw [h.len]; exact hth)
  have hb : Below w.heap.size w ((w.alloc (.cells Tryz.zeroCells44 44)).setCells w.heap.size 0 cs) := below_setCells ((Below.refl _ _).alloc (Nat.le_refl _) _) (Nat.le_refl _) _ _
  have hc : ∀ i v, cs[i]? = some v → ((w.alloc (.cells Tryz.zeroCells44 44)).setCells w.heap.size 0 cs).cell? ⟨w.heap.size, i, none⟩ = some v := fun i v hv => by have := hr i v hv; rw [Nat.zero_add] at this; exact this
  refine ⟨⟨fun a b ha hb => hc _ _ (h.cost a b ha hb), fun a ha => hc _ _ (h.drn a ha), fun a ha => ?_, by rw [size_setCellsK]; simp⟩, hb, by rw [hs]; exact hth, by rw [hs]; kernel_rfl⟩
  obtain ⟨v, h1, h2⟩ := h.prf a ha
  exact ⟨v, hc _ _ h1, h2.below hb⟩
theorem ways_good {m : List Entry} (h : OkS m) {s : Nat} (hs : s < 12) : waysS m (s : Int) = (waysTo m s 12, 0) := by
  unfold waysS
  rw [if_neg (by rw [h.check]; simp), if_pos (by simp; omega)]
  rfl
/-- the way to a node, in cells -/
theorem way_at {w : World} {A : Option Addr} {c n : Nat} {m : List Entry} {s : Nat} (h : Sl wayR w (.slice A n c) (waysTo m s 12)) {k : Nat} (hk : k < 12) :
    ∃ b off, A = some ⟨b, off, none⟩ ∧ b < w.heap.size ∧ ∃ v, w.cell? ⟨b, off + k * 2, none⟩ = some (.int .i64 (wayTo m s k).cost) ∧ w.cell? ⟨b, off + k * 2 + 1, none⟩ = some v ∧ Sl intR w v (wayTo m s k).hops := by
  have hl : (waysTo m s 12).length = 12 := waysTo_len m s 12
  obtain ⟨b, off, rfl, hb⟩ := h.at_ (show k < (waysTo m s 12).length by omega)
  obtain ⟨v, g1, g2, g3, _⟩ := h.way (show k < (waysTo m s 12).length by omega)
  have he : (waysTo m s 12)[k]'(by omega) = wayTo m s k := by simp [waysTo]
  rw [he] at g1 g3
  exact ⟨b, off, rfl, hb, v, g1, g2, g3⟩
end Go.Proofs.YtcbkimbeljhbhaaGreatDoor
