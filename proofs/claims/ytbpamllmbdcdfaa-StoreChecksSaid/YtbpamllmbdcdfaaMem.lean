/-
  Reading of slices and structs out of memory, and what stays of it behind calls: plain lemmas, no program in sight.
-/
import Derived.Test.YtbpamllmbdcdfaaRows
import Derived.WalkKit
import Derived.Deep.QuietTactic
import Derived.BigQuiet
import Derived.Lib.Hide
import Derived.Laws.Rows
import Derived.Outline
import Derived.Lib.ConvBytes
namespace Go.Proofs.Ytbpamllmbdcdfaa
open Go.RowKit

theorem eb {b c : Bool} (h : b = c) : Ending.returned (.bool b) = .returned (.bool c) := by rw [h]
theorem ei {k : IntKind} {b c : Int} (h : b = c) : Ending.returned (.int k b) = .returned (.int k c) := by rw [h]

/-- what a call leaves of a block that was there -/
theorem bAt {B : Nat} {w w' : World} (h : Below B w w') {b : Nat} (hb : b < B) : ∀ o, w'.cell? ⟨b, o, none⟩ = w.cell? ⟨b, o, none⟩ :=
  fun o => h.cell (p := ⟨b, o, none⟩) hb
theorem bFz {B : Nat} {w w' : World} (h : Below B w w') {b : Nat} (hb : b < B) : ∀ o, w'.frozen? ⟨b, o, none⟩ = w.frozen? ⟨b, o, none⟩ :=
  fun o => h.frozen (p := ⟨b, o, none⟩) hb

/-- behind a call that was made just after a new block: the old blocks, the new one -/
theorem pastAlloc {wr w1 : World} {cs : Array Value} {t : TypeId} (h : Below (wr.alloc (.cells cs t)).heap.size (wr.alloc (.cells cs t)) w1) :
    Below wr.heap.size wr w1 ∧ (∀ i, w1.cell? ⟨wr.heap.size, i, none⟩ = cs[i]?) ∧ (∀ i, w1.frozen? ⟨wr.heap.size, i, none⟩ = false) ∧ wr.heap.size < w1.heap.size := by
  have hz := h.size
  simp only [World.size_alloc] at hz
  refine ⟨((Below.refl _ _).alloc (Nat.le_refl _) _).trans (h.mono (by simp)), fun i => ?_, fun i => ?_, by omega⟩
  · rw [h.cell (p := ⟨wr.heap.size, i, none⟩) (by simp)]; exact World.cell?_alloc_at _ _ _ _ rfl
  · rw [h.frozen (p := ⟨wr.heap.size, i, none⟩) (by simp)]; exact World.frozen?_alloc_at _ _ _ _ rfl

theorem bDrewN {B : Nat} {w w' : World} (h : Below B w w') (n : Nat) : Below B w (w'.drewN n) := ⟨h.os, h.tape, h.output, h.size, h.block⟩

def CellsAt (w : World) (b off : Nat) (cs : List Value) : Prop := ∀ j u, cs[j]? = some u → w.cell? ⟨b, off + j, none⟩ = some u

/-- how a value of a plain type lies in cells -/
structure Rep (α : Type) where
  size : Nat
  holds : World → Nat → List Value → α → Prop
  keep : ∀ {w w' : World} {B B' : Nat} {cs : List Value} {x : α}, holds w B cs x → (∀ k, k < B → w'.heap[k]? = w.heap[k]?) → B ≤ B' → holds w' B' cs x

/-- v is a slice that reads as the list xs; all its cells lie below block B -/
def SlR {α : Type} (r : Rep α) (w : World) (B : Nat) (v : Value) (xs : List α) : Prop :=
  ∃ A c, v = .slice A xs.length c ∧ xs.length ≤ c ∧ c ≤ maxLen ∧
    ∀ (i : Nat) (x : α), xs[i]? = some x → ∃ b off cs, A = some ⟨b, off, none⟩ ∧ b < B ∧ r.holds w B cs x ∧ CellsAt w b (off + i * r.size) cs

theorem CellsAt.keep {w w' : World} {b off : Nat} {cs : List Value} {B : Nat} (h : CellsAt w b off cs) (hb : b < B) (hk : ∀ k, k < B → w'.heap[k]? = w.heap[k]?) : CellsAt w' b off cs :=
  fun j u hu => (World.cell?_of_block (w := w) (hk b hb)).trans (h j u hu)

theorem SlR.keep {α : Type} {r : Rep α} {w w' : World} {B B' : Nat} {v : Value} {xs : List α} (h : SlR r w B v xs) (hk : ∀ k, k < B → w'.heap[k]? = w.heap[k]?) (hB : B ≤ B') : SlR r w' B' v xs := by
  obtain ⟨A, c, hv, h1, h2, h3⟩ := h
  refine ⟨A, c, hv, h1, h2, fun i x hx => ?_⟩
  obtain ⟨b, off, cs, hA, hb, hh, hc⟩ := h3 i x hx
  exact ⟨b, off, cs, hA, by omega, r.keep hh hk hB, hc.keep hb hk⟩
theorem SlR.below {α : Type} {r : Rep α} {w w' : World} {B : Nat} {v : Value} {xs : List α} (h : SlR r w B v xs) (hb : Below B w w') : SlR r w' B v xs := h.keep hb.block (Nat.le_refl _)
theorem SlR.up {α : Type} {r : Rep α} {w w' : World} {v : Value} {xs : List α} (h : SlR r w w.heap.size v xs) (hb : Below w.heap.size w w') : SlR r w' w'.heap.size v xs := h.keep hb.block hb.size

/-- []byte(s): a new row of the string's bytes -/
theorem conv_bytes {P : Program} (w : World) (src dst e : TypeId) (s : ByteArray) {u : TypeDesc} (hs : P.underlying src = some u) (hd : P.underlying dst = some (.slice e)) (he : P.underlying e = some (.int .u8)) :
    ∃ cap w1, (convert src dst (.string s)).run P w = .ok (.slice (some ⟨w.heap.size, 0, none⟩) s.size cap) w1 ∧ Below w.heap.size w w1 ∧ w.heap.size < w1.heap.size ∧
      (∀ k, (h : k < s.data.toList.length) → w1.cell? ⟨w.heap.size, 0 + k, none⟩ = some (.int .u8 s.data.toList[k].toNat)) ∧ (∀ k, k < s.size → w1.frozen? ⟨w.heap.size, k, none⟩ = false) ∧ s.size ≤ cap := by
  refine ⟨_, _, Lib.run_convert_string_bytes w src dst e s hs hd he, ⟨rfl, rfl, rfl, ?_, fun k hk => Lib.bytesWorld_at_old w e s k hk⟩, ?_, fun k hk => ?_, fun k hk => ?_, grownCap_ge _ _ _ _⟩
  · rw [Lib.bytesWorld_size]; omega
  · rw [Lib.bytesWorld_size]; omega
  · rw [Nat.zero_add, Lib.bytesWorld_cell w e s k (by simpa using hk)]
    simp only [List.getD, List.getElem?_eq_getElem hk, Option.getD_some]
  · simp only [World.frozen?, Lib.bytesWorld_at_new]
    have : s.size ≤ (Lib.bytesCells w e s).size := by simp [Lib.bytesCells]
    simp; omega

theorem size_toList (s : ByteArray) : s.data.toList.length = s.size := by simp
theorem empty_iff (s : ByteArray) : s.toList.isEmpty = decide (s.size = 0) := by
  rw [ByteArray.toList_eq, Bool.eq_iff_iff]
  simp [List.isEmpty_iff]
  constructor
  · intro h; have := congrArg Array.size h; simpa using this
  · intro h; rw [h]; rfl

def inR (n : Int) : Prop := -9223372036854775808 ≤ n ∧ n ≤ 9223372036854775807

end Go.Proofs.Ytbpamllmbdcdfaa
