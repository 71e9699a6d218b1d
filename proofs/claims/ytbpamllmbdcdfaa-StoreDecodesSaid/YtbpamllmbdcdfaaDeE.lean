/-
  Walks of StoreOf, part E: the spool of bytes: one.
-/
import Derived.Test.YtbpamllmbdcdfaaDeD
namespace Go.Proofs.Ytbpamllmbdcdfaa
open Go.RowKit Go.Deep

/-- a spool in memory: what is left of L; what went wrong -/
def SpAt (w : World) (g : Nat) (L : List UInt8) (s : RSt) : Prop :=
  ∃ A c i, g < w.heap.size ∧ w.cell? ⟨g, 0, none⟩ = some (.slice A L.length c) ∧ w.cell? ⟨g, 1, none⟩ = some (.int .i64 (i : Nat)) ∧ w.cell? ⟨g, 2, none⟩ = some (.int .i64 s.2) ∧ (∀ j, w.frozen? ⟨g, j, none⟩ = false) ∧
    SlR byteR w (fun k => k < w.heap.size ∧ k < g) (.slice A L.length c) L ∧ i ≤ L.length ∧ s.1 = L.drop i ∧ L.length ≤ 1000000
theorem SlR.cap {α : Type} {r : Rep α} {w : World} {S : Nat → Prop} {A : Option Addr} {n c : Nat} {xs : List α} (h : SlR r w S (.slice A n c) xs) : xs.length ≤ c ∧ c ≤ 9223372036854775807 := by
  obtain ⟨_, _, hv, h1, h2, _⟩ := h
  injection hv with _ _ e
  subst e
  exact ⟨h1, by unfold maxLen at h2; omega⟩
theorem SlR.inS {α : Type} {r : Rep α} {w : World} {S : Nat → Prop} {b off n c : Nat} {xs : List α} (h : SlR r w S (.slice (some ⟨b, off, none⟩) n c) xs) {k : Nat} (hk : k < xs.length) : S b := by
  obtain ⟨_, _, hv, _, _, h3⟩ := h
  injection hv with e _ _
  subst e
  obtain ⟨b2, off2, cs2, hA, hS, _⟩ := h3 k xs[k] (List.getElem?_eq_getElem hk)
  injection hA with hA
  injection hA with h1
  subst h1
  exact hS
def SpPost {α : Type} (p : List UInt8 → Except Int (α × List UInt8)) (val : α → Value) (ok : α → Prop) (w : World) (g : Nat) (L : List UInt8) (s : RSt) (e : Ending) (w' : World) : Prop :=
  ∃ a s', e = .returned (val a) ∧ Stp p s a s' ∧ ok a ∧ SpAt w' g L s' ∧ w.grownBy w' (some g)

theorem set_row (w : World) (g i : Nat) (v : Value) : w.grownBy (w.setCell ⟨g, i, none⟩ v) (some g) := grown_set w ⟨g, i, none⟩ v
/-- the spool behind stores at its place and at its error -/
theorem SpAt.err {w : World} {g : Nat} {L : List UInt8} {s : RSt} (h : SpAt w g L s) (n : Int) : SpAt (w.setCell ⟨g, 2, none⟩ (.int .i64 n)) g L (s.1, n) ∧ w.grownBy (w.setCell ⟨g, 2, none⟩ (.int .i64 n)) (some g) := by
  have hg := set_row w g 2 (.int .i64 n)
  obtain ⟨A, c, i, h0, h1, h2, h3, h4, h5, h6⟩ := h
  refine ⟨⟨A, c, i, Nat.lt_of_lt_of_le h0 hg.size, ?_, ?_, World.cell?_setCell_same _ _ _ h3, fun j => by simp only [World.frozen?_setCell]; exact h4 j, h5.other hg, h6⟩, hg⟩
  · rw [World.cell?_setCell_other w ⟨g, 2, none⟩ ⟨g, 0, none⟩ _ (by simp)]; exact h1
  · rw [World.cell?_setCell_other w ⟨g, 2, none⟩ ⟨g, 1, none⟩ _ (by simp)]; exact h2
theorem SpAt.move {w : World} {g : Nat} {L : List UInt8} {s : RSt} (h : SpAt w g L s) (m : Nat) (hm : m ≤ L.length) : SpAt (w.setCell ⟨g, 1, none⟩ (.int .i64 (m : Nat))) g L (L.drop m, s.2) ∧ w.grownBy (w.setCell ⟨g, 1, none⟩ (.int .i64 (m : Nat))) (some g) := by
  have hg := set_row w g 1 (.int .i64 (m : Nat))
  obtain ⟨A, c, i, h0, h1, h2, h3, h4, h5, h6, h7, h8⟩ := h
  refine ⟨⟨A, c, m, Nat.lt_of_lt_of_le h0 hg.size, ?_, World.cell?_setCell_same _ _ _ h2, ?_, fun j => by simp only [World.frozen?_setCell]; exact h4 j, h5.other hg, hm, rfl, h8⟩, hg⟩
  · rw [World.cell?_setCell_other w ⟨g, 1, none⟩ ⟨g, 0, none⟩ _ (by simp)]; exact h1
  · rw [World.cell?_setCell_other w ⟨g, 1, none⟩ ⟨g, 2, none⟩ _ (by simp)]; exact h3
theorem SpAt.keep {w w' : World} {g : Nat} {L : List UInt8} {s : RSt} (h : SpAt w g L s) (hk : ∀ k, k ≤ g → w'.heap[k]? = w.heap[k]?) (hz : w.heap.size ≤ w'.heap.size) : SpAt w' g L s := by
  obtain ⟨A, c, i, h0, h1, h2, h3, h4, h5, h6⟩ := h
  have e := hk g (Nat.le_refl _)
  exact ⟨A, c, i, by omega, (World.cell?_of_block e).trans h1, (World.cell?_of_block e).trans h2, (World.cell?_of_block e).trans h3, fun j => (World.frozen?_of_block e).trans (h4 j), SlR.keep h5 (fun k hk' => hk k (by omega)) (fun k hk' => ⟨by omega, hk'.2⟩), h6⟩
theorem SpAt.lt {w : World} {g : Nat} {L : List UInt8} {s : RSt} (h : SpAt w g L s) : g < w.heap.size := by obtain ⟨_, _, _, h0, _⟩ := h; exact h0
theorem SpAt.drewN {w : World} {g : Nat} {L : List UInt8} {s : RSt} (h : SpAt w g L s) (n : Nat) : SpAt (w.drewN n) g L s := h.keep (fun _ _ => rfl) (Nat.le_refl _)
theorem SpAt.alloc {w : World} {g : Nat} {L : List UInt8} {s : RSt} (h : SpAt w g L s) (o : Obj) : SpAt (w.alloc o) g L s := h.keep (fun k hk => Below.heap_alloc _ _ _ (by have := h.lt; omega)) (by simp)
theorem SpAt.grown {w w' : World} {g : Nat} {L : List UInt8} {s : RSt} {row : Option Nat} (h : SpAt w g L s) (hg : w.grownBy w' row) (hr : ∀ k, row = some k → g < k) : SpAt w' g L s :=
  h.keep (fun k hk => hg.block k (by have := h.lt; omega) (fun e => by have := hr k e.symm; omega)) hg.size
theorem gDrew {w w' : World} {row : Option Nat} (h : w.grownBy w' row) (n : Nat) : w.grownBy (w'.drewN n) row := ⟨h.os, h.tape, h.output, h.size, h.block⟩

set_option maxRecDepth 100000 in
set_option maxHeartbeats 1000000 in
theorem sone_any (w : World) (g : Nat) (L : List UInt8) (s : RSt) (h : SpAt w g L s) :
    Calls Try.prog 94 #[.pointer (some ⟨g, 0, none⟩)] w (SpPost pByte (Value.int .i64) (fun a => 0 ≤ a ∧ a ≤ 255) w g L s) := by
  have HS := Go.Lib.hid h
  obtain ⟨A, c, i, hg, f0, f1, f2, f3, hs, hi, hd, hl⟩ := h
  have hsl := hs.to_sl (fun k hk => hk.1)
  have HSL := Go.Lib.hid hsl
  have HD := Go.Lib.hid hd
  obtain ⟨l, e⟩ := s
  simp only at f2 HD hd
  obtain ⟨n, hn⟩ : ∃ n, L.length = n := ⟨_, rfl⟩
  have HN := Go.Lib.hid hn
  rw [hn] at f0 hi hl
  by_cases he : e = 0
  · subst he
    have hie : ¬ (n : Int) < (i : Int) := by omega
    by_cases hlt : i < n
    · obtain ⟨b, off, rfl, hb⟩ := hsl.at_ (show i < L.length by omega)
      have fx := hsl.byte (show i < L.length by omega)
      have hcons : l = L[i]'(by omega) :: L.drop (i + 1) := by rw [hd, List.drop_eq_getElem_cons (by omega)]
      obtain ⟨x, hx⟩ : ∃ x, L[i]'(by omega) = x := ⟨_, rfl⟩
      rw [hx] at fx hcons
      have HC := Go.Lib.hid hcons
      have hb' : ¬ (b = g) := by have := (hs.inS (show i < L.length by omega)).2; omega
      have hb2 : ¬ (g = b) := fun e => hb' e.symm
      have r1 : (i : Int) < (n : Int) := by omega
      have r2 : ¬ (n : Int) ≤ (i : Int) := by omega
      have hx2 := x.toNat_lt
      clear hs hsl hd hn hx hcons
      go_enter Try.func94, Try.ntmps94
      go_wp2_with fail
      go_quiet (fail)
      obtain ⟨q1, rfl⟩ : ∃ m, m = nq := ⟨nq, rfl⟩
      have hmv := (HS.out.drewN q1).move (i + 1) (by have := HN.out; omega)
      rw [show ((i + 1 : Nat) : Int) = (i : Int) + 1 by omega] at hmv
      have HMV := Go.Lib.hid hmv
      clear hmv
      go_wp2_with fail
      go_quiet (fail)
      go_wp2_with fail
      go_ret
      refine ⟨(x.toNat : Int), (L.drop (i + 1), 0), rfl, .ok rfl (by rw [HC.out]; rfl), by omega, ?_, ?_⟩
      · exact HMV.out.1.drewN nq
      · exact gDrew ((gDrew (World.grownBy.refl _ _) q1).trans HMV.out.2) _
    · have hie2 : i = n := by omega
      have hnil : l = [] := by rw [hd]; exact List.drop_of_length_le (by omega)
      have HNI := Go.Lib.hid hnil
      have r2 : (n : Int) ≤ (i : Int) := by omega
      clear hs hsl hd hn hie2 hnil
      go_enter Try.func94, Try.ntmps94
      go_wp2_with fail
      go_quiet (fail)
      go_wp2_with fail
      go_ret
      exact ⟨0, (l, 5), rfl, .err rfl (by rw [HNI.out]; rfl) rfl, by omega, ((HS.out.drewN nq).err 5).1, (gDrew (World.grownBy.refl _ _) nq).trans ((HS.out.drewN nq).err 5).2⟩
  · have t1 : (e == 0) = false := by simpa using he
    have t2 : (e != 0) = true := by simpa using he
    have HE := Go.Lib.hid he
    clear hs hsl hd hn he
    go_enter Try.func94, Try.ntmps94
    go_wp2_with fail
    go_quiet (fail)
    go_wp2_with fail
    go_ret
    exact ⟨0, (l, e), rfl, .off HE.out rfl, by omega, HS.out.drewN _, gDrew (World.grownBy.refl _ _) _⟩
end Go.Proofs.Ytbpamllmbdcdfaa
