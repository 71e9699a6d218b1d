/-
  sameEntries, sameTexts, at what is the same; slices of strings.
-/
import Derived.Test.YtbpamllmbdcdfaaStQ
namespace Go.Proofs.Ytbpamllmbdcdfaa
open Go.RowKit Go.Deep

theorem Sl.str {w : World} {b off c n : Nat} {xs : List ByteArray} (h : Sl strR w (.slice (some ⟨b, off, none⟩) n c) xs) {k : Nat} (hk : k < xs.length) : w.cell? ⟨b, off + k, none⟩ = some (.string xs[k]) := by
  obtain ⟨cs, ⟨rfl, hw⟩, hc⟩ := h.cell hk
  have := hc 0 _ rfl
  simpa [strR, flatR] using this
theorem elt_str : Elt Try.prog 69 9 1 16 := ⟨Try.underlying69, by
  have h : (Try.prog.info? 9).map (fun i => (i.zero, i.size, i.bytes)) = some (some (.string ⟨#[]⟩), 1, 16) := by kernel_rfl
  obtain ⟨i, h1, h2, h3, h4⟩ := info_parts h
  exact ⟨i, _, h1, h2, h3, h4, rfl⟩, by decide⟩

set_option maxHeartbeats 1000000 in
theorem sameEntries_eq (v1 v2 : Value) (xs : List Entry) (w : World) (h1 : Sl entR w v1 xs) (h2 : Sl entR w v2 xs) :
    Calls Try.prog 47 #[v1, v2] w fun e w' => e = .returned (.bool true) ∧ Below w.heap.size w w' := by
  have hl := h1.len_le
  have q1 := fun (x y : Entry) (w' : World) => neq_ent x y w'
  have q2 := fun a b => guard_ent .neq a b
  obtain ⟨A1, c1, rfl⟩ := h1.form
  obtain ⟨A2, c2, rfl⟩ := h2.form
  have H1 := Go.Lib.hid h1
  have H2 := Go.Lib.hid h2
  clear h1 h2
  go_enter Try.func47, Try.ntmps47
  go_wp2_with fail
  go_loopw [5] (fun s5 wr => ∃ k : Nat, k ≤ xs.length ∧ s5 = .int .i64 k ∧ Below w.heap.size w wr) (fun s5 _ => xs.length - (intOf s5).toNat)
  case atStart => exact ⟨0, Nat.zero_le _, rfl, Below.refl _ _⟩
  case round =>
    obtain ⟨k, hk, rfl, hB⟩ := hrel
    have HB := Go.Lib.hid hB
    by_cases hlt : k < xs.length
    · obtain ⟨b1, o1, rfl, hb1⟩ := H1.out.at_ hlt
      obtain ⟨b2, o2, rfl, hb2⟩ := H2.out.at_ hlt
      obtain ⟨f1, f2, f3, f4, _⟩ := (H1.out.below hB).ent hlt
      obtain ⟨g1, g2, g3, g4, _⟩ := (H2.out.below hB).ent hlt
      have r0 : (0 : Int) ≤ (k : Int) := Int.natCast_nonneg _
      have r1 : (k : Int) < (xs.length : Int) := by omega
      have q3 := q1 xs[k] xs[k]
      rw [sameE_refl] at q3
      clear hB q1
      go_wp2_with fail
      go_quiet (fail)
      go_wp2_with fail
      go_roundw
      case rel => exact ⟨k + 1, by omega, by go_num, bDrewN HB.out _⟩
      case measure => simp [intOf]; omega
    · clear hB
      go_wp2_with fail
      go_ret
      exact ⟨rfl, HB.out⟩

set_option maxHeartbeats 1000000 in
theorem sameTexts_eq (v1 v2 : Value) (xs : List ByteArray) (w : World) (h1 : Sl strR w v1 xs) (h2 : Sl strR w v2 xs) :
    Calls Try.prog 52 #[v1, v2] w fun e w' => e = .returned (.bool true) ∧ Below w.heap.size w w' := by
  have hl := h1.len_le
  obtain ⟨A1, c1, rfl⟩ := h1.form
  obtain ⟨A2, c2, rfl⟩ := h2.form
  have H1 := Go.Lib.hid h1
  have H2 := Go.Lib.hid h2
  clear h1 h2
  go_enter Try.func52, Try.ntmps52
  go_wp2_with fail
  go_loopw [5] (fun s5 wr => ∃ k : Nat, k ≤ xs.length ∧ s5 = .int .i64 k ∧ Below w.heap.size w wr) (fun s5 _ => xs.length - (intOf s5).toNat)
  case atStart => exact ⟨0, Nat.zero_le _, rfl, Below.refl _ _⟩
  case round =>
    obtain ⟨k, hk, rfl, hB⟩ := hrel
    have HB := Go.Lib.hid hB
    by_cases hlt : k < xs.length
    · obtain ⟨b1, o1, rfl, hb1⟩ := H1.out.at_ hlt
      obtain ⟨b2, o2, rfl, hb2⟩ := H2.out.at_ hlt
      have f1 := (H1.out.below hB).str hlt
      have g1 := (H2.out.below hB).str hlt
      have r0 : (0 : Int) ≤ (k : Int) := Int.natCast_nonneg _
      have r1 : (k : Int) < (xs.length : Int) := by omega
      have r2 : (xs[k].toList == xs[k].toList) = true := by simp
      clear hB
      go_wp2_with fail
      go_quiet (fail)
      go_wp2_with fail
      go_roundw
      case rel => exact ⟨k + 1, by omega, by go_num, bDrewN HB.out _⟩
      case measure => simp [intOf]; omega
    · clear hB
      go_wp2_with fail
      go_ret
      exact ⟨rfl, HB.out⟩
end Go.Proofs.Ytbpamllmbdcdfaa
