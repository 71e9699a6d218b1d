/-
  slices.Clone of bytes, slices.Equal of entries at what is the same; one byte of an own row laid anew.
-/
import Derived.Test.YtbpamllmbdcdfaaStP
import Derived.Lib.SliceRun
namespace Go.Proofs.Ytbpamllmbdcdfaa
open Go.RowKit Go.Deep

set_option maxHeartbeats 1000000 in
theorem cloneB_any (v : Value) (xs : List UInt8) (w : World) (h : Sl byteR w v xs) (hl : xs.length ≤ 1000000) :
    Calls Try.prog 65 #[v] w fun e w' => ∃ v', e = .returned v' ∧ OwR byteR 5 w.heap.size w' v' xs ∧ Below w.heap.size w w' := by
  have q1 := fun (wx : World) (a : Option Addr) (n c : Nat) => Lib.run_eql_slice_nil (P := Try.prog) wx 45 5 a n c 0 0 Try.underlying45
  obtain ⟨A, c, rfl⟩ := h.form
  have H := Go.Lib.hid h
  clear h
  rcases A with _ | ad
  · have hx : xs = [] := by
      rcases Nat.eq_zero_or_pos xs.length with h0 | h0
      · exact List.eq_nil_of_length_eq_zero h0
      · obtain ⟨_, _, h, _⟩ := H.out.at_ h0; cases h
    subst hx
    go_enter Try.func65, Try.ntmps65
    go_wp2_with fail
    go_ret
    exact ⟨_, rfl, OwR.nil _ _ (Nat.le_refl _), Below.refl _ _⟩
  · have hB0 : Below w.heap.size w (w.alloc (.cells #[] 5)) := (Below.refl _ _).alloc (Nat.le_refl _) _
    have hown : OwR byteR 5 w.heap.size (w.alloc (.cells #[] 5)) (.slice (some ⟨w.heap.size, 0, none⟩) 0 0) [] := ⟨[], rfl, fun i cs x h => by simp at h, World.ownsRow_made w #[] 0 (Nat.le_refl _) (Nat.zero_le _) (by simp), by simp⟩
    have H1 := Go.Lib.hid (H.out.below hB0)
    have HB0 := Go.Lib.hid hB0
    have HO := Go.Lib.hid hown
    have HZ := Go.Lib.hid (show ([] : List UInt8).length + xs.length ≤ 140737488355328 by simp; omega)
    clear hB0 hown
    go_enter Try.func65, Try.ntmps65
    go_wp2_with (at_builtin; refine wpList_bytes (base := w.heap.size) rfl _ _ rfl HO.out H1.out rfl rfl HZ.out ?_; intro v1 w1 ho1 hg1)
    go_ret
    exact ⟨v1, rfl, ho1, hg1.below HO.out.choose_spec.2.2.2 (fun k hk => (HO.out.base_le k hk).1) |> HB0.out.trans⟩

set_option maxHeartbeats 1000000 in
theorem equalE_eq (v1 v2 : Value) (xs : List Entry) (w : World) (h1 : Sl entR w v1 xs) (h2 : Sl entR w v2 xs) :
    Calls Try.prog 57 #[v1, v2] w fun e w' => e = .returned (.bool true) ∧ Below w.heap.size w w' := by
  have hl := h1.len_le
  have q1 := fun (x y : Entry) (w' : World) => neq_ent x y w'
  have q2 := fun a b => guard_ent .neq a b
  obtain ⟨A1, c1, rfl⟩ := h1.form
  obtain ⟨A2, c2, rfl⟩ := h2.form
  have H1 := Go.Lib.hid h1
  have H2 := Go.Lib.hid h2
  clear h1 h2
  go_enter Try.func57, Try.ntmps57
  go_wp2_with fail
  go_loopw [5, 13] (fun _ s13 wr => ∃ k : Nat, k ≤ xs.length ∧ s13 = .int .i64 k ∧ Below w.heap.size w wr) (fun _ s13 _ => xs.length - (intOf s13).toNat)
  case atStart => exact ⟨0, Nat.zero_le _, rfl, Below.refl _ _⟩
  case round =>
    obtain ⟨k, hk, rfl, hB⟩ := hrel
    have HB := Go.Lib.hid hB
    by_cases hlt : k < xs.length
    · obtain ⟨b1, o1, rfl, hb1⟩ := H1.out.at_ hlt
      obtain ⟨b2, o2, rfl, hb2⟩ := H2.out.at_ hlt
      obtain ⟨f1, f2, f3, f4, _⟩ := (H1.out.below hB).ent hlt
      obtain ⟨g1, g2, g3, g4, _⟩ := (H2.out.below hB).ent hlt
      have r0 : (0 : Int) ≤ (k : Int) := Int.natCast_nonneg _
      have r1 : (k : Int) < (xs.length : Int) := by omega
      have q3 := q1 xs[k] xs[k]
      rw [sameE_refl] at q3
      clear hB q1
      go_wp2_with fail
      go_quiet (fail)
      go_wp2_with fail
      go_roundw
      case rel => exact ⟨k + 1, by omega, by go_num, bDrewN HB.out _⟩
      case measure => simp [intOf]; omega
    · clear hB
      go_wp2_with fail
      go_ret
      exact ⟨rfl, HB.out⟩

/-- one byte of an own row is laid anew -/
theorem OwR.setB {base : Nat} {w : World} {g n cap : Nat} {xs : List UInt8} (h : OwR byteR 5 base w (.slice (some ⟨g, 0, none⟩) n cap) xs) (hn : n = xs.length) (i : Nat) (c : UInt8) :
    OwR byteR 5 base (w.setCell ⟨g, i, none⟩ (.int .u8 c.toNat)) (.slice (some ⟨g, 0, none⟩) n cap) (xs.set i c) := by
  obtain ⟨h1, h2⟩ := OwR.to_bytes h
  subst hn
  obtain ⟨s1, k1⟩ := h1.stored i (.int .u8 c.toNat)
  refine OwR.of_bytes ?_ (Nat.le_trans h2 k1.size)
  rw [List.length_set, List.map_set]
  exact s1
theorem OwR.atB {base : Nat} {w : World} {v : Value} {xs : List UInt8} (h : OwR byteR 5 base w v xs) (h0 : 0 < xs.length) : ∃ g cap, v = .slice (some ⟨g, 0, none⟩) xs.length cap ∧ base ≤ g ∧ g < w.heap.size ∧ (∀ j, w.frozen? ⟨g, j, none⟩ = false) := by
  obtain ⟨h1, _⟩ := OwR.to_bytes h
  rcases h1.2 with ⟨_, h2⟩ | ⟨g, cap, cur, rfl, hb, hg, _⟩
  · omega
  · exact ⟨g, cap, rfl, hb, (h1.lt g rfl).2, fun j => h1.frozenAt j⟩
theorem add_byte (a b : UInt8) : IntKind.u8.wrap ((a.toNat : Int) + (b.toNat : Int)) = (((a + b).toNat : Nat) : Int) := by
  rw [IntKind.wrap_u8, UInt8.toNat_add]; omega
end Go.Proofs.Ytbpamllmbdcdfaa
