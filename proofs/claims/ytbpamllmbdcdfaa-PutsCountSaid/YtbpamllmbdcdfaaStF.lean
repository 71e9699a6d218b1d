/-
  Walks of the store layer, part F: number, sevens, sum, SealOf.
-/
import Derived.Test.YtbpamllmbdcdfaaByt
import Derived.Test.YtbpamllmbdcdfaaStC
import Derived.Laws.BitsAllLaws
import Derived.Laws.BitsLemmas
namespace Go.Proofs.Ytbpamllmbdcdfaa
open Go.RowKit Go.Deep

/-- bytes ys have been appended to a slice of the call's own -/
def AppB (base : Nat) (w : World) (v : Value) (ys : List UInt8) (e : Ending) (w' : World) : Prop :=
  ∃ v', e = .returned v' ∧ OwR byteR 5 base w' v' ys ∧ GrowTo w v w' v'

theorem i64n_of (a : Nat) (ha : a < 9223372036854775808) : (BitVec.ofInt 64 (a : Int)).toNat = a := by
  rw [BitVec.ofInt_natCast, BitVec.toNat_ofNat]; exact Nat.mod_eq_of_lt (by omega)
theorem i64n_and (a b : Nat) (ha : a < 9223372036854775808) (hb : b < 9223372036854775808) : bits .and .i64 (a : Int) (b : Int) = ((a &&& b : Nat) : Int) := by
  have hx : a &&& b < 2 ^ 63 := Nat.and_lt_two_pow _ (by omega)
  show IntKind.i64.wrap ((BitVec.ofInt 64 (a : Int) &&& BitVec.ofInt 64 (b : Int)).toNat : Int) = _
  rw [BitVec.toNat_and, i64n_of a ha, i64n_of b hb, IntKind.wrap_i64]
  omega
theorem i64n_or (a b : Nat) (ha : a < 9223372036854775808) (hb : b < 9223372036854775808) : bits .or .i64 (a : Int) (b : Int) = ((a ||| b : Nat) : Int) := by
  have hx : a ||| b < 2 ^ 63 := Nat.or_lt_two_pow (by omega) (by omega)
  show IntKind.i64.wrap ((BitVec.ofInt 64 (a : Int) ||| BitVec.ofInt 64 (b : Int)).toNat : Int) = _
  rw [BitVec.toNat_or, i64n_of a ha, i64n_of b hb, IntKind.wrap_i64]
  omega
theorem or_add (x y k : Nat) (hx : x < 2 ^ k) : (y * 2 ^ k) ||| x = y * 2 ^ k + x := by
  rw [Nat.mul_comm, Nat.two_pow_add_eq_or_of_lt hx]
theorem low7 (m : Nat) (hm : m < 9223372036854775808) : bits .or .i64 (bits .and .i64 (m : Int) 127) 128 = ((128 + m % 128 : Nat) : Int) := by
  have h1 : bits .and .i64 (m : Int) 127 = ((m % 128 : Nat) : Int) := by
    rw [show (127 : Int) = ((127 : Nat) : Int) from rfl, i64n_and m 127 hm (by omega), show 127 = 2 ^ 7 - 1 from rfl, Nat.and_two_pow_sub_one_eq_mod]
  rw [h1, show (128 : Int) = ((128 : Nat) : Int) from rfl, i64n_or _ 128 (by omega) (by omega)]
  have := or_add (m % 128) 1 7 (by omega)
  rw [Nat.or_comm]
  rw [show (1 * 2 ^ 7 : Nat) = 128 from rfl] at this
  rw [this]

set_option maxHeartbeats 1000000 in
theorem number_any (v : Value) (xs : List UInt8) (n : Nat) (w : World) (base : Nat) (h : OwR byteR 5 base w v xs) (hn : n ≤ 9223372036854775807) (hb : xs.length ≤ 1000000000) :
    Calls Try.prog 77 #[v, .int .i64 n] w (AppB base w v (xs ++ sev n)) := by
  have hsl := sev_len n 8 (by omega)
  have H := Go.Lib.hid h
  have HS := Go.Lib.hid hsl
  clear h hsl
  go_enter Try.func77, Try.ntmps77
  go_wp2_with fail
  go_loopw [0, 1] (fun s0 s1 wr => ∃ (m : Nat) (done : List UInt8), s1 = .int .i64 m ∧ m ≤ n ∧ sev n = done ++ sev m ∧ OwR byteR 5 base wr s0 (xs ++ done) ∧ GrowTo w v wr s0) (fun _ s1 _ => (intOf s1).toNat)
  case atStart => exact ⟨n, [], rfl, Nat.le_refl _, rfl, by rw [List.append_nil]; exact H.out, GrowTo.refl _ _⟩
  case round =>
    obtain ⟨m, done, rfl, hmn, hsv, hown, hgr⟩ := hrel
    have hlen : (xs ++ done).length + 1 ≤ 140737488355328 := by
      have := HS.out
      rw [hsv, List.length_append] at this
      rw [List.length_append]; omega
    have HLEN := Go.Lib.hid hlen
    clear hlen
    have HSV := Go.Lib.hid hsv
    have HOW := Go.Lib.hid hown
    have HGR := Go.Lib.hid hgr
    have hbw := hgr.grown.size
    clear hsv hown hgr
    by_cases hm : (127 : Int) < (m : Int)
    · have hl7 := low7 m (by omega)
      have hwr : IntKind.u8.wrap ((128 + m % 128 : Nat) : Int) = ((128 + m % 128 : Nat) : Int) := by rw [IntKind.wrap_u8]; omega
      have hsv2 := sev_big (n := m) (by omega)
      have HSV2 := Go.Lib.hid hsv2
      clear hsv2
      have hone := one_byte (w := wr) (E := 5) (x := ((128 + m % 128 : Nat) : Int)) (by omega) (by omega)
      have hal := HOW.out.keep ((Below.refl wr.heap.size wr).alloc (Nat.le_refl _) (.cells #[.int .u8 ((128 + m % 128 : Nat) : Int)] 5))
      have HONE := Go.Lib.hid hone
      have HAL := Go.Lib.hid hal
      clear hone hal
      go_wp2_with (at_builtin; refine wpList_bytes (base := base) rfl _ _ rfl HAL.out HONE.out rfl rfl HLEN.out ?_; intro v1 w1 ho1 hg1)
      have hbal : Below wr.heap.size wr (wr.alloc (.cells #[.int .u8 ((128 + m % 128 : Nat) : Int)] 5)) := (Below.refl wr.heap.size wr).alloc (Nat.le_refl _) _
      go_roundw
      case rel =>
        exact ⟨m / 128, done ++ [b8 (128 + m % 128 : Nat)], by go_num, by omega, by rw [HSV.out, HSV2.out]; simp, by rw [← List.append_assoc]; exact ho1, (HGR.out.trans (GrowTo.of_below hbal _)).trans hg1⟩
      case measure => simp [intOf]; omega
    · have hone := one_byte (w := wr) (E := 5) (x := (m : Int)) (by omega) (by omega)
      have hal := HOW.out.keep ((Below.refl wr.heap.size wr).alloc (Nat.le_refl _) (.cells #[.int .u8 (m : Int)] 5))
      have HONE := Go.Lib.hid hone
      have HAL := Go.Lib.hid hal
      have hsm := sev_small (n := m) (by omega)
      have HSM := Go.Lib.hid hsm
      clear hone hal hsm
      go_wp2_with (at_builtin; refine wpList_bytes (base := base) rfl _ _ rfl HAL.out HONE.out rfl rfl HLEN.out ?_; intro v1 w1 ho1 hg1)
      have hbal : Below wr.heap.size wr (wr.alloc (.cells #[.int .u8 (m : Int)] 5)) := (Below.refl wr.heap.size wr).alloc (Nat.le_refl _) _
      go_ret
      exact ⟨v1, rfl, by rw [HSV.out, HSM.out, ← List.append_assoc]; exact ho1, (HGR.out.trans (GrowTo.of_below hbal _)).trans hg1⟩

def sumN (xs : List UInt8) : Int := (sums xs).2 * 65536 + (sums xs).1
theorem sum_or (x y : Int) (hx : 0 ≤ x) (hx' : x < 65536) (hy : 0 ≤ y) (hy' : y < 65536) : bits .or .i64 (y * 65536) x = y * 65536 + x := by
  obtain ⟨a, rfl⟩ := Int.eq_ofNat_of_zero_le hx
  obtain ⟨b, rfl⟩ := Int.eq_ofNat_of_zero_le hy
  have e : ((b : Int) * 65536) = ((b * 2 ^ 16 : Nat) : Int) := by omega
  rw [e, i64n_or _ a (by omega) (by omega), or_add a b 16 (by omega)]
  omega

set_option maxHeartbeats 1000000 in
theorem sum_any (v : Value) (xs : List UInt8) (w : World) (h : Sl byteR w v xs) :
    Calls Try.prog 78 #[v] w fun e w' => e = .returned (.int .i64 (sumN xs)) ∧ w = w' := by
  have hl := h.len_le
  obtain ⟨A, c, rfl⟩ := h.form
  have H := Go.Lib.hid h
  clear h
  go_enter Try.func78, Try.ntmps78
  go_wp2_with fail
  go_loop [3, 4, 6, 9] (fun s3 s4 _ s9 => ∃ k : Nat, k ≤ xs.length ∧ s9 = .int .i64 k ∧ s3 = .int .i64 (sums (xs.take k)).1 ∧ s4 = .int .i64 (sums (xs.take k)).2) (fun _ _ _ s9 => xs.length - (intOf s9).toNat)
  case atStart => exact ⟨0, Nat.zero_le _, rfl, rfl, rfl⟩
  case round =>
    obtain ⟨k, hk, rfl, rfl, rfl⟩ := hrel
    have hb := sums_lt (xs.take k)
    obtain ⟨p, hp⟩ : ∃ p, sums (xs.take k) = p := ⟨_, rfl⟩
    rw [hp] at hb
    obtain ⟨b1, b2, b3, b4⟩ := hb
    by_cases hlt : k < xs.length
    · obtain ⟨b, off, rfl, hb⟩ := H.out.at_ hlt
      obtain ⟨cs, ⟨rfl, _⟩, hc⟩ := H.out.cell hlt
      have f1 : w.cell? ⟨b, off + k, none⟩ = some (.int .u8 xs[k].toNat) := by
        have := hc 0 _ rfl
        simpa [byteR, flatR] using this
      have hu : xs[k].toNat < 256 := xs[k].toNat_lt
      have hsn : sums (xs.take (k + 1)) = ((p.1 + xs[k].toNat) % 65521, (p.2 + (p.1 + xs[k].toNat) % 65521) % 65521) := by
        rw [List.take_succ_eq_append_getElem hlt, sums_snoc, hp]
      have HSN := Go.Lib.hid hsn
      rw [hp]
      clear hc hsn hp
      go_wp2_with fail
      go_round
      case rel => exact ⟨k + 1, by omega, by go_num, by rw [HSN.out], by rw [HSN.out]⟩
      case measure => simp [intOf]; omega
    · have hfin : sumN xs = p.2 * 65536 + p.1 := by
        unfold sumN
        rw [← hp, List.take_of_length_le (by omega)]
      have HF := Go.Lib.hid hfin
      have hor := sum_or p.1 p.2 b1 (by omega) b3 (by omega)
      have HOR := Go.Lib.hid hor
      rw [hp]
      clear hfin hor hp
      go_wp2_with fail
      go_ret
      refine ⟨ei ?_, rfl⟩
      rw [HF.out]
      exact HOR.out
end Go.Proofs.Ytbpamllmbdcdfaa
