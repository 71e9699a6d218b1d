/-
  Walks of the store layer, part H: sevens, SealOf.
-/
import Derived.Test.YtbpamllmbdcdfaaStG
namespace Go.Proofs.Ytbpamllmbdcdfaa
open Go.RowKit Go.Deep

/-- a call has made new bytes -/
def NewB (w : World) (ys : List UInt8) (e : Ending) (w' : World) : Prop :=
  ∃ v', e = .returned v' ∧ OwR byteR 5 w.heap.size w' v' ys ∧ Below w.heap.size w w'

theorem lit_bytes {w : World} {E : TypeId} {base : Nat} (xs : List Int) (h : ∀ x ∈ xs, 0 ≤ x ∧ x ≤ 255) (hl : xs.length ≤ maxLen) (hb : base ≤ w.heap.size) :
    OwR byteR E base (w.alloc (.cells (xs.map (Value.int .u8)).toArray E)) (.slice (some ⟨w.heap.size, 0, none⟩) xs.length xs.length) (xs.map b8) := by
  have := OwR.lit1 (r := byteR) (E := E) (base := base) (w := w) (f := bcell) (xs := xs.map b8) rfl (fun x _ S => ⟨rfl, trivial⟩) hb (by simpa using hl)
  have e : (xs.map b8).map bcell = xs.map (Value.int .u8) := by
    rw [List.map_map]
    refine List.map_congr_left fun x hx => ?_
    obtain ⟨a, b⟩ := h x hx
    exact bcell_b8 a b
  rw [e, List.length_map] at this
  exact this

set_option maxRecDepth 100000 in
set_option maxHeartbeats 1000000 in
theorem sevens_any : ∀ (n : Nat) (w : World), n ≤ 9223372036854775807 → Calls Try.prog 79 #[.int .i64 n] w (NewB w (sev n)) := by
  intro n
  induction n using Nat.strongRecOn with
  | _ n ih =>
    intro w hn
    by_cases hs : (n : Int) < 128
    · have hsv := sev_small (n := n) (by omega)
      have hlit := lit_bytes (w := w) (E := 5) (base := w.heap.size) [(n : Int)] (by intro x hx; simp at hx; subst hx; omega) (by simp; decide) (Nat.le_refl _)
      have HSV := Go.Lib.hid hsv
      have HLIT := Go.Lib.hid hlit
      have hw : IntKind.u8.wrap (n : Int) = (n : Int) := by rw [IntKind.wrap_u8]; omega
      clear ih hsv hlit
      go_enter Try.func79, Try.ntmps79
      go_wp2_with fail
      go_ret
      exact ⟨_, rfl, by rw [HSV.out]; exact HLIT.out, (Below.refl _ _).alloc (Nat.le_refl _) _⟩
    · have hsv := sev_big (n := n) (by omega)
      obtain ⟨q, hq⟩ : ∃ q : Nat, 128 + n % 128 = q := ⟨_, rfl⟩
      obtain ⟨r, hr⟩ : ∃ r : Nat, n / 128 = r := ⟨_, rfl⟩
      rw [hq, hr] at hsv
      have HSV := Go.Lib.hid hsv
      have hw0 : (128 : Int) + (n : Int) % 128 = (q : Int) := by omega
      have hw : IntKind.u8.wrap (q : Int) = (q : Int) := by rw [IntKind.wrap_u8]; omega
      have hw1 : (n : Int) / 128 = (r : Int) := by omega
      have hlit := lit_bytes (w := w) (E := 5) (base := w.heap.size) [(q : Int)] (by intro x hx; simp only [List.mem_singleton] at hx; subst hx; omega) (by simp; decide) (Nat.le_refl _)
      have HLIT := Go.Lib.hid hlit
      have hsl := sev_len r 8 (by omega)
      have hn1 : [b8 (q : Int)].length + (sev r).length ≤ 140737488355328 := by simp only [List.length_cons, List.length_nil]; omega
      have HN1 := Go.Lib.hid hn1
      have hih := ih r (by omega) (w.alloc (.cells #[.int .u8 (q : Int)] 5)) (by omega)
      have IH := Go.Lib.hid hih
      clear ih hsv hlit hsl hn1 hih hq hr
      go_enter Try.func79, Try.ntmps79
      go_wp2_with fail
      refine IH.out.mono ?_
      rintro e w1 ⟨v1, rfl, ho1, hb1⟩
      have HO := Go.Lib.hid (HLIT.out.keep hb1)
      have HSRC := Go.Lib.hid (ho1.sl (by decide))
      have hB : Below w.heap.size w w1 := ((Below.refl w.heap.size w).alloc (Nat.le_refl _) (.cells #[.int .u8 (q : Int)] 5)).trans (hb1.mono (by simp))
      have HB := Go.Lib.hid hB
      clear ho1 hb1 hB
      go_wp2_with (at_builtin; refine wpList_bytes (base := w.heap.size) rfl (.tmp 12) (.tmp 15) rfl HO.out HSRC.out rfl rfl HN1.out ?_; intro v2 w2 ho2 hg2)
      go_ret
      exact ⟨v2, rfl, by rw [HSV.out]; exact ho2, HB.out.trans (hg2.below HB.out.size (fun k hk => (HO.out.base_le k hk).1))⟩

set_option maxHeartbeats 1000000 in
theorem seal_any (v : Value) (xs : List UInt8) (w : World) (h : Sl byteR w v xs) : Calls Try.prog 80 #[v] w (NewB w (sealB xs)) := by
  have hl := h.len_le
  obtain ⟨A, c, rfl⟩ := h.form
  have H := Go.Lib.hid h
  clear h
  go_enter Try.func80, Try.ntmps80
  go_wp2_with fail
  go_loop [3, 4, 5] (fun s3 s4 s9 => ∃ k : Nat, k ≤ xs.length ∧ s9 = .int .i64 k ∧ s3 = .int .i64 (sums (xs.take k)).1 ∧ s4 = .int .i64 (sums (xs.take k)).2) (fun _ _ s9 => xs.length - (intOf s9).toNat)
  case atStart => exact ⟨0, Nat.zero_le _, rfl, rfl, rfl⟩
  case round =>
    obtain ⟨k, hk, rfl, rfl, rfl⟩ := hrel
    have hb := sums_lt (xs.take k)
    obtain ⟨p, hp⟩ : ∃ p, sums (xs.take k) = p := ⟨_, rfl⟩
    rw [hp] at hb
    obtain ⟨b1, b2, b3, b4⟩ := hb
    by_cases hlt : k < xs.length
    · obtain ⟨b, off, rfl, hb⟩ := H.out.at_ hlt
      obtain ⟨cs, ⟨rfl, _⟩, hc⟩ := H.out.cell hlt
      have f1 : w.cell? ⟨b, off + k, none⟩ = some (.int .u8 xs[k].toNat) := by
        have := hc 0 _ rfl
        simpa [byteR, flatR] using this
      have hu : xs[k].toNat < 256 := xs[k].toNat_lt
      have hsn : sums (xs.take (k + 1)) = ((p.1 + xs[k].toNat) % 65521, (p.2 + (p.1 + xs[k].toNat) % 65521) % 65521) := by
        rw [List.take_succ_eq_append_getElem hlt, sums_snoc, hp]
      have hcomm : (p.1 + (xs[k].toNat : Int)) % 65521 + p.2 = p.2 + (p.1 + (xs[k].toNat : Int)) % 65521 := Int.add_comm _ _
      have HC := Go.Lib.hid hcomm
      have HSN := Go.Lib.hid hsn
      rw [hp]
      clear hc hsn hp hcomm
      go_wp2_with fail
      go_round
      case rel => exact ⟨k + 1, by omega, by go_num, by rw [HSN.out], by rw [HSN.out, HC.out]⟩
      case measure => simp [intOf]; omega
    · have hlit := lit_bytes (w := w) (E := 5) (base := w.heap.size) [p.2 / 256, p.2 % 256, p.1 / 256, p.1 % 256] (by intro x hx; simp at hx; rcases hx with rfl | rfl | rfl | rfl <;> omega) (by simp; decide) (Nat.le_refl _)
      have hse : sealB xs = [b8 (p.2 / 256), b8 (p.2 % 256), b8 (p.1 / 256), b8 (p.1 % 256)] := by
        unfold sealB
        rw [← hp, List.take_of_length_le (by omega)]
      have HLIT := Go.Lib.hid hlit
      have HSE := Go.Lib.hid hse
      have e1 : IntKind.u8.wrap (p.2 / 256) = p.2 / 256 := by rw [IntKind.wrap_u8]; omega
      have e2 : IntKind.u8.wrap (p.2 % 256) = p.2 % 256 := by rw [IntKind.wrap_u8]; omega
      have e3 : IntKind.u8.wrap (p.1 / 256) = p.1 / 256 := by rw [IntKind.wrap_u8]; omega
      have e4 : IntKind.u8.wrap (p.1 % 256) = p.1 % 256 := by rw [IntKind.wrap_u8]; omega
      rw [hp]
      clear hlit hse hp
      go_wp2_with fail
      go_ret
      exact ⟨_, rfl, by rw [HSE.out]; exact HLIT.out, (Below.refl _ _).alloc (Nat.le_refl _) _⟩
end Go.Proofs.Ytbpamllmbdcdfaa
