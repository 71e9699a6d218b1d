/-
  Walks of the store layer, part E: Get, placeOf, GotOf.
-/
import Derived.Test.YtbpamllmbdcdfaaStD
import Derived.Test.YtbpamllmbdcdfaaEq
namespace Go.Proofs.Ytbpamllmbdcdfaa
open Go.RowKit

theorem b4 {w w1 : World} (h : Below w.heap.size w w1) (a b c d : Value) :
    Below w.heap.size w ((((w1.setCell ⟨w.heap.size, 0, none⟩ a).setCell ⟨w.heap.size, 1, none⟩ b).setCell ⟨w.heap.size, 2, none⟩ c).setCell ⟨w.heap.size, 3, none⟩ d) :=
  (((h.setCell (Nat.le_refl _) _).setCell (Nat.le_refl _) _).setCell (Nat.le_refl _) _).setCell (Nat.le_refl _) _
def zeroE : Entry := ⟨⟨#[]⟩, 0, 0, ⟨#[]⟩⟩
def getS (xs : List Entry) (k : ByteArray) : Entry × Int :=
  if checkS xs = 0 then (match findE xs k with | some e => (e, 0) | none => (zeroE, 6)) else (zeroE, checkS xs)
theorem getS_bad {xs : List Entry} {k : ByteArray} (h : checkS xs ≠ 0) : getS xs k = (zeroE, checkS xs) := by unfold getS; rw [if_neg h]
theorem getS_none {xs : List Entry} {k : ByteArray} (h : checkS xs = 0) (h2 : hasE xs k = false) : getS xs k = (zeroE, 6) := by unfold getS; rw [if_pos h, findE_none h2]
theorem getS_some {xs : List Entry} {k : ByteArray} (h : checkS xs = 0) (h2 : hasE xs k = true) : ∃ hl : lbE xs k < xs.length, getS xs k = (xs[lbE xs k], 0) := by
  obtain ⟨hl, hk⟩ := (hasE_iff (okS_of h).ord k).1 h2
  exact ⟨hl, by unfold getS; rw [if_pos h, findE_some (okS_of h).ord k hl hk]⟩
theorem er2 {a b a' b' : Value} (h : a = b) (h' : a' = b') : Ending.returned (.tuple #[a, a']) = .returned (.tuple #[b, b']) := by rw [h, h']

set_option maxHeartbeats 1000000 in
theorem get_any (v : Value) (xs : List Entry) (k : ByteArray) (w : World) (h : Sl entR w v xs) :
    Calls Try.prog 36 #[v, .string k] w fun e w' => e = .returned (.tuple #[(getS xs k).1.val, .int .i64 (getS xs k).2]) ∧ Below w.heap.size w w' := by
  have hB0 : Below w.heap.size w (w.alloc (.cells #[.string ⟨#[]⟩, .int .i64 0, .int .i64 0, .string ⟨#[]⟩] 39)) := (Below.refl _ _).alloc (Nat.le_refl _) _
  have H0 := Go.Lib.hid (h.below hB0)
  obtain ⟨A, c, rfl⟩ := h.form
  have H := Go.Lib.hid h
  clear h hB0
  go_enter Try.func36, Try.ntmps36
  go_wp2_with fail
  refine (check_any _ xs _ H0.out).mono ?_
  rintro r w1 ⟨rfl, hb1⟩
  obtain ⟨hA, hN, hM, hS⟩ := pastAlloc hb1
  have HA := Go.Lib.hid hA
  have H1 := Go.Lib.hid (H.out.below hA)
  clear hA hb1 H0
  by_cases hc : checkS xs = 0
  · have t1 : (checkS xs != 0) = false := by simp [hc]
    have hok := okS_of hc
    have HOK := Go.Lib.hid hok
    have HC := Go.Lib.hid hc
    have hl60 := hok.len
    clear hok hc
    go_wp2_with fail
    refine (find_any _ xs k _ H1.out HOK.out.ord (by omega)).mono ?_
    rintro r w2 ⟨rfl, hb2⟩
    have hN2 : ∀ i, w2.cell? ⟨w.heap.size, i, none⟩ = #[Value.string ⟨#[]⟩, .int .i64 0, .int .i64 0, .string ⟨#[]⟩][i]? := fun i => (bAt hb2 hS i).trans (hN i)
    have hM2 : ∀ i, w2.frozen? ⟨w.heap.size, i, none⟩ = false := fun i => (bFz hb2 hS i).trans (hM i)
    have hS2 : w.heap.size < w2.heap.size := Nat.lt_of_lt_of_le hS hb2.size
    have HA2 := Go.Lib.hid (HA.out.trans (hb2.mono HA.out.size))
    have H2 := Go.Lib.hid (H.out.below HA2.out)
    clear hb2 hN hM
    rcases hh : hasE xs k with _ | _
    · have HH := Go.Lib.hid (getS_none HC.out hh)
      clear hh
      go_wp2_with fail
      refine bodyPost_ret (v := .tuple #[zeroE.val, .int .i64 6]) (by simp [results, Try.results36, go_sem, zeroE, Entry.val, *]) rfl ⟨by rw [HH.out], ?_⟩
      exact b4 HA2.out _ _ _ _
    · obtain ⟨hl, hg⟩ := getS_some HC.out hh
      obtain ⟨i, hi⟩ : ∃ i, lbE xs k = i := ⟨_, rfl⟩
      have HI := Go.Lib.hid hi
      have hl' : i < xs.length := by omega
      have hg' : getS xs k = (xs[i], 0) := by rw [hg]; simp only [hi]
      have HG := Go.Lib.hid hg'
      obtain ⟨b, off, rfl, hb⟩ := H.out.at_ hl
      obtain ⟨f1, f2, f3, f4, _⟩ := H2.out.ent hl'
      clear hh hg hg' hl
      rw [hi]
      clear hi
      go_wp2_with fail
      refine bodyPost_ret (v := .tuple #[xs[i].val, .int .i64 0]) (by simp [results, Try.results36, go_sem, Entry.val, *]) rfl ⟨by rw [HG.out], ?_⟩
      exact b4 HA2.out _ _ _ _
  · have t1 : (checkS xs != 0) = true := by simp [hc]
    have HG := Go.Lib.hid (getS_bad (k := k) hc)
    clear hc
    go_wp2_with fail
    refine bodyPost_ret (v := .tuple #[zeroE.val, .int .i64 (checkS xs)]) (by simp [results, Try.results36, go_sem, zeroE, Entry.val, *]) rfl ⟨by rw [HG.out], ?_⟩
    exact b4 HA.out _ _ _ _

theorem place_hit {xs : List Entry} {k : ByteArray} {p : Nat} (hp : p < xs.length) (h : ∀ j, (h : j < xs.length) → j < p → xs[j].key ≠ k) (he : xs[p].key = k) : placeE xs k = p := by
  unfold placeE
  have : (xs.findIdx? fun e => decide (e.key = k)) = some p := by
    rw [List.findIdx?_eq_some_iff_getElem]
    exact ⟨hp, decide_eq_true he, fun j hj => by have := h j (by omega) hj; simpa using this⟩
  rw [this]
theorem place_miss {xs : List Entry} {k : ByteArray} (h : ∀ j, (h : j < xs.length) → xs[j].key ≠ k) : placeE xs k = -1 := by
  refine placeE_none ?_
  unfold hasE
  rw [List.any_eq_false]
  intro e he
  obtain ⟨j, hj, rfl⟩ := List.getElem_of_mem he
  simpa using h j hj

set_option maxHeartbeats 1000000 in
theorem place_any (v : Value) (xs : List Entry) (k : ByteArray) (w : World) (h : Sl entR w v xs) :
    Calls Try.prog 82 #[v, .string k] w fun e w' => e = .returned (.int .i64 (placeE xs k)) ∧ w = w' := by
  have hl := h.len_le
  obtain ⟨A, c, rfl⟩ := h.form
  have H := Go.Lib.hid h
  clear h
  go_enter Try.func82, Try.ntmps82
  go_wp2_with fail
  go_loop [5] (fun i => ∃ p : Nat, p ≤ xs.length ∧ i = .int .i64 p ∧ ∀ j, (h : j < xs.length) → j < p → xs[j].key ≠ k) (fun i => xs.length - (intOf i).toNat)
  case atStart => exact ⟨0, Nat.zero_le _, rfl, fun j _ h => absurd h (by omega)⟩
  case round =>
    obtain ⟨p, hp, rfl, hall⟩ := hrel
    have HA := Go.Lib.hid hall
    clear hall
    by_cases hlt : p < xs.length
    · obtain ⟨b, off, rfl, hb⟩ := H.out.at_ hlt
      obtain ⟨f1, _, _, _, _⟩ := H.out.ent hlt
      go_wp2_with fail
      · go_ret
        have he : xs[p].key = k := by
          have := ‹(xs[p].key.toList == k.toList) = true›
          exact toList_inj (eq_of_beq this)
        exact ⟨ei (place_hit hlt HA.out he).symm, rfl⟩
      · go_round
        case rel =>
          refine ⟨p + 1, by omega, by go_num, fun j hj hjp => ?_⟩
          by_cases e : j = p
          · subst e
            intro he
            have := ‹(xs[j].key.toList == k.toList) = false›
            rw [he] at this
            simp at this
          · exact HA.out j hj (by omega)
        case measure => simp [intOf]; omega
    · go_wp2_with fail
      go_ret
      exact ⟨ei (place_miss fun j hj => HA.out j hj (by omega)).symm, rfl⟩

set_option maxHeartbeats 1000000 in
theorem got_any (v : Value) (xs : List Entry) (k : ByteArray) (w : World) (h : Sl entR w v xs) :
    Calls Try.prog 37 #[v, .string k] w fun e w' => e = .returned (.tuple #[(getS xs k).1.val, .int .i64 (getS xs k).2]) ∧ Below w.heap.size w w' := by
  have hB0 : Below w.heap.size w (w.alloc (.cells #[.string ⟨#[]⟩, .int .i64 0, .int .i64 0, .string ⟨#[]⟩] 39)) := (Below.refl _ _).alloc (Nat.le_refl _) _
  have H0 := Go.Lib.hid (h.below hB0)
  have hlen := h.len_le
  obtain ⟨A, c, rfl⟩ := h.form
  have H := Go.Lib.hid h
  clear h hB0
  go_enter Try.func37, Try.ntmps37
  go_wp2_with fail
  refine (fault_any _ xs _ H0.out).mono ?_
  rintro r w1 ⟨rfl, hb1⟩
  obtain ⟨hA, hN, hM, hS⟩ := pastAlloc hb1
  have HA := Go.Lib.hid hA
  have H1 := Go.Lib.hid (H.out.below hA)
  clear hA hb1 H0
  by_cases hc : checkS xs = 0
  · have t1 : (checkS xs != 0) = false := by simp [hc]
    have HC := Go.Lib.hid hc
    clear hc
    go_wp2_with fail
    refine (place_any _ xs k _ H1.out).mono ?_
    rintro r w2 ⟨rfl, rfl⟩
    rcases hh : hasE xs k with _ | _
    · have hp := placeE_none hh
      have t2 : placeE xs k < 0 := by omega
      have HH := Go.Lib.hid (getS_none HC.out hh)
      clear hh hp
      go_wp2_with fail
      refine bodyPost_ret (v := .tuple #[zeroE.val, .int .i64 6]) (by simp [results, Try.results37, go_sem, zeroE, Entry.val, *]) rfl ⟨by rw [HH.out], ?_⟩
      exact b4 HA.out _ _ _ _
    · obtain ⟨hl, hg⟩ := getS_some HC.out hh
      obtain ⟨_, hk⟩ := (hasE_iff (okS_of HC.out).ord k).1 hh
      have hp := placeE_some (okS_of HC.out).ord k hl hk
      obtain ⟨i, hi⟩ : ∃ i, lbE xs k = i := ⟨_, rfl⟩
      have hl' : i < xs.length := by omega
      have hg' : getS xs k = (xs[i], 0) := by rw [hg]; simp only [hi]
      have HG := Go.Lib.hid hg'
      rw [hp, hi]
      have HP := Go.Lib.hid hp
      clear hp hk
      obtain ⟨b, off, rfl, hb⟩ := H.out.at_ hl
      obtain ⟨f1, f2, f3, f4, _⟩ := H1.out.ent hl'
      clear hh hg hg' hl hi
      go_wp2_with fail
      refine bodyPost_ret (v := .tuple #[xs[i].val, .int .i64 0]) (by simp [results, Try.results37, go_sem, Entry.val, *]) rfl ⟨by rw [HG.out], ?_⟩
      exact b4 HA.out _ _ _ _
  · have t1 : (checkS xs != 0) = true := by simp [hc]
    have HG := Go.Lib.hid (getS_bad (k := k) hc)
    clear hc
    go_wp2_with fail
    refine bodyPost_ret (v := .tuple #[zeroE.val, .int .i64 (checkS xs)]) (by simp [results, Try.results37, go_sem, zeroE, Entry.val, *]) rfl ⟨by rw [HG.out], ?_⟩
    exact b4 HA.out _ _ _ _
end Go.Proofs.Ytbpamllmbdcdfaa
