/-
  Walks of the store layer, part A: keys, entries, Check.
-/
import Derived.Test.YtlmcipnogodnfaaDoorSpec
namespace Go.Proofs.YtlmcipnogodnfaaDoor
open Go.RowKit

set_option maxHeartbeats 400000 in
theorem keyc_any (c : UInt8) (w : World) : Calls Tryd.prog 86 #[.int .u8 c.toNat] w fun e w' => e = .returned (.bool (!keyc c)) ∧ w = w' := by
  go_enter Tryd.func86, Tryd.ntmps86
  go_wp2
  all_goals (go_ret; refine ⟨eb ?_, rfl⟩; unfold keyc; rw [Bool.eq_iff_iff]; simp; omega)

set_option maxHeartbeats 400000 in
theorem idxKey_any (xs : List UInt8) (b off c : Nat) (w : World) (hc : ∀ k, (h : k < xs.length) → w.cell? ⟨b, off + k, none⟩ = some (.int .u8 xs[k].toNat)) (hl : xs.length ≤ 9223372036854775806) :
    Calls Tryd.prog 104 #[.slice (some ⟨b, off, none⟩) xs.length c, .func (.func 86) #[] #[]] w fun e w' =>
      (∃ n : Int, e = .returned (.int .i64 n) ∧ (decide (0 ≤ n) = !xs.all keyc)) ∧ w = w' := by
  go_enter Tryd.func104, Tryd.ntmps104
  go_wp2_with fail
  go_loop [5, 8] (fun _ i => ∃ k : Nat, k ≤ xs.length ∧ i = .int .i64 k ∧ ∀ j, (h : j < xs.length) → j < k → keyc xs[j] = true) (fun _ i => xs.length - (intOf i).toNat)
  case atStart => exact ⟨0, Nat.zero_le _, rfl, fun j _ h => absurd h (by omega)⟩
  case round =>
    obtain ⟨k, hk, rfl, hall⟩ := hrel
    have HA := Go.Lib.hid hall
    clear hall
    by_cases hlt : k < xs.length
    · have hcell := hc k hlt
      have HC := Go.Lib.hid hc
      clear hc
      go_wp2_with (go_at_call 86; refine (keyc_any _ _).mono ?_; rintro e w' ⟨rfl, rfl⟩)
      · go_ret
        have hno : keyc xs[k] = false := by simpa using ‹(!keyc xs[k]) = true›
        refine ⟨⟨(k : Int), rfl, ?_⟩, rfl⟩
        have : xs.all keyc = false := List.all_eq_false.2 ⟨xs[k], List.getElem_mem hlt, by simp [hno]⟩
        simp [this]
      · have hyes : keyc xs[k] = true := by simpa using ‹(!keyc xs[k]) = false›
        go_round
        case rel =>
          refine ⟨k + 1, by omega, by go_num, fun j hj hjk => ?_⟩
          by_cases e : j = k
          · subst e; exact hyes
          · exact HA.out j hj (by omega)
        case measure => simp [intOf]; omega
    · go_wp2
      go_ret
      refine ⟨⟨-1, rfl, ?_⟩, rfl⟩
      have : xs.all keyc = true := by
        rw [List.all_eq_true]
        intro x hx
        obtain ⟨j, hj, rfl⟩ := List.getElem_of_mem hx
        exact HA.out j hj (by omega)
      simp [this]

set_option maxHeartbeats 400000 in
theorem conKey_any (xs : List UInt8) (b off c : Nat) (w : World) (hc : ∀ k, (h : k < xs.length) → w.cell? ⟨b, off + k, none⟩ = some (.int .u8 xs[k].toNat)) (hl : xs.length ≤ 9223372036854775806) :
    Calls Tryd.prog 85 #[.slice (some ⟨b, off, none⟩) xs.length c, .func (.func 86) #[] #[]] w fun e w' =>
      e = .returned (.bool (!xs.all keyc)) ∧ w = w' := by
  have HC := Go.Lib.hid hc
  clear hc
  go_enter Tryd.func85, Tryd.ntmps85
  go_wp2_with (go_at_call 104; refine (idxKey_any xs b off c _ HC.out hl).mono ?_; rintro e w' ⟨⟨n, rfl, hn⟩, rfl⟩)
  go_ret
  exact ⟨rfl, rfl⟩

set_option maxHeartbeats 400000 in
theorem key_any (s : ByteArray) (w : World) :
    Calls Tryd.prog 69 #[.string s] w fun e w' => e = .returned (.bool (keyOk s)) ∧ Below w.heap.size w w' := by
  rcases Nat.eq_zero_or_pos s.size with h0 | h0
  · have h1 : s.toList.isEmpty = true := by rw [empty_iff]; simp [h0]
    have H0 := Go.Lib.hid h0
    clear h0
    go_enter Tryd.func69, Tryd.ntmps69
    go_wp2_with fail
    go_ret
    exact ⟨eb (by simp [keyOk, H0.out]), Below.refl _ _⟩
  · have h1 : s.toList.isEmpty = false := by rw [empty_iff]; exact decide_eq_false (by omega)
    by_cases h8 : (8 : Int) < (s.size : Int)
    · go_enter Tryd.func69, Tryd.ntmps69
      go_wp2_with fail
      go_ret
      exact ⟨eb (by simp [keyOk]; omega), Below.refl _ _⟩
    · obtain ⟨cap, w1, hconv, hB, hz, hcell, _, _⟩ := conv_bytes (P := Tryd.prog) w 9 86 5 s Tryd.underlying9 Tryd.underlying86 Tryd.underlying5
      have HC := Go.Lib.hid hcell
      clear hcell
      have HB := Go.Lib.hid hB
      clear hB
      go_enter Tryd.func69, Tryd.ntmps69
      go_wp2_with fail
      have hsz := size_toList s
      have he := conKey_any s.data.toList w.heap.size 0 cap w1 HC.out (by rw [hsz]; omega)
      rw [hsz] at he
      refine he.mono ?_
      rintro e w' ⟨rfl, rfl⟩
      clear hsz he
      go_wp2_with fail
      go_ret
      exact ⟨eb (by simp [keyOk]; omega), HB.out⟩
end Go.Proofs.YtlmcipnogodnfaaDoor
