/-
  
-/
import Derived.Test.YtbhbilenbbldnaaGreatDoorGSpec
set_option linter.unusedVariables false
set_option linter.unusedSimpArgs false
namespace Go.Proofs.YtbhbilenbbldnaaGreatDoor
open Go.RowKit
set_option maxHeartbeats 400000 in
theorem keyc_any (c : UInt8) (w : World) : Calls Tryz.prog 106 #[.int .u8 c.toNat] w fun e w' => e = .returned (.bool (!keyc c)) ∧ w = w' := by
 go_enter Tryz.func106, Tryz.ntmps106
 go_wp2
 all_goals (go_ret; refine ⟨eb ?_, rfl⟩; unfold keyc; rw [Bool.eq_iff_iff]; simp; omega)
set_option maxHeartbeats 400000 in
theorem idxKey_any (xs : List UInt8) (b off c : Nat) (w : World) (hc : ∀ k, (h : k < xs.length) → w.cell? ⟨b, off + k, none⟩ = some (.int .u8 xs[k].toNat)) (hl : xs.length ≤ 9223372036854775806) :
  Calls Tryz.prog 139 #[.slice (some ⟨b, off, none⟩) xs.length c, .func (.func 106) #[] #[]] w fun e w' =>
   (∃ n : Int, e = .returned (.int .i64 n) ∧ (decide (0 ≤ n) = !xs.all keyc)) ∧ w = w' := by
 go_enter Tryz.func139, Tryz.ntmps139
 go_wp2_with fail
 go_loop [5, 8] (fun _ i => ∃ k : Nat, k ≤ xs.length ∧ i = .int .i64 k ∧ ∀ j, (h : j < xs.length) → j < k → keyc xs[j] = true) (fun _ i => xs.length - (intOf i).toNat)
 case atStart => exact ⟨0, Nat.zero_le _, rfl, fun j _ h => absurd h (by omega)⟩
 case round =>
  obtain ⟨k, hk, rfl, hall⟩ := hrel
  have HA := Go.Lib.hid hall
  clear hall
  by_cases hlt : k < xs.length
  · have hcell := hc k hlt
    have HC := Go.Lib.hid hc
    clear hc
    go_wp2_with (go_at_call 106; refine (keyc_any _ _).mono ?_; rintro e w' ⟨rfl, rfl⟩)
    · go_ret
      have hno : keyc xs[k] = false := by simpa using ‹(!keyc xs[k]) = true›
      refine ⟨⟨(k : Int), rfl, ?_⟩, rfl⟩
      have : xs.all keyc = false := List.all_eq_false.2 ⟨xs[k], List.getElem_mem hlt, by simp [hno]⟩
      simp [this]
    · have hyes : keyc xs[k] = true := by simpa using ‹(!keyc xs[k]) = false›
      go_round
      case rel =>
       refine ⟨k + 1, by omega, by go_num, fun j hj hjk => ?_⟩
       by_cases e : j = k
       · subst e; exact hyes
       · exact HA.out j hj (by omega)
      case measure => simp [intOf]; omega
  · go_wp2
    go_ret
    refine ⟨⟨-1, rfl, ?_⟩, rfl⟩
    have : xs.all keyc = true := by
     rw [List.all_eq_true]
     intro x hx
     obtain ⟨j, hj, rfl⟩ := List.getElem_of_mem hx
     exact HA.out j hj (by omega)
    simp [this]
set_option maxHeartbeats 400000 in
theorem conKey_any (xs : List UInt8) (b off c : Nat) (w : World) (hc : ∀ k, (h : k < xs.length) → w.cell? ⟨b, off + k, none⟩ = some (.int .u8 xs[k].toNat)) (hl : xs.length ≤ 9223372036854775806) :
  Calls Tryz.prog 105 #[.slice (some ⟨b, off, none⟩) xs.length c, .func (.func 106) #[] #[]] w fun e w' =>
   e = .returned (.bool (!xs.all keyc)) ∧ w = w' := by
 have HC := Go.Lib.hid hc
 clear hc
 go_enter Tryz.func105, Tryz.ntmps105
 go_wp2_with (go_at_call 139; refine (idxKey_any xs b off c _ HC.out hl).mono ?_; rintro e w' ⟨⟨n, rfl, hn⟩, rfl⟩)
 go_ret
 exact ⟨rfl, rfl⟩
set_option maxHeartbeats 400000 in
theorem key_any (s : ByteArray) (w : World) :
  Calls Tryz.prog 73 #[.string s] w fun e w' => e = .returned (.bool (keyOk s)) ∧ Below w.heap.size w w' := by
 rcases Nat.eq_zero_or_pos s.size with h0 | h0
 · have h1 : s.toList.isEmpty = true := by rw [empty_iff]; simp [h0]
   have H0 := Go.Lib.hid h0
   clear h0
   go_enter Tryz.func73, Tryz.ntmps73
   go_wp2_with fail
   go_ret
   exact ⟨eb (by simp [keyOk, H0.out]), Below.refl _ _⟩
 · have h1 : s.toList.isEmpty = false := by rw [empty_iff]; exact decide_eq_false (by omega)
   by_cases h8 : (8 : Int) < (s.size : Int)
   · go_enter Tryz.func73, Tryz.ntmps73
     go_wp2_with fail
     go_ret
     exact ⟨eb (by simp [keyOk]; omega), Below.refl _ _⟩
   · obtain ⟨cap, w1, hconv, hB, hz, hcell, _, _⟩ := conv_bytes (P := Tryz.prog) w 9 98 5 s Tryz.underlying9 Tryz.underlying98 Tryz.underlying5
     have HC := Go.Lib.hid hcell
     clear hcell
     have HB := Go.Lib.hid hB
     clear hB
     go_enter Tryz.func73, Tryz.ntmps73
     go_wp2_with fail
     have hsz := size_toList s
     have he := conKey_any s.data.toList w.heap.size 0 cap w1 HC.out (by rw [hsz]; omega)
     rw [hsz] at he
     refine he.mono ?_
     rintro e w' ⟨rfl, rfl⟩
     clear hsz he
     go_wp2_with fail
     go_ret
     exact ⟨eb (by simp [keyOk]; omega), HB.out⟩
end Go.Proofs.YtbhbilenbbldnaaGreatDoor

namespace Go.Proofs.YtbhbilenbbldnaaGreatDoor
open Go.RowKit
set_option maxHeartbeats 400000 in
theorem entry_any (e : Entry) (w : World) : Calls Tryz.prog 44 #[e.val] w fun r w' => r = .returned (.bool (entryOk e)) ∧ Below w.heap.size w w' := by
 unfold Entry.val
 go_enter Tryz.func44, Tryz.ntmps44
 go_wp2_with fail
 refine (key_any _ _).mono ?_
 rintro r w1 ⟨rfl, hb1⟩
 obtain ⟨hA, hN, hF, hS⟩ := pastAlloc hb1
 have HA := Go.Lib.hid hA
 clear hA hb1 hF
 go_wp2_with fail
 all_goals (go_ret; refine ⟨eb ?_, HA.out⟩; unfold entryOk; rw [Bool.eq_iff_iff]; simp [*]; try omega)
set_option maxHeartbeats 1000000 in
theorem check_any (v : Value) (xs : List Entry) (w : World) (h : Sl entR w v xs) :
  Calls Tryz.prog 15 #[v] w fun e w' => e = .returned (.int .i64 (checkS xs)) ∧ Below w.heap.size w w' := by
 have h0 := h
 obtain ⟨A, c, rfl, hlc, hcm, _⟩ := h0
 have hl : xs.length ≤ 9223372036854775807 := by unfold maxLen at hcm; omega
 have H := Go.Lib.hid h
 clear h hlc hcm
 by_cases h60 : 60 < xs.length
 · have h60' : (60 : Int) < (xs.length : Int) := by omega
   go_enter Tryz.func15, Tryz.ntmps15
   go_wp2_with fail
   go_ret
   exact ⟨ei (by simp [checkS, h60]), Below.refl _ _⟩
 · have h60' : ¬ (60 : Int) < (xs.length : Int) := by omega
   go_enter Tryz.func15, Tryz.ntmps15
   go_wp2_with fail
   have hs0 : checkS xs = chk xs (xs.length - 0) 0 := by simp [checkS, h60]
   go_loopw [2, 3, 4, 10, 11, 12] (fun _ _ _ i _ _ wr => ∃ k : Nat, k ≤ xs.length ∧ i = .int .i64 k ∧ Below w.heap.size w wr ∧ checkS xs = chk xs (xs.length - k) k) (fun _ _ _ i _ _ _ => xs.length - (intOf i).toNat)
   case atStart => exact ⟨0, Nat.zero_le _, rfl, Below.refl _ _, hs0⟩
   case round =>
    obtain ⟨k, hk, rfl, hB, hs⟩ := hrel
    have HS := Go.Lib.hid hs
    clear hs hs0
    by_cases hlt : k < xs.length
    · obtain ⟨b, off, rfl, hb⟩ := H.out.at_ hlt
      obtain ⟨f1, f2, f3, f4, _⟩ := (H.out.below hB).ent hlt
      have hz := hB.size
      go_wp2_with fail
      refine (entry_any xs[k] _).mono ?_
      rintro r w1 ⟨rfl, hb1⟩
      obtain ⟨hA, hN, hF, hS⟩ := pastAlloc hb1
      have hB1 := hB.trans (hA.mono hz)
      have HB1 := Go.Lib.hid hB1
      clear hA hb1 hF f1 f2 f3 f4
      go_wp2_with fail
      · go_ret
        have hno : entryOk xs[k] = false := by simpa using ‹(!entryOk xs[k]) = true›
        exact ⟨ei (by rw [HS.out, chk_bad xs k hlt hno]), HB1.out⟩
      · have hyes : entryOk xs[k] = true := by simpa using ‹(!entryOk xs[k]) = false›
        rcases Nat.eq_zero_or_pos k with h0 | h0
        · subst h0
          go_quiet (fail)
          go_wp2
          go_roundw
          case rel => exact ⟨1, by omega, by go_num, bDrewN HB1.out _, by rw [HS.out]; exact chk_first xs hlt hyes⟩
          case measure => simp [intOf]; omega
        · obtain ⟨m, rfl⟩ : ∃ m, k = m + 1 := ⟨k - 1, by omega⟩
          have hd : decide ((0 : Int) < (m : Int) + 1) = true := by rw [decide_eq_true_iff]; omega
          have hm : m < xs.length := by omega
          have q2 : (m : Int) < (xs.length : Int) := by omega
          obtain ⟨f1, _, _, _, _⟩ := (H.out.below HB1.out).ent hm
          go_quiet (fail)
          go_wp2
          · go_ret
            have ho : ltB xs[m].key xs[m + 1].key = false := by simpa using ‹(!ltB xs[m].key xs[m + 1].key) = true›
            exact ⟨ei (by rw [HS.out, chk_order xs m hlt hyes ho]), bDrewN HB1.out _⟩
          · have ho : ltB xs[m].key xs[m + 1].key = true := by simpa using ‹(!ltB xs[m].key xs[m + 1].key) = false›
            go_roundw
            case rel => exact ⟨m + 1 + 1, by omega, by go_num, bDrewN HB1.out _, by rw [HS.out]; exact chk_next xs m hlt hyes ho⟩
            case measure => simp [intOf]; omega
    · go_wp2
      go_ret
      exact ⟨ei (by rw [HS.out, chk_end xs k (by omega)]), hB⟩
end Go.Proofs.YtbhbilenbbldnaaGreatDoor
