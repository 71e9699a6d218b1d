/-
  
-/
import Derived.Test.YtojojpjldkpmoaaGreatDoorGSpec
set_option linter.unusedVariables false
set_option linter.unusedSimpArgs false
set_option maxHeartbeats 16000000
namespace Go.Proofs.YtojojpjldkpmoaaGreatDoor
section
open Go.RowKit
theorem keyc_any (c : UInt8) (w : World) : Calls Tryz.prog 103 #[.int .u8 c.toNat] w fun e w' => e = .returned (.bool (!keyc c)) /\ w = w' := by
 go_enter Tryz.func103, Tryz.ntmps103
 go_wp2
 all_goals (go_ret; refine ⟨eb ?_, rfl⟩; unfold keyc; rw [Bool.eq_iff_iff]; simp; omega)
theorem idxKey_any (xs : List UInt8) (b off c : Nat) (w : World) (hc : ∀ k, (h : k < xs.length) -> w.cell? ⟨b, off + k, none⟩ = some (.int .u8 xs[k].toNat)) (hl : xs.length <= 9223372036854775806) :
  Calls Tryz.prog 143 #[.slice (some ⟨b, off, none⟩) xs.length c, .func (.func 103) #[] #[]] w fun e w' =>
   (∃ n : Int, e = .returned (.int .i64 n) /\ (decide (0 <= n) = !xs.all keyc)) /\ w = w' := by
 go_enter Tryz.func143, Tryz.ntmps143
 go_wp2_with fail
 go_loop [5, 8] (fun _ i => ∃ k : Nat, k <= xs.length /\ i = .int .i64 k /\ ∀ j, (h : j < xs.length) -> j < k -> keyc xs[j] = true) (fun _ i => xs.length - (intOf i).toNat)
 case atStart => exact ⟨0, zak _, rfl, fun j _ h => absurd h (by omega)⟩
 case round =>
  obtain ⟨k, hk, rfl, hall⟩ := hrel
  have HA := zaa hall
  clear hall
  by_cases hlt : k < xs.length
  · have hcell := hc k hlt
    have HC := zaa hc
    clear hc
    go_wp2_with (go_at_call 103; refine (keyc_any _ _).mono ?_; rintro e w' ⟨rfl, rfl⟩)
    · go_ret
      have hno : keyc xs[k] = false := by simpa using ‹(!keyc xs[k]) = true›
      refine ⟨⟨(k : Int), rfl, ?_⟩, rfl⟩
      have : xs.all keyc = false := List.all_eq_false.2 ⟨xs[k], zas hlt, by simp [hno]⟩
      simp [this]
    · have hyes : keyc xs[k] = true := by simpa using ‹(!keyc xs[k]) = false›
      go_round
      case rel =>
       refine ⟨k + 1, by omega, by go_num, fun j hj hjk => ?_⟩
       by_cases e : j = k
       · subst e; exact hyes
       · exact HA.out j hj (by omega)
      case measure => simp [intOf]; omega
  · go_wp2
    go_ret
    refine ⟨⟨-1, rfl, ?_⟩, rfl⟩
    have : xs.all keyc = true := by
     rw [List.all_eq_true]
     intro x hx
     obtain ⟨j, hj, rfl⟩ := zaj hx
     exact HA.out j hj (by omega)
    simp [this]
theorem conKey_any (xs : List UInt8) (b off c : Nat) (w : World) (hc : ∀ k, (h : k < xs.length) -> w.cell? ⟨b, off + k, none⟩ = some (.int .u8 xs[k].toNat)) (hl : xs.length <= 9223372036854775806) :
  Calls Tryz.prog 102 #[.slice (some ⟨b, off, none⟩) xs.length c, .func (.func 103) #[] #[]] w fun e w' =>
   e = .returned (.bool (!xs.all keyc)) /\ w = w' := by
 have HC := zaa hc
 clear hc
 go_enter Tryz.func102, Tryz.ntmps102
 go_wp2_with (go_at_call 143; refine (idxKey_any xs b off c _ HC.out hl).mono ?_; rintro e w' ⟨⟨n, rfl, hn⟩, rfl⟩)
 go_ret
 exact ⟨rfl, rfl⟩
theorem key_any (s : ByteArray) (w : World) :
  Calls Tryz.prog 64 #[.string s] w fun e w' => e = .returned (.bool (keyOk s)) /\ Below w.heap.size w w' := by
 rcases zaJ s.size with h0 | h0
 · have h1 : s.toList.isEmpty = true := by rw [empty_iff]; simp [h0]
   have H0 := zaa h0
   clear h0
   go_enter Tryz.func64, Tryz.ntmps64
   go_wp2_with fail
   go_ret
   exact ⟨eb (by simp [keyOk, H0.out]), zad _ _⟩
 · have h1 : s.toList.isEmpty = false := by rw [empty_iff]; exact decide_eq_false (by omega)
   by_cases h8 : (8 : Int) < (s.size : Int)
   · go_enter Tryz.func64, Tryz.ntmps64
     go_wp2_with fail
     go_ret
     exact ⟨eb (by simp [keyOk]; omega), zad _ _⟩
   · obtain ⟨cap, w1, hconv, hB, hz, hcell, _, _⟩ := conv_bytes (P := Tryz.prog) w 9 106 5 s Tryz.underlying9 Tryz.underlying106 Tryz.underlying5
     have HC := zaa hcell
     clear hcell
     have HB := zaa hB
     clear hB
     go_enter Tryz.func64, Tryz.ntmps64
     go_wp2_with fail
     have hsz := size_toList s
     have he := conKey_any s.data.toList w.heap.size 0 cap w1 HC.out (by rw [hsz]; omega)
     rw [hsz] at he
     refine he.mono ?_
     rintro e w' ⟨rfl, rfl⟩
     clear hsz he
     go_wp2_with fail
     go_ret
     exact ⟨eb (by simp [keyOk]; omega), HB.out⟩
theorem entry_any (e : Entry) (w : World) : Calls Tryz.prog 101 #[e.val] w fun r w' => r = .returned (.bool (entryOk e)) /\ Below w.heap.size w w' := by
 unfold Entry.val
 go_enter Tryz.func101, Tryz.ntmps101
 go_wp2_with fail
 refine (key_any _ _).mono ?_
 rintro r w1 ⟨rfl, hb1⟩
 obtain ⟨hA, hN, hF, hS⟩ := pastAlloc hb1
 have HA := zaa hA
 clear hA hb1 hF
 go_wp2_with fail
 all_goals (go_ret; refine ⟨eb ?_, HA.out⟩; unfold entryOk; rw [Bool.eq_iff_iff]; simp [*]; try omega)
theorem check_any (v : Value) (xs : List Entry) (w : World) (h : Sl entR w v xs) :
  Calls Tryz.prog 63 #[v] w fun e w' => e = .returned (.int .i64 (checkS xs)) /\ Below w.heap.size w w' := by
 have h0 := h
 obtain ⟨A, c, rfl, hlc, hcm, _⟩ := h0
 have hl : xs.length <= 9223372036854775807 := by unfold maxLen at hcm; omega
 have H := zaa h
 clear h hlc hcm
 by_cases h60 : 60 < xs.length
 · have h60' : (60 : Int) < (xs.length : Int) := by omega
   go_enter Tryz.func63, Tryz.ntmps63
   go_wp2_with fail
   go_ret
   exact ⟨ei (by simp [checkS, h60]), zad _ _⟩
 · have h60' : ¬ (60 : Int) < (xs.length : Int) := by omega
   go_enter Tryz.func63, Tryz.ntmps63
   go_wp2_with fail
   have hs0 : checkS xs = chk xs (xs.length - 0) 0 := by simp [checkS, h60]
   go_loopw [2, 3, 4, 10, 11, 12] (fun _ _ _ i _ _ wr => ∃ k : Nat, k <= xs.length /\ i = .int .i64 k /\ Below w.heap.size w wr /\ checkS xs = chk xs (xs.length - k) k) (fun _ _ _ i _ _ _ => xs.length - (intOf i).toNat)
   case atStart => exact ⟨0, zak _, rfl, zad _ _, hs0⟩
   case round =>
    obtain ⟨k, hk, rfl, hB, hs⟩ := hrel
    have HS := zaa hs
    clear hs hs0
    by_cases hlt : k < xs.length
    · obtain ⟨b, off, rfl, hb⟩ := H.out.at_ hlt
      obtain ⟨f1, f2, f3, f4, _⟩ := (H.out.below hB).ent hlt
      have hz := hB.size
      go_wp2_with fail
      refine (entry_any xs[k] _).mono ?_
      rintro r w1 ⟨rfl, hb1⟩
      obtain ⟨hA, hN, hF, hS⟩ := pastAlloc hb1
      have hB1 := hB.trans (hA.mono hz)
      have HB1 := zaa hB1
      clear hA hb1 hF f1 f2 f3 f4
      go_wp2_with fail
      · go_ret
        have hno : entryOk xs[k] = false := by simpa using ‹(!entryOk xs[k]) = true›
        exact ⟨ei (by rw [HS.out, chk_bad xs k hlt hno]), HB1.out⟩
      · have hyes : entryOk xs[k] = true := by simpa using ‹(!entryOk xs[k]) = false›
        rcases zaJ k with h0 | h0
        · subst h0
          go_quiet (fail)
          go_wp2
          go_roundw
          case rel => exact ⟨1, by omega, by go_num, bDrewN HB1.out _, by rw [HS.out]; exact chk_first xs hlt hyes⟩
          case measure => simp [intOf]; omega
        · obtain ⟨m, rfl⟩ : ∃ m, k = m + 1 := ⟨k - 1, by omega⟩
          have hd : decide ((0 : Int) < (m : Int) + 1) = true := by rw [decide_eq_true_iff]; omega
          have hm : m < xs.length := by omega
          have q2 : (m : Int) < (xs.length : Int) := by omega
          obtain ⟨f1, _, _, _, _⟩ := (H.out.below HB1.out).ent hm
          go_quiet (fail)
          go_wp2
          · go_ret
            have ho : ltB xs[m].key xs[m + 1].key = false := by simpa using ‹(!ltB xs[m].key xs[m + 1].key) = true›
            exact ⟨ei (by rw [HS.out, chk_order xs m hlt hyes ho]), bDrewN HB1.out _⟩
          · have ho : ltB xs[m].key xs[m + 1].key = true := by simpa using ‹(!ltB xs[m].key xs[m + 1].key) = false›
            go_roundw
            case rel => exact ⟨m + 1 + 1, by omega, by go_num, bDrewN HB1.out _, by rw [HS.out]; exact chk_next xs m hlt hyes ho⟩
            case measure => simp [intOf]; omega
    · go_wp2
      go_ret
      exact ⟨ei (by rw [HS.out, chk_end xs k (by omega)]), hB⟩
end
end Go.Proofs.YtojojpjldkpmoaaGreatDoor
