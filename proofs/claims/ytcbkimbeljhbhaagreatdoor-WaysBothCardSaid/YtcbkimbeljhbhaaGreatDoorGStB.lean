/-
  Walks of the store layer, part A: keys, entries, Check.
  Walks of the store layer, part B: KeyMay, entries, Check, StoreFault.
-/
import Derived.Test.YtcbkimbeljhbhaaGreatDoorGSpec
set_option linter.unusedVariables false
set_option linter.unusedSimpArgs false
namespace Go.Proofs.YtcbkimbeljhbhaaGreatDoor
open Go.RowKit

set_option maxHeartbeats 400000 in
theorem keyc_any (c : UInt8) (w : World) : Calls Tryz.prog 117 #[.int .u8 c.toNat] w fun e w' => e = .returned (.bool (!keyc c)) ∧ w = w' := by
  go_enter Tryz.func117, Tryz.ntmps117
  go_wp2
  all_goals (go_ret; refine ⟨eb ?_, rfl⟩; unfold keyc; rw [Bool.eq_iff_iff]; simp; omega)

set_option maxHeartbeats 400000 in
theorem idxKey_any (xs : List UInt8) (b off c : Nat) (w : World) (hc : ∀ k, (h : k < xs.length) → w.cell? ⟨b, off + k, none⟩ = some (.int .u8 xs[k].toNat)) (hl : xs.length ≤ 9223372036854775806) :
    Calls Tryz.prog 140 #[.slice (some ⟨b, off, none⟩) xs.length c, .func (.func 117) #[] #[]] w fun e w' =>
      (∃ n : Int, e = .returned (.int .i64 n) ∧ (decide (0 ≤ n) = !xs.all keyc)) ∧ w = w' := by
  go_enter Tryz.func140, Tryz.ntmps140
  go_wp2_with fail
  go_loop [5, 8] (fun _ i => ∃ k : Nat, k ≤ xs.length ∧ i = .int .i64 k ∧ ∀ j, (h : j < xs.length) → j < k → keyc xs[j] = true) (fun _ i => xs.length - (intOf i).toNat)
  case atStart => exact ⟨0, Nat.zero_le _, rfl, fun j _ h => absurd h (by omega)⟩
  case round =>
    obtain ⟨k, hk, rfl, hall⟩ := hrel
    have HA := Go.Lib.hid hall
    clear hall
    by_cases hlt : k < xs.length
    · have hcell := hc k hlt
      have HC := Go.Lib.hid hc
      clear hc
      go_wp2_with (go_at_call 117; refine (keyc_any _ _).mono ?_; rintro e w' ⟨rfl, rfl⟩)
      · go_ret
        have hno : keyc xs[k] = false := by simpa using ‹(!keyc xs[k]) = true›
        refine ⟨⟨(k : Int), rfl, ?_⟩, rfl⟩
        have : xs.all keyc = false := List.all_eq_false.2 ⟨xs[k], List.getElem_mem hlt, by simp [hno]⟩
        simp [this]
      · have hyes : keyc xs[k] = true := by simpa using ‹(!keyc xs[k]) = false›
        go_round
        case rel =>
          refine ⟨k + 1, by omega, by go_num, fun j hj hjk => ?_⟩
          by_cases e : j = k
          · subst e; exact hyes
          · exact HA.out j hj (by omega)
        case measure => simp [intOf]; omega
    · go_wp2
      go_ret
      refine ⟨⟨-1, rfl, ?_⟩, rfl⟩
      have : xs.all keyc = true := by
        rw [List.all_eq_true]
        intro x hx
        obtain ⟨j, hj, rfl⟩ := List.getElem_of_mem hx
        exact HA.out j hj (by omega)
      simp [this]

set_option maxHeartbeats 400000 in
theorem conKey_any (xs : List UInt8) (b off c : Nat) (w : World) (hc : ∀ k, (h : k < xs.length) → w.cell? ⟨b, off + k, none⟩ = some (.int .u8 xs[k].toNat)) (hl : xs.length ≤ 9223372036854775806) :
    Calls Tryz.prog 116 #[.slice (some ⟨b, off, none⟩) xs.length c, .func (.func 117) #[] #[]] w fun e w' =>
      e = .returned (.bool (!xs.all keyc)) ∧ w = w' := by
  have HC := Go.Lib.hid hc
  clear hc
  go_enter Tryz.func116, Tryz.ntmps116
  go_wp2_with (go_at_call 140; refine (idxKey_any xs b off c _ HC.out hl).mono ?_; rintro e w' ⟨⟨n, rfl, hn⟩, rfl⟩)
  go_ret
  exact ⟨rfl, rfl⟩

set_option maxHeartbeats 400000 in
theorem key_any (s : ByteArray) (w : World) :
    Calls Tryz.prog 90 #[.string s] w fun e w' => e = .returned (.bool (keyOk s)) ∧ Below w.heap.size w w' := by
  rcases Nat.eq_zero_or_pos s.size with h0 | h0
  · have h1 : s.toList.isEmpty = true := by rw [empty_iff]; simp [h0]
    have H0 := Go.Lib.hid h0
    clear h0
    go_enter Tryz.func90, Tryz.ntmps90
    go_wp2_with fail
    go_ret
    exact ⟨eb (by simp [keyOk, H0.out]), Below.refl _ _⟩
  · have h1 : s.toList.isEmpty = false := by rw [empty_iff]; exact decide_eq_false (by omega)
    by_cases h8 : (8 : Int) < (s.size : Int)
    · go_enter Tryz.func90, Tryz.ntmps90
      go_wp2_with fail
      go_ret
      exact ⟨eb (by simp [keyOk]; omega), Below.refl _ _⟩
    · obtain ⟨cap, w1, hconv, hB, hz, hcell, _, _⟩ := conv_bytes (P := Tryz.prog) w 9 98 5 s Tryz.underlying9 Tryz.underlying98 Tryz.underlying5
      have HC := Go.Lib.hid hcell
      clear hcell
      have HB := Go.Lib.hid hB
      clear hB
      go_enter Tryz.func90, Tryz.ntmps90
      go_wp2_with fail
      have hsz := size_toList s
      have he := conKey_any s.data.toList w.heap.size 0 cap w1 HC.out (by rw [hsz]; omega)
      rw [hsz] at he
      refine he.mono ?_
      rintro e w' ⟨rfl, rfl⟩
      clear hsz he
      go_wp2_with fail
      go_ret
      exact ⟨eb (by simp [keyOk]; omega), HB.out⟩
end Go.Proofs.YtcbkimbeljhbhaaGreatDoor

namespace Go.Proofs.YtcbkimbeljhbhaaGreatDoor
open Go.RowKit

set_option maxHeartbeats 400000 in
theorem in_any (n l h : Int) (w : World) : Calls Tryz.prog 67 #[.int .i64 n, .int .i64 l, .int .i64 h] w fun e w' => e = .returned (.bool (decide (l ≤ n) && decide (n ≤ h))) ∧ w = w' := by
  go_enter Tryz.func67, Tryz.ntmps67
  go_wp2
  all_goals (go_ret; refine ⟨eb ?_, rfl⟩; rw [Bool.eq_iff_iff]; simp; try omega)

theorem keyc_cases (c : UInt8) : (keyc c = true ∧ 97 ≤ (c.toNat : Int) ∧ (c.toNat : Int) ≤ 122) ∨ (keyc c = true ∧ 48 ≤ (c.toNat : Int) ∧ (c.toNat : Int) ≤ 57) ∨ (keyc c = true ∧ (c.toNat : Int) = 58) ∨
    (keyc c = false ∧ ((c.toNat : Int) < 97 ∨ 122 < (c.toNat : Int)) ∧ ((c.toNat : Int) < 48 ∨ 57 < (c.toNat : Int)) ∧ ((c.toNat : Int) < 58 ∨ 58 < (c.toNat : Int))) := by
  unfold keyc
  by_cases h1 : 97 ≤ c.toNat ∧ c.toNat ≤ 122
  · left; simp [h1]; omega
  · by_cases h2 : 48 ≤ c.toNat ∧ c.toNat ≤ 57
    · right; left; simp [h2]; omega
    · by_cases h3 : c.toNat = 58
      · right; right; left; simp [h3]
      · right; right; right
        refine ⟨?_, by omega, by omega, by omega⟩
        rw [Bool.eq_false_iff]
        simp; omega

theorem all_of {p : UInt8 → Bool} {l : List UInt8} (h : ∀ j, (h : j < l.length) → p l[j] = true) : l.all p = true := by
  rw [List.all_eq_true]
  intro x hx
  obtain ⟨j, hj, rfl⟩ := List.getElem_of_mem hx
  exact h j hj
theorem not_all_of {p : UInt8 → Bool} {l : List UInt8} {j : Nat} (hj : j < l.length) (h : p l[j] = false) : l.all p = false :=
  List.all_eq_false.2 ⟨l[j], List.getElem_mem hj, by simp [h]⟩

set_option maxHeartbeats 400000 in
theorem keymay_any (s : ByteArray) (w : World) (hl : s.size ≤ 9223372036854775807) :
    Calls Tryz.prog 97 #[.string s] w fun e w' => e = .returned (.bool (keyOk s)) ∧ w = w' := by
  go_enter Tryz.func97, Tryz.ntmps97
  go_wp2_with fail
  go_loop [3] (fun i => ∃ k : Nat, k ≤ s.size ∧ i = .int .i64 k ∧ ∀ j, (h : j < s.data.toList.length) → j < k → keyc s.data.toList[j] = true) (fun i => s.size - (intOf i).toNat)
  case atStart => exact ⟨0, Nat.zero_le _, rfl, fun j _ h => absurd h (by omega)⟩
  case round =>
    obtain ⟨k, hk, rfl, hall⟩ := hrel
    have HA := Go.Lib.hid hall
    clear hall
    by_cases hlt : k < s.size
    · have hu : s[k].toNat < 256 := s[k].toNat_lt
      have hl' : k < s.data.toList.length := by simpa using hlt
      have hx : s.data.toList[k] = s[k] := rfl
      have HX := Go.Lib.hid hx
      clear hx
      rcases keyc_cases s[k] with ⟨hc, h1, h2⟩ | ⟨hc, h1, h2⟩ | ⟨hc, h1⟩ | ⟨hc, h1, h2, h3⟩
      case' inr.inr.inl => have h2 : ((s[k].toNat : Int) != 58) = false := by simp [h1]
      case' inr.inr.inr => have h4 : ((s[k].toNat : Int) != 58) = true := by rw [bne_iff_ne]; omega
      all_goals
        have HK := Go.Lib.hid hc
        clear hc
        go_wp2_with (go_at_call 67; refine (in_any _ _ _ _).mono ?_; rintro e w' ⟨rfl, rfl⟩)
      all_goals first
        | (go_ret
           exact ⟨eb (by simp [keyOk, not_all_of hl' HK.out]), rfl⟩)
        | (go_round
           case rel =>
             refine ⟨k + 1, by omega, by go_num, fun j hj hjk => ?_⟩
             by_cases e : j = k
             · subst e; exact HK.out
             · exact HA.out j hj (by omega)
           case measure => simp [intOf]; omega)
        | (exfalso
           have hq := ‹_ ∨ _›
           simp at hq
           omega)
        | (exfalso; simp at *; omega)
    · go_wp2_with (go_at_call 67; refine (in_any _ _ _ _).mono ?_; rintro e w' ⟨rfl, rfl⟩)
      go_ret
      refine ⟨eb ?_, rfl⟩
      have ha : s.data.toList.all keyc = true := all_of fun j hj => HA.out j hj (by simp at hj; omega)
      unfold keyOk; rw [ha, Bool.and_true, Bool.eq_iff_iff]; simp; omega

def Entry.ok4 (e : Entry) : Bool := decide (1 ≤ e.version) && decide (e.version ≤ 1099511627776) && decide (0 ≤ e.origin) && decide (e.origin ≤ 11) && decide (e.value.size ≤ 120)

set_option maxHeartbeats 400000 in
theorem entry_any (e : Entry) (w : World) : Calls Tryz.prog 59 #[e.val] w fun r w' => r = .returned (.bool (entryOk e)) ∧ Below w.heap.size w w' := by
  unfold Entry.val
  go_enter Tryz.func59, Tryz.ntmps59
  go_wp2_with fail
  refine (key_any _ _).mono ?_
  rintro r w1 ⟨rfl, hb1⟩
  obtain ⟨hA, hN, hF, hS⟩ := pastAlloc hb1
  have HA := Go.Lib.hid hA
  clear hA hb1 hF
  go_wp2_with fail
  all_goals (go_ret; refine ⟨eb ?_, HA.out⟩; unfold entryOk; rw [Bool.eq_iff_iff]; simp [*]; try omega)

set_option maxHeartbeats 1000000 in
theorem check_any (v : Value) (xs : List Entry) (w : World) (h : Sl entR w v xs) :
    Calls Tryz.prog 23 #[v] w fun e w' => e = .returned (.int .i64 (checkS xs)) ∧ Below w.heap.size w w' := by
  have h0 := h
  obtain ⟨A, c, rfl, hlc, hcm, _⟩ := h0
  have hl : xs.length ≤ 9223372036854775807 := by unfold maxLen at hcm; omega
  have H := Go.Lib.hid h
  clear h hlc hcm
  by_cases h60 : 60 < xs.length
  · have h60' : (60 : Int) < (xs.length : Int) := by omega
    go_enter Tryz.func23, Tryz.ntmps23
    go_wp2_with fail
    go_ret
    exact ⟨ei (by simp [checkS, h60]), Below.refl _ _⟩
  · have h60' : ¬ (60 : Int) < (xs.length : Int) := by omega
    go_enter Tryz.func23, Tryz.ntmps23
    go_wp2_with fail
    have hs0 : checkS xs = chk xs (xs.length - 0) 0 := by simp [checkS, h60]
    go_loopw [2, 3, 4, 10, 11, 12] (fun _ _ _ i _ _ wr => ∃ k : Nat, k ≤ xs.length ∧ i = .int .i64 k ∧ Below w.heap.size w wr ∧ checkS xs = chk xs (xs.length - k) k) (fun _ _ _ i _ _ _ => xs.length - (intOf i).toNat)
    case atStart => exact ⟨0, Nat.zero_le _, rfl, Below.refl _ _, hs0⟩
    case round =>
      obtain ⟨k, hk, rfl, hB, hs⟩ := hrel
      have HS := Go.Lib.hid hs
      clear hs hs0
      by_cases hlt : k < xs.length
      · obtain ⟨b, off, rfl, hb⟩ := H.out.at_ hlt
        obtain ⟨f1, f2, f3, f4, _⟩ := (H.out.below hB).ent hlt
        have hz := hB.size
        go_wp2_with fail
        refine (entry_any xs[k] _).mono ?_
        rintro r w1 ⟨rfl, hb1⟩
        obtain ⟨hA, hN, hF, hS⟩ := pastAlloc hb1
        have hB1 := hB.trans (hA.mono hz)
        have HB1 := Go.Lib.hid hB1
        clear hA hb1 hF f1 f2 f3 f4
        go_wp2_with fail
        · go_ret
          have hno : entryOk xs[k] = false := by simpa using ‹(!entryOk xs[k]) = true›
          exact ⟨ei (by rw [HS.out, chk_bad xs k hlt hno]), HB1.out⟩
        · have hyes : entryOk xs[k] = true := by simpa using ‹(!entryOk xs[k]) = false›
          rcases Nat.eq_zero_or_pos k with h0 | h0
          · subst h0
            go_quiet (fail)
            go_wp2
            go_roundw
            case rel => exact ⟨1, by omega, by go_num, bDrewN HB1.out _, by rw [HS.out]; exact chk_first xs hlt hyes⟩
            case measure => simp [intOf]; omega
          · obtain ⟨m, rfl⟩ : ∃ m, k = m + 1 := ⟨k - 1, by omega⟩
            have hd : decide ((0 : Int) < (m : Int) + 1) = true := by rw [decide_eq_true_iff]; omega
            have hm : m < xs.length := by omega
            have q2 : (m : Int) < (xs.length : Int) := by omega
            obtain ⟨f1, _, _, _, _⟩ := (H.out.below HB1.out).ent hm
            go_quiet (fail)
            go_wp2
            · go_ret
              have ho : ltB xs[m].key xs[m + 1].key = false := by simpa using ‹(!ltB xs[m].key xs[m + 1].key) = true›
              exact ⟨ei (by rw [HS.out, chk_order xs m hlt hyes ho]), bDrewN HB1.out _⟩
            · have ho : ltB xs[m].key xs[m + 1].key = true := by simpa using ‹(!ltB xs[m].key xs[m + 1].key) = false›
              go_roundw
              case rel => exact ⟨m + 1 + 1, by omega, by go_num, bDrewN HB1.out _, by rw [HS.out]; exact chk_next xs m hlt hyes ho⟩
              case measure => simp [intOf]; omega
      · go_wp2
        go_ret
        exact ⟨ei (by rw [HS.out, chk_end xs k (by omega)]), hB⟩

set_option maxHeartbeats 1000000 in
theorem fault_any (v : Value) (xs : List Entry) (w : World) (h : Sl entR w v xs) :
    Calls Tryz.prog 66 #[v] w fun e w' => e = .returned (.int .i64 (checkS xs)) ∧ Below w.heap.size w w' := by
  have h0 := h
  obtain ⟨A, c, rfl, hlc, hcm, _⟩ := h0
  have hl : xs.length ≤ 9223372036854775807 := by unfold maxLen at hcm; omega
  have H := Go.Lib.hid h
  clear h hlc hcm
  by_cases h60 : 60 < xs.length
  · have h60' : (60 : Int) < (xs.length : Int) := by omega
    go_enter Tryz.func66, Tryz.ntmps66
    go_wp2_with fail
    go_ret
    exact ⟨ei (by simp [checkS, h60]), Below.refl _ _⟩
  · have h60' : ¬ (60 : Int) < (xs.length : Int) := by omega
    go_enter Tryz.func66, Tryz.ntmps66
    go_wp2_with fail
    have hs0 : checkS xs = chk xs (xs.length - 0) 0 := by simp [checkS, h60]
    go_loopw [2, 3, 4] (fun _ i _ wr => ∃ k : Nat, k ≤ xs.length ∧ i = .int .i64 k ∧ Below w.heap.size w wr ∧ checkS xs = chk xs (xs.length - k) k) (fun _ i _ _ => xs.length - (intOf i).toNat)
    case atStart => exact ⟨0, Nat.zero_le _, rfl, Below.refl _ _, hs0⟩
    case round =>
      obtain ⟨k, hk, rfl, hB, hs⟩ := hrel
      have HS := Go.Lib.hid hs
      clear hs hs0
      by_cases hlt : k < xs.length
      · obtain ⟨b, off, rfl, hb⟩ := H.out.at_ hlt
        obtain ⟨f1, f2, f3, f4, wf1, wf2, wf3, wf4⟩ := (H.out.below hB).ent hlt
        have hz := hB.size
        have hB1 := hB.alloc hz (.cells #[.string xs[k].key, .int .i64 xs[k].version, .int .i64 xs[k].origin, .string xs[k].value] 50)
        have HB1 := Go.Lib.hid hB1
        have hbw : b < wr.heap.size := by omega
        clear hB1
        clear wf2 wf3 wf4
        have HW := Go.Lib.hid wf1
        clear wf1
        go_wp2_with (first
          | (go_at_call 97; refine (keymay_any _ _ (by have := HW.out; unfold maxLen at this; omega)).mono ?_; rintro e w' ⟨rfl, rfl⟩)
          | (go_at_call 67; refine (in_any _ _ _ _).mono ?_; rintro e w' ⟨rfl, rfl⟩))
        all_goals first
          | (go_ret
             exact ⟨ei (by rw [HS.out, chk_bad xs k hlt (by unfold entryOk; rw [Bool.eq_false_iff]; simp [*]; try omega)]), HB1.out⟩)
          | skip
        have hyes : entryOk xs[k] = true := by unfold entryOk; simp [*]; omega
        rcases Nat.eq_zero_or_pos k with h0 | h0
        · subst h0
          go_quiet (fail)
          go_wp2
          go_roundw
          case rel => exact ⟨1, by omega, by go_num, bDrewN HB1.out _, by rw [HS.out]; exact chk_first xs hlt hyes⟩
          case measure => simp [intOf]; omega
        · obtain ⟨m, rfl⟩ : ∃ m, k = m + 1 := ⟨k - 1, by omega⟩
          have hd : decide ((0 : Int) < (m : Int) + 1) = true := by rw [decide_eq_true_iff]; omega
          have hm : m < xs.length := by omega
          have q2 : (m : Int) < (xs.length : Int) := by omega
          obtain ⟨g1, _, _, _, _⟩ := (H.out.below hB).ent hm
          go_quiet (fail)
          go_wp2
          · go_ret
            have ho : ltB xs[m].key xs[m + 1].key = false := by simpa using ‹(!ltB xs[m].key xs[m + 1].key) = true›
            exact ⟨ei (by rw [HS.out, chk_order xs m hlt hyes ho]), bDrewN HB1.out _⟩
          · have ho : ltB xs[m].key xs[m + 1].key = true := by simpa using ‹(!ltB xs[m].key xs[m + 1].key) = false›
            go_roundw
            case rel => exact ⟨m + 1 + 1, by omega, by go_num, bDrewN HB1.out _, by rw [HS.out]; exact chk_next xs m hlt hyes ho⟩
            case measure => simp [intOf]; omega
      · go_wp2
        go_ret
        exact ⟨ei (by rw [HS.out, chk_end xs k (by omega)]), hB⟩
end Go.Proofs.YtcbkimbeljhbhaaGreatDoor
