/-
  The document's PrefixesIn, hasPrefix, hasNode: walked.
-/
import Derived.Test.YtcbkimbeljhbhaaGreatDoorGTaE
import Derived.Test.YtcbkimbeljhbhaaGreatDoorGSame
set_option linter.unusedVariables false
set_option linter.unusedSimpArgs false
namespace Go.Proofs.YtcbkimbeljhbhaaGreatDoor
open Go Go.RowKit Go.Deep

theorem key_runP (n : Nat) (h : (Lib.decDigits n).length ≤ 20) (w : World) : (Op.stringOp .add ⟨#[112, 58]⟩ (bOf (Lib.decDigits n))).run Tryz.prog w = .ok (.string (keyP n)) w := add_run [112, 58] (Lib.decDigits n) (by show 2 + _ ≤ _; omega) w
theorem find_place {l : List Entry} {k : ByteArray} : (placeE l k = -1 ∧ findE l k = none) ∨ ∃ i : Nat, placeE l k = i ∧ ∃ hi : i < l.length, findE l k = some l[i] := by
  unfold placeE findE
  rcases hf : (l.findIdx? fun e => decide (e.key = k)) with _ | i
  · left
    refine ⟨by rw [hf], ?_⟩
    rw [List.find?_eq_none]
    rw [List.findIdx?_eq_none_iff] at hf
    intro x hx
    have := hf x hx
    simpa using this
  · right
    obtain ⟨hi, h1, h2⟩ := List.findIdx?_eq_some_iff_getElem.1 hf
    refine ⟨i, by rw [hf], hi, ?_⟩
    rw [List.find?_eq_some_iff_getElem]
    exact ⟨h1, i, hi, rfl, fun j hj => by have := h2 j hj; simpa using this⟩

set_option maxRecDepth 50000 in
set_option maxHeartbeats 1000000 in
theorem prefsIn_any (v : Value) (xs : List Entry) (n : Nat) (w : World) (h : Sl entR w v xs) (hn : n < 12) (hs : ∀ e ∈ xs, e.value.size < 4294967281) (hE : Env w) :
    Calls Tryz.prog 31 #[v, .int .i64 n] w fun e w' => (∃ v', e = .returned v' ∧ Sl prefR w' v' (prefsAt xs n)) ∧ Below w.heap.size w w' := by
  have hl := h.len_le
  obtain ⟨A, c, rfl⟩ := h.form
  have H := Go.Lib.hid h
  have HE := Go.Lib.hid hE
  have HS := Go.Lib.hid hs
  clear h hE hs
  have RK := key_runP n (by have := dec_len 4 n (by omega); omega)
  have HD := Go.Lib.hid (fun w => dec_any n w (by omega))
  have HP := Go.Lib.hid (fun w h => place_anyA (.slice A xs.length c) xs (keyP n) w h)
  rcases find_place (l := xs) (k := keyP n) with ⟨hm, hf⟩ | ⟨i, hi, hil, hf⟩
  · have HA := Go.Lib.hid (show prefsAt xs n = [] by unfold prefsAt; rw [hf])
    rw [hm] at HP
    clear hm hf
    go_enter Tryz.func31, Tryz.ntmps31
    go_wp2_with (first
      | (go_at_call 70; refine (HD.out _).mono ?_; rintro e w1 ⟨rfl, hb1⟩; have HB1 := Go.Lib.hid hb1; clear hb1)
      | (go_at_call 69; refine (HP.out _ (H.out.below HB1.out)).mono ?_; rintro e w' ⟨rfl, rfl⟩))
    go_ret
    exact ⟨⟨_, rfl, by rw [HA.out]; exact Sl.nil _ _⟩, HB1.out⟩
  · have HA := Go.Lib.hid (show prefsAt xs n = (readPrefs xs[i].value.data.toList).1 by unfold prefsAt; rw [hf])
    have HPO := Go.Lib.hid (fun w h => prefsOf_any xs[i].value w (HS.out _ (List.getElem_mem hil)) h)
    rw [hi] at HP
    have hili : (i : Int) < (xs.length : Int) := by omega
    have hi0 : ¬ ((i : Int) < 0) := by omega
    obtain ⟨b, off, rfl, hb⟩ := H.out.at_ hil
    obtain ⟨_, _, _, f3, _⟩ := H.out.ent hil
    have F3 := Go.Lib.hid f3
    clear hi hf f3
    go_enter Tryz.func31, Tryz.ntmps31
    go_wp2_with (first
      | (go_at_call 70; refine (HD.out _).mono ?_; rintro e w1 ⟨rfl, hb1⟩; have f3 := cell_keep hb1 F3.out; have HB1 := Go.Lib.hid hb1; clear hb1)
      | (go_at_call 69; refine (HP.out _ (H.out.below HB1.out)).mono ?_; rintro e w' ⟨rfl, rfl⟩)
      | (go_at_call 71; refine (HPO.out _ (HE.out.below HB1.out)).mono ?_; rintro e w2 ⟨v2, rfl, hv2, hb2⟩; have HV2 := Go.Lib.hid hv2; have HB2 := Go.Lib.hid hb2; clear hb2 hv2))
    go_ret
    exact ⟨⟨_, rfl, by rw [HA.out]; exact HV2.out⟩, HB1.out.trans (HB2.out.mono HB1.out.size)⟩

set_option maxRecDepth 50000 in
set_option maxHeartbeats 1000000 in
theorem hasNode_any (v : Value) (xs : List Int) (n : Int) (w : World) (h : Sl intR w v xs) (hl : xs.length ≤ 1000000) :
    Calls Tryz.prog 32 #[v, .int .i64 n] w fun e w' => e = .returned (.bool (xs.contains n)) ∧ Below w.heap.size w w' := by
  obtain ⟨A, c, rfl⟩ := h.form
  have H := Go.Lib.hid h
  obtain ⟨R, hR⟩ : ∃ R, R = xs.contains n := ⟨_, rfl⟩
  rw [← hR]
  have HR := Go.Lib.hid hR
  clear h hR
  go_enter Tryz.func32, Tryz.ntmps32
  go_wp2_with fail
  go_loopw [5] (fun i wr => ∃ k : Nat, k ≤ xs.length ∧ i = .int .i64 k ∧ Below w.heap.size w wr ∧ ∀ j, (h : j < xs.length) → j < k → xs[j] ≠ n) (fun i _ => xs.length - (intOf i).toNat)
  case atStart => exact ⟨0, Nat.zero_le _, rfl, Below.refl _ _, fun j _ h => absurd h (by omega)⟩
  case round =>
    obtain ⟨k, hk, rfl, hB, hall⟩ := hrel
    have HA := Go.Lib.hid hall
    have HB := Go.Lib.hid hB
    clear hall
    by_cases hlt : k < xs.length
    · obtain ⟨b, off, rfl, hb⟩ := H.out.at_ hlt
      obtain ⟨f1, _⟩ := (H.out.below hB).int hlt
      have hki : (k : Int) < (xs.length : Int) := by omega
      obtain ⟨x, hx⟩ : ∃ x, x = xs[k] := ⟨_, rfl⟩
      rw [← hx] at f1
      have HX := Go.Lib.hid hx
      clear hB hx
      by_cases e : x = n
      · have he : (x == n) = true := by rw [beq_iff_eq]; exact e
        have HY := Go.Lib.hid (show xs.contains n = true by rw [List.contains_iff_mem, ← e, HX.out]; exact List.getElem_mem hlt)
        clear e
        go_wp2_with fail
        go_ret
        exact ⟨eb (by rw [HR.out, HY.out]), HB.out⟩
      · have he : (x == n) = false := by rw [beq_eq_false_iff_ne]; exact e
        have HN := Go.Lib.hid e
        clear e
        go_wp2_with fail
        go_roundw
        case rel =>
          refine ⟨k + 1, by omega, by go_num, HB.out, fun j hj hjk => ?_⟩
          by_cases e2 : j = k
          · subst e2; rw [← HX.out]; exact HN.out
          · exact HA.out j hj (by omega)
        case measure => simp [intOf]; omega
    · have hki : ¬ (k : Int) < (xs.length : Int) := by omega
      have HY := Go.Lib.hid (show xs.contains n = false by
        rw [Bool.eq_false_iff]
        intro e
        rw [List.contains_iff_mem] at e
        obtain ⟨j, hj, he⟩ := List.getElem_of_mem e
        exact HA.out j hj (by omega) he)
      clear hB
      go_wp2_with fail
      go_ret
      exact ⟨eb (by rw [HR.out, HY.out]), HB.out⟩

set_option maxRecDepth 50000 in
set_option maxHeartbeats 1000000 in
theorem hasPrefix_any (v : Value) (xs : List Prefix) (p : Prefix) (w : World) (h : Sl prefR w v xs) (hl : xs.length ≤ 1000000) :
    Calls Tryz.prog 30 #[v, .agg #[.int .i64 p.addr, .int .i64 p.bits]] w fun e w' => e = .returned (.bool (inP xs p)) ∧ Below w.heap.size w w' := by
  obtain ⟨A, c, rfl⟩ := h.form
  have hal := (Below.refl w.heap.size w).alloc (Nat.le_refl _) (.cells #[.int .i64 p.addr, .int .i64 p.bits] 62)
  have H := Go.Lib.hid (h.below hal)
  have HAL := Go.Lib.hid hal
  obtain ⟨R, hR⟩ : ∃ R, R = inP xs p := ⟨_, rfl⟩
  rw [← hR]
  have HR := Go.Lib.hid hR
  clear hR
  have HQ0 := Go.Lib.hid (show (w.alloc (.cells #[.int .i64 p.addr, .int .i64 p.bits] 62)).cell? ⟨w.heap.size, 0, none⟩ = some (.int .i64 p.addr) by rw [World.cell?_alloc_at _ _ _ _ rfl]; rfl)
  have HQ1 := Go.Lib.hid (show (w.alloc (.cells #[.int .i64 p.addr, .int .i64 p.bits] 62)).cell? ⟨w.heap.size, 1, none⟩ = some (.int .i64 p.bits) by rw [World.cell?_alloc_at _ _ _ _ rfl]; rfl)
  obtain ⟨W, hW⟩ : ∃ W, W = w.alloc (.cells #[.int .i64 p.addr, .int .i64 p.bits] 62) := ⟨_, rfl⟩
  rw [← hW] at H HAL HQ0 HQ1
  clear h hal
  go_enter Tryz.func30, Tryz.ntmps30
  go_wp2_with fail
  rw [← hW]
  clear hW
  obtain ⟨B, hB⟩ : ∃ B, B = w.heap.size := ⟨_, rfl⟩
  rw [← hB] at HQ0 HQ1
  rw [← hB]
  clear hB
  go_loopw [5] (fun i wr => ∃ k : Nat, k ≤ xs.length ∧ i = .int .i64 k ∧ Below W.heap.size W wr ∧ ∀ j, (h : j < xs.length) → j < k → sameP xs[j] p = false) (fun i _ => xs.length - (intOf i).toNat)
  case atStart => exact ⟨0, Nat.zero_le _, rfl, Below.refl _ _, fun j _ h => absurd h (by omega)⟩
  case round =>
    obtain ⟨k, hk, rfl, hB, hall⟩ := hrel
    have HA := Go.Lib.hid hall
    have HB := Go.Lib.hid hB
    have p0 := cell_keep hB HQ0.out
    have p1 := cell_keep hB HQ1.out
    clear hall
    by_cases hlt : k < xs.length
    · obtain ⟨b, off, rfl, hb⟩ := H.out.at_ hlt
      obtain ⟨f1, f2, _⟩ := (H.out.below hB).pref hlt
      have hki : (k : Int) < (xs.length : Int) := by omega
      obtain ⟨x, hx⟩ : ∃ x, x = xs[k] := ⟨_, rfl⟩
      rw [← hx] at f1 f2
      have q1 := eql_pref x.addr x.bits p.addr p.bits
      have q2 := fun a b => guard_pref .eql a b
      have HX := Go.Lib.hid hx
      clear hB hx
      rcases he : (x.addr == p.addr && x.bits == p.bits) with _ | _
      · rw [he] at q1
        have HN := Go.Lib.hid (show sameP x p = false from he)
        clear he
        go_wp2_with fail
        go_quiet (fail)
        go_wp2_with fail
        go_roundw
        case rel =>
          refine ⟨k + 1, by omega, by go_num, bDrewN HB.out _, fun j hj hjk => ?_⟩
          by_cases e2 : j = k
          · subst e2; rw [← HX.out]; exact HN.out
          · exact HA.out j hj (by omega)
        case measure => simp [intOf]; omega
      · rw [he] at q1
        have HY := Go.Lib.hid (show inP xs p = true by unfold inP; rw [List.any_eq_true]; exact ⟨x, by rw [HX.out]; exact List.getElem_mem hlt, he⟩)
        clear he
        go_wp2_with fail
        go_quiet (fail)
        go_wp2_with fail
        go_ret
        exact ⟨eb (by rw [HR.out, HY.out]), HAL.out.trans ((bDrewN HB.out _).mono HAL.out.size)⟩
    · have hki : ¬ (k : Int) < (xs.length : Int) := by omega
      have HY := Go.Lib.hid (show inP xs p = false by
        rw [Bool.eq_false_iff]
        intro e
        unfold inP at e
        rw [List.any_eq_true] at e
        obtain ⟨x, hx, he⟩ := e
        obtain ⟨j, hj, rfl⟩ := List.getElem_of_mem hx
        have := HA.out j hj (by omega)
        rw [this] at he; cases he)
      clear hB
      go_wp2_with fail
      go_ret
      exact ⟨eb (by rw [HR.out, HY.out]), HAL.out.trans (HB.out.mono HAL.out.size)⟩
end Go.Proofs.YtcbkimbeljhbhaaGreatDoor
