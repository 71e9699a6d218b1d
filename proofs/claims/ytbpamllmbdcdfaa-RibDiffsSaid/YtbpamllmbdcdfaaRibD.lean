/-
  Walks of the rib layer, part D: behind, TableFault.
-/
import Derived.Test.YtbpamllmbdcdfaaRibB
namespace Go.Proofs.Ytbpamllmbdcdfaa
open Go.RowKit Go.Sort

set_option maxHeartbeats 400000 in
theorem in_q (n l h : Int) (w : World) : Calls Try.prog 66 #[.int .i64 n, .int .i64 l, .int .i64 h] w fun e w' => e = .returned (.bool (decide (l ≤ n) && decide (n ≤ h))) ∧ w' = w :=
  (in_any n l h w).mono fun _ _ ⟨he, hw⟩ => ⟨he, hw.symm⟩

set_option maxHeartbeats 1000000 in
theorem behind_any (a b : Prefix) (w : World) :
    Calls Try.prog 76 #[.agg #[.int .i64 a.addr, .int .i64 a.bits], .agg #[.int .i64 b.addr, .int .i64 b.bits]] w fun e w' => e = .returned (.bool (prefOrd b a)) ∧ Below w.heap.size w w' := by
  have hB : Below w.heap.size w ((w.alloc (.cells #[.int .i64 a.addr, .int .i64 a.bits] 52)).alloc (.cells #[.int .i64 b.addr, .int .i64 b.bits] 52)) := ((Below.refl _ _).alloc (Nat.le_refl _) _).alloc (by simp) _
  have HB := Go.Lib.hid hB
  have ho := prefOrd_iff b a
  have HO := Go.Lib.hid ho
  clear hB ho
  go_enter Try.func76, Try.ntmps76
  rcases Int.lt_trichotomy a.addr b.addr with hx | hx | hx
  · have t1 : decide (b.addr < a.addr) = false := by rw [decide_eq_false_iff_not]; omega
    have t2 : (a.addr == b.addr) = false := by rw [beq_eq_false_iff_ne]; omega
    have t3 : ¬ b.addr < a.addr := by omega
    have hr : prefOrd b a = false := by rw [Bool.eq_false_iff, ne_eq, HO.out]; omega
    have HR := Go.Lib.hid hr
    clear hr
    go_wp2_with fail
    go_ret
    exact ⟨eb HR.out.symm, HB.out⟩
  · have t1 : decide (b.addr < a.addr) = false := by rw [decide_eq_false_iff_not]; omega
    have t2 : (a.addr == b.addr) = true := by rw [beq_iff_eq]; exact hx
    have t3 : ¬ b.addr < a.addr := by omega
    have hr : prefOrd b a = decide (b.bits < a.bits) := by rw [Bool.eq_iff_iff, HO.out, decide_eq_true_iff]; omega
    have HR := Go.Lib.hid hr
    clear hr
    clear hx
    go_wp2_with fail
    go_ret
    exact ⟨eb HR.out.symm, HB.out⟩
  · have t1 : decide (b.addr < a.addr) = true := by rw [decide_eq_true_iff]; omega
    have hr : prefOrd b a = true := by rw [HO.out]; omega
    have HR := Go.Lib.hid hr
    clear hr
    go_wp2_with fail
    go_ret
    exact ⟨eb HR.out.symm, HB.out⟩

theorem routeBad_hops {r : Route} (h : hopsOk r.hops = false) : routeBad r = 4 := by unfold routeBad; rw [h]; simp
theorem routeBad_ok {r : Route} (h : routeForm r = true) (h2 : hopsOk r.hops = true) : routeBad r = 0 := by unfold routeBad; rw [h, h2]; rfl

set_option maxRecDepth 100000 in
set_option maxHeartbeats 4000000 in
theorem tableFault_any (v : Value) (xs : List Route) (w : World) (h : Sl routeR w v xs) :
    Calls Try.prog 33 #[v] w fun e w' => e = .returned (.int .i64 (chkRoutes xs)) ∧ Below w.heap.size w w' := by
  have hl := h.len_le
  obtain ⟨A, c, rfl⟩ := h.form
  have H := Go.Lib.hid h
  clear h
  by_cases h6 : 200 < xs.length
  · have h6' : (200 : Int) < (xs.length : Int) := by omega
    go_enter Try.func33, Try.ntmps33
    go_wp2_with fail
    go_ret
    exact ⟨ei (by simp [chkRoutes, h6]), Below.refl _ _⟩
  · have h6' : ¬ (200 : Int) < (xs.length : Int) := by omega
    go_enter Try.func33, Try.ntmps33
    go_wp2_with fail
    have hs0 : chkRoutes xs = seqChk routeBad routeOrd xs (xs.length - 0) 0 := by simp [chkRoutes, h6]
    go_loopw [2, 3, 4, 5] (fun _ i _ _ wr => ∃ k : Nat, k ≤ xs.length ∧ i = .int .i64 k ∧ Below w.heap.size w wr ∧ chkRoutes xs = seqChk routeBad routeOrd xs (xs.length - k) k) (fun _ i _ _ _ => xs.length - (intOf i).toNat)
    case atStart => exact ⟨0, Nat.zero_le _, rfl, Below.refl _ _, hs0⟩
    case round =>
      obtain ⟨wo, rfl⟩ : ∃ wo : World, wo = wr := ⟨_, rfl⟩
      obtain ⟨k, hk, rfl, hB, hs⟩ := hrel
      have HS := Go.Lib.hid hs
      clear hs hs0
      by_cases hlt : k < xs.length
      · obtain ⟨b, off, rfl, hb⟩ := H.out.at_ hlt
        obtain ⟨hv, f1, f2, f3, f4, f5, hsl, hwf⟩ := (H.out.below hB).route hlt
        obtain ⟨A2, c2, hvv⟩ := hsl.form
        have hfc := routeForm_cases xs[k]
        obtain ⟨hs, hhs⟩ : ∃ hs, xs[k].hops = hs := ⟨_, rfl⟩
        rw [hhs] at hsl hvv hfc
        subst hvv
        have HHS := Go.Lib.hid hhs
        have hbw : b < wo.heap.size := by have := hB.size; omega
        have hl0 := hsl.len_le
        have HB := Go.Lib.hid hB
        have HSL := Go.Lib.hid hsl
        have HWF := Go.Lib.hid hwf
        have HFC := Go.Lib.hid hfc
        clear hB hsl hwf hhs hfc
        go_wp2_with fail
        have hone := sl_one (w := wo.alloc (.cells #[.int .i64 xs[k].pre.addr, .int .i64 xs[k].pre.bits, .bool xs[k].here, .int .i64 xs[k].cost, .slice A2 hs.length c2] 54)) xs[k].pre ⟨HWF.out.1, HWF.out.2.1⟩
        simp only [World.size_alloc] at hone
        refine (prefsFault_any _ _ _ hone).mono ?_
        rw [chkPrefs_one]
        rintro e w1 ⟨rfl, hb1⟩
        obtain ⟨hA, hN, hM, hS⟩ := pastAlloc2 hb1
        have hB1 := HB.out.trans (hA.mono HB.out.size)
        have HB1 := Go.Lib.hid hB1
        have HSL1 := Go.Lib.hid (HSL.out.below hA)
        clear hone hA hB1 hb1 hM f1 f2 f3 f4 f5
        rcases HFC.out with ⟨hf, hp, hc1, hc2, hcase⟩ | ⟨hf, hcase⟩
        · have t1 : (prefBad xs[k].pre != 0) = false := by simp [hp]
          have t2 : decide ((0 : Int) ≤ xs[k].cost) = true := by rw [decide_eq_true_iff]; omega
          have t3 : decide (xs[k].cost ≤ (1048576 : Int)) = true := by rw [decide_eq_true_iff]; omega
          have HF := Go.Lib.hid hf
          clear hp hf
          rcases hcase with ⟨hh, hc, hn⟩ | ⟨hh, hn⟩
          case' inl => have t4 : ¬ (0 : Int) < xs[k].cost := by omega
          case' inl => have t5 : ¬ 0 < hs.length := by omega
          case' inl => clear hc
          case' inr => have t5 : decide (0 < hs.length) = true := by rw [decide_eq_true_iff]; exact hn
          all_goals
            have HNN := Go.Lib.hid hn
            clear hn
            go_wp2_with (go_at_call 66; refine (in_any _ _ _ _).mono ?_; rintro e w' ⟨rfl, rfl⟩)
            go_loopw [5] (fun t wx => ∃ j : Nat, j ≤ hs.length ∧ t = .int .i64 j ∧ hopsOk hs = hopsAt hs (hs.length - j) j ∧ Below w1.heap.size w1 wx ∧ (∀ i, wx.cell? ⟨wo.heap.size, i, none⟩ = #[Value.int .i64 xs[k].pre.addr, .int .i64 xs[k].pre.bits, .bool xs[k].here, .int .i64 xs[k].cost, .slice A2 hs.length c2][i]?)) (fun t _ => hs.length - (intOf t).toNat)
            case atStart => exact ⟨0, Nat.zero_le _, rfl, rfl, Below.refl _ _, hN⟩
            case round =>
              obtain ⟨j, hj, rfl, hho, hbx, hNx⟩ := hrel
              have HHO := Go.Lib.hid hho
              have HBX := Go.Lib.hid (HB1.out.trans (hbx.mono HB1.out.size))
              have HBY := Go.Lib.hid hbx
              have HSLX := Go.Lib.hid (HSL1.out.below hbx)
              have hSx : wo.heap.size + 1 < wr.heap.size := Nat.lt_of_lt_of_le hS hbx.size
              clear hho hbx hN
              by_cases hjl : j < hs.length
              · try (exfalso; omega)
                all_goals
                  obtain ⟨b2, off2, rfl, hb2⟩ := HSLX.out.at_ hjl
                  obtain ⟨g1, _⟩ := HSLX.out.int hjl
                  have fin : hopsAt hs (hs.length - j) j = false → ∀ {w3}, Below w.heap.size w w3 → (Ending.returned (.int .i64 4) = Ending.returned (.int .i64 (chkRoutes xs)) ∧ Below w.heap.size w w3) :=
                    fun hb _ hw3 => ⟨ei (by
                      have hbad := routeBad_hops (r := xs[k]) (by rw [HHS.out, HHO.out]; exact hb)
                      rw [HS.out, sc_bad xs k hlt (by rw [hbad]; decide)]; exact hbad.symm), hw3⟩
                  have FIN := Go.Lib.hid @fin
                  have p0 : (0 : Int) ≤ (j : Int) := Int.natCast_nonneg _
                  have p1 : (j : Int) < (hs.length : Int) := by omega
                  clear fin
                  rcases (show hs[j] < 0 ∨ 11 < hs[j] ∨ (0 ≤ hs[j] ∧ hs[j] ≤ 11) by omega) with hx | hx | ⟨hx1, hx2⟩
                  · have q1 : decide ((0 : Int) ≤ hs[j]) = false := by rw [decide_eq_false_iff_not]; omega
                    go_wp2_with fail
                    go_quiet ((go_at_call 66; exact Calls.quiet_of_same (in_q _ _ _ _)))
                    go_wp2_with fail
                    go_ret
                    exact FIN.out (hops_bad hs j hjl (.inl hx)) (bDrewN HBX.out _)
                  · have q1 : decide ((0 : Int) ≤ hs[j]) = true := by rw [decide_eq_true_iff]; omega
                    have q2 : decide (hs[j] ≤ (11 : Int)) = false := by rw [decide_eq_false_iff_not]; omega
                    go_wp2_with fail
                    go_quiet ((go_at_call 66; exact Calls.quiet_of_same (in_q _ _ _ _)))
                    go_wp2_with fail
                    go_ret
                    exact FIN.out (hops_bad hs j hjl (.inr hx)) (bDrewN HBX.out _)
                  · have q1 : decide ((0 : Int) ≤ hs[j]) = true := by rw [decide_eq_true_iff]; omega
                    have q2 : decide (hs[j] ≤ (11 : Int)) = true := by rw [decide_eq_true_iff]; omega
                    go_wp2_with fail
                    rcases Nat.eq_zero_or_pos j with h0 | h0
                    · subst h0
                      simp only [Nat.add_zero] at g1
                      have q3 : (0 : Int) < (hs.length : Int) := by omega
                      go_quiet ((go_at_call 66; exact Calls.quiet_of_same (in_q _ _ _ _)))
                      go_wp2_with fail
                      go_roundw
                      case rel => exact ⟨1, by omega, by go_num, by rw [HHO.out]; exact hops_first hs hjl ⟨hx1, hx2⟩, bDrewN HBY.out _, hNx⟩
                      case measure => simp [intOf]; omega
                    · obtain ⟨m, rfl⟩ : ∃ m, j = m + 1 := ⟨j - 1, by omega⟩
                      have hm : m < hs.length := by omega
                      have r2 : (m : Int) < (hs.length : Int) := by omega
                      have r0 : (0 : Int) ≤ (m : Int) := Int.natCast_nonneg _
                      obtain ⟨g2, _⟩ := HSLX.out.int hm
                      have hd : decide ((0 : Int) < (m : Int) + 1) = true := by rw [decide_eq_true_iff]; omega
                      by_cases ho : hs[m + 1] ≤ hs[m]
                      · have q3 : decide (hs[m + 1] ≤ hs[m]) = true := by rw [decide_eq_true_iff]; exact ho
                        have HO := Go.Lib.hid ho
                        have hw : IntKind.i64.wrap (m : Int) = (m : Int) := by rw [IntKind.wrap_i64]; omega
                        clear ho
                        go_quiet ((go_at_call 66; exact Calls.quiet_of_same (in_q _ _ _ _)))
                        clear hw
                        go_wp2_with fail
                        go_ret
                        exact FIN.out (hops_order hs m hjl HO.out) (bDrewN HBX.out _)
                      · have q3 : decide (hs[m + 1] ≤ hs[m]) = false := by rw [decide_eq_false_iff_not]; exact ho
                        have HO := Go.Lib.hid ho
                        have hw : IntKind.i64.wrap (m : Int) = (m : Int) := by rw [IntKind.wrap_i64]; omega
                        clear ho
                        go_quiet ((go_at_call 66; exact Calls.quiet_of_same (in_q _ _ _ _)))
                        clear hw
                        go_wp2_with fail
                        go_roundw
                        case rel => exact ⟨m + 1 + 1, by omega, by go_num, by rw [HHO.out]; exact hops_next hs m hjl ⟨hx1, hx2⟩ (by have := HO.out; omega), bDrewN HBY.out _, hNx⟩
                        case measure => simp [intOf]; omega
              · have hok : routeBad xs[k] = 0 := routeBad_ok HF.out (by rw [HHS.out, HHO.out]; exact hops_end hs j (by omega) _)
                have HOK := Go.Lib.hid hok
                clear hok
                rcases Nat.eq_zero_or_pos k with h0 | h0
                · subst h0
                  go_wp2_with fail
                  go_quiet (fail)
                  go_wp2_with fail
                  go_roundw
                  case rel => exact ⟨1, by omega, by go_num, bDrewN HBX.out _, by rw [HS.out]; exact sc_first xs hlt HOK.out⟩
                  case measure => simp [intOf]; omega
                · obtain ⟨m, rfl⟩ : ∃ m, k = m + 1 := ⟨k - 1, by omega⟩
                  have hm : m < xs.length := by omega
                  obtain ⟨_, g1, g2, z3, z4, z5, z6, z7⟩ := (H.out.below HBX.out).route hm
                  clear z3 z4 z5 z6 z7
                  have q2 : (m : Int) < (xs.length : Int) := by omega
                  have q0 : (0 : Int) ≤ (m : Int) := Int.natCast_nonneg _
                  have hw : IntKind.i64.wrap (m : Int) = (m : Int) := by rw [IntKind.wrap_i64]; omega
                  obtain ⟨ob, hob⟩ : ∃ ob, prefOrd xs[m].pre xs[m + 1].pre = ob := ⟨_, rfl⟩
                  have HOB := Go.Lib.hid hob
                  clear hob
                  go_wp2_with fail
                  refine still_tail 11 (by kernel_rfl) (by kernel_rfl) ?_
                  intro wd hwd
                  have hbd : Below w.heap.size w wd := by rw [hwd]; exact HBX.out.drew
                  have HBD := Go.Lib.hid hbd
                  have g1' : wd.cell? ⟨b, off + m * 5, none⟩ = some (.int .i64 xs[m].pre.addr) := by rw [hwd, World.cell?_drew]; exact g1
                  have g2' : wd.cell? ⟨b, off + m * 5 + 1, none⟩ = some (.int .i64 xs[m].pre.bits) := by rw [hwd, World.cell?_drew]; exact g2
                  have hN' : ∀ i, wd.cell? ⟨wo.heap.size, i, none⟩ = #[Value.int .i64 xs[m + 1].pre.addr, .int .i64 xs[m + 1].pre.bits, .bool xs[m + 1].here, .int .i64 xs[m + 1].cost, .slice A2 hs.length c2][i]? := by
                    intro i; rw [hwd, World.cell?_drew]; exact hNx i
                  clear hwd hbd g1 g2 hNx
                  simp only [List.take_succ_cons, List.take_zero, List.drop_succ_cons, List.drop_zero]
                  iterate 11 still_step
                  refine wpStill_nil ?_
                  go_wp2_with fail
                  refine (behind_any xs[m + 1].pre xs[m].pre _).mono ?_
                  rw [HOB.out]
                  rintro e w2 ⟨rfl, hb2⟩
                  have HB2 := Go.Lib.hid (HBD.out.trans (hb2.mono HBD.out.size))
                  clear hb2 hw
                  rcases ob with _ | _
                  · go_wp2_with fail
                    go_ret
                    exact ⟨ei (by rw [HS.out, sc_order xs m hlt HOK.out HOB.out]), HB2.out⟩
                  · go_wp2_with fail
                    go_roundw
                    case rel => exact ⟨m + 1 + 1, by omega, by go_num, HB2.out, by rw [HS.out]; exact sc_next xs m hlt HOK.out HOB.out⟩
                    case measure => simp [intOf]; omega
        · have hbad : routeBad xs[k] = 4 := by unfold routeBad; rw [hf]; rfl
          have HBAD := Go.Lib.hid hbad
          clear hbad hf
          have fin : ∀ {w2 : World}, Below w.heap.size w w2 → (Ending.returned (.int .i64 4) = Ending.returned (.int .i64 (chkRoutes xs)) ∧ Below w.heap.size w w2) :=
            fun hb => ⟨ei (by rw [HS.out, sc_bad xs k hlt (by rw [HBAD.out]; decide)]; exact HBAD.out.symm), hb⟩
          have FIN := Go.Lib.hid (fin HB1.out)
          clear fin
          rcases hcase with hp | ⟨hp, hc⟩ | ⟨hp, hc1, hc2, hc⟩
          · have t1 : (prefBad xs[k].pre != 0) = true := by simp [hp]
            clear hp
            go_wp2_with fail
            go_ret
            exact FIN.out
          · have t1 : (prefBad xs[k].pre != 0) = false := by simp [hp]
            clear hp
            rcases hc with hc | hc
            · have t2 : decide ((0 : Int) ≤ xs[k].cost) = false := by rw [decide_eq_false_iff_not]; omega
              go_wp2_with (go_at_call 66; refine (in_any _ _ _ _).mono ?_; rintro e w' ⟨rfl, rfl⟩)
              go_ret
              exact FIN.out
            · have t2 : decide ((0 : Int) ≤ xs[k].cost) = true := by rw [decide_eq_true_iff]; omega
              have t3 : decide (xs[k].cost ≤ (1048576 : Int)) = false := by rw [decide_eq_false_iff_not]; omega
              go_wp2_with (go_at_call 66; refine (in_any _ _ _ _).mono ?_; rintro e w' ⟨rfl, rfl⟩)
              go_ret
              exact FIN.out
          · have t1 : (prefBad xs[k].pre != 0) = false := by simp [hp]
            have t2 : decide ((0 : Int) ≤ xs[k].cost) = true := by rw [decide_eq_true_iff]; omega
            have t3 : decide (xs[k].cost ≤ (1048576 : Int)) = true := by rw [decide_eq_true_iff]; omega
            clear hp
            rcases hc with ⟨hh, hc⟩ | ⟨hh, hc, hn⟩ | ⟨hh, hn⟩
            · have t4 : (0 : Int) < xs[k].cost := by omega
              clear hc
              go_wp2_with (go_at_call 66; refine (in_any _ _ _ _).mono ?_; rintro e w' ⟨rfl, rfl⟩)
              go_ret
              exact FIN.out
            · have t4 : ¬ (0 : Int) < xs[k].cost := by omega
              have t5 : decide (0 < hs.length) = true := by rw [decide_eq_true_iff]; exact hn
              clear hc hn
              go_wp2_with (go_at_call 66; refine (in_any _ _ _ _).mono ?_; rintro e w' ⟨rfl, rfl⟩)
              go_ret
              exact FIN.out
            · have t5 : ¬ 0 < hs.length := by omega
              clear hn
              go_wp2_with (go_at_call 66; refine (in_any _ _ _ _).mono ?_; rintro e w' ⟨rfl, rfl⟩)
              go_ret
              exact FIN.out
      · go_wp2_with fail
        go_ret
        exact ⟨ei (by rw [HS.out, sc_end xs k (by omega)]), hB⟩
end Go.Proofs.Ytbpamllmbdcdfaa
