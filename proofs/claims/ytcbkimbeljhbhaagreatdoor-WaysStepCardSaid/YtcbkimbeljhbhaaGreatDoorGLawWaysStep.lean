/-
  Proved here: the law WaysStep returns true for every list of raw things and every two numbers; the listed package-level variables hold what the program's text lays.
-/
import Derived.Test.YtcbkimbeljhbhaaGreatDoorGKmC
import Derived.Test.YtcbkimbeljhbhaaGreatDoorGKeO
import Derived.Test.YtcbkimbeljhbhaaGreatDoorGKtA
import Derived.Test.YtcbkimbeljhbhaaGreatDoorGKtB
import Derived.Test.YtcbkimbeljhbhaaGreatDoorGWbA
import Derived.Test.YtcbkimbeljhbhaaGreatDoorGRibQ
import Derived.Test.YtcbkimbeljhbhaaGreatDoorGDoW
set_option linter.unusedVariables false
set_option linter.unusedSimpArgs false
namespace Go.Proofs.YtcbkimbeljhbhaaGreatDoor
open Go Go.RowKit Go.Deep Go.ChangeShapes Go.WideShapes Go.ChangeAt

theorem best2_skip {m : List Entry} {a k j : Nat} {b : Int} {l : List Int} (h : bestTo2 m a k j = (b, l)) (h1 : overC m a k j < 0) : bestTo2 m a k (j + 1) = (b, l) := by
  unfold bestTo2; rw [h]; simp only; rw [if_pos h1]
theorem best2_new {m : List Entry} {a k j : Nat} {b c : Int} {l : List Int} (h : bestTo2 m a k j = (b, l)) (h1 : overC m a k j = c) (h0 : 0 ≤ c) (h2 : b < 0 ∨ c < b) : bestTo2 m a k (j + 1) = (c, [(j : Int)]) := by
  unfold bestTo2; rw [h]; simp only; rw [h1, if_neg (by omega), if_pos h2]
theorem best2_also {m : List Entry} {a k j : Nat} {b c : Int} {l : List Int} (h : bestTo2 m a k j = (b, l)) (h1 : overC m a k j = c) (h0 : 0 ≤ c) (h2 : ¬ (b < 0 ∨ c < b)) (h3 : c = b) : bestTo2 m a k (j + 1) = (b, l ++ [(j : Int)]) := by
  unfold bestTo2; rw [h]; simp only; rw [h1, if_neg (by omega), if_neg h2, if_pos h3]
theorem best2_less {m : List Entry} {a k j : Nat} {b c : Int} {l : List Int} (h : bestTo2 m a k j = (b, l)) (h1 : overC m a k j = c) (h0 : 0 ≤ c) (h2 : ¬ (b < 0 ∨ c < b)) (h3 : c ≠ b) : bestTo2 m a k (j + 1) = (b, l) := by
  unfold bestTo2; rw [h]; simp only; rw [h1, if_neg (by omega), if_neg h2, if_neg h3]


set_option maxRecDepth 50000 in
set_option maxHeartbeats 8000000 in
theorem waysStep_walk (v : Value) (xs : List Raw) (n f : Int) (w : World) (h : Sl rawR w v xs) (hn : inR n) (hf : inR f) (hE : Env w) :
    Calls Tryz.prog 4 #[v, .int .i64 n, .int .i64 f] w fun e w' => e = .returned (.bool true) ∧ Below w.heap.size w w' := by
  obtain ⟨Av, cv, rfl⟩ := h.form
  have H := Go.Lib.hid h
  have HE := Go.Lib.hid hE
  have hq := pickN_lt n 7 (by omega)
  have PN := Go.Lib.hid (fun w => picked_any n 7 w hn (by omega) (by omega))
  generalize pickN n 7 = q at *
  have ha := pickN_lt f (2 + q) (by omega)
  have PF := Go.Lib.hid (fun w => picked_any f (2 + q) w hf (by omega) (by omega))
  generalize pickN f (2 + q) = a at *
  have HM1 := Go.Lib.hid (map_any _ xs (2 + q) w h (by omega) hE)
  have hcast : (((2 + q : Nat)) : Int) = 2 + (q : Int) := by omega
  rw [hcast] at PF HM1
  have HA12 := Go.Lib.hid (show a < 12 by omega)
  have hqi : (q : Int) < 7 := by omega
  have hq0 : (0 : Int) ≤ (q : Int) := Int.natCast_nonneg q
  clear h hE hn hf hcast
  go_enter Tryz.func4, Tryz.ntmps4
  go_wp2_with (go_at_call 11; refine (PN.out _).mono ?_; rintro e w' ⟨rfl, rfl⟩)
  refine HM1.out.mono ?_
  rintro e w1 ⟨v1, m, rfl, hk1, ho1, hb1⟩
  have B1 := Go.Lib.hid hb1
  have S1 := Go.Lib.hid (show Sl entR w1 v1 m from ho1.sl (by decide))
  have K1 := Go.Lib.hid hk1
  have T1 := Go.Lib.hid (gwaysTop_any v1 m (a : Int) w1 S1.out (by unfold inR; omega) (HE.out.below hb1))
  rw [ways_good hk1 HA12.out] at T1
  clear hk1 ho1 hb1 HM1
  go_wp2_with (go_at_call 11; refine (PF.out _).mono ?_; rintro e w' ⟨rfl, rfl⟩)
  refine T1.out.mono ?_
  rintro e w2 ⟨v2, rfl, hs2, hb2⟩
  have B2 := Go.Lib.hid (B1.out.trans (hb2.mono B1.out.size))
  obtain ⟨A2, c2, hv2⟩ := hs2.form
  rw [waysTo_len] at hv2
  subst hv2
  have S2 := Go.Lib.hid hs2
  have Q2 := Go.Lib.hid (S1.out.below hb2)
  obtain ⟨b2, o2, rfl, hbl2, vh, g1, g2, g3⟩ := way_at hs2 HA12.out
  have hw0 : wayTo m a a = ⟨0, []⟩ := by unfold wayTo; rw [if_pos rfl]
  rw [hw0] at g1 g3
  obtain ⟨Ah, ch, hvh⟩ := g3.form
  subst hvh
  have TD := Go.Lib.hid (told_any v1 m w2 Q2.out K1.out.check (HE.out.below B2.out))
  have hai : (a : Int) < 12 := by omega
  have ha0 : (0 : Int) ≤ (a : Int) := Int.natCast_nonneg a
  clear hs2 hb2 hw0 g3 T1
  go_wp2_with fail
  refine TD.out.mono ?_
  rintro e w3 ⟨cs, rfl, hv3, hb3⟩
  obtain ⟨hn3, hb4', hth3, hif3⟩ := hv3.laid
  have N3 := Go.Lib.hid hn3
  have hb4 := hb3.trans (hb4'.mono hb3.size)
  have B3 := Go.Lib.hid (B2.out.trans (hb4.mono B2.out.size))
  have S3 := Go.Lib.hid (S2.out.below hb4)
  have Q3 := Go.Lib.hid (Q2.out.below hb4)
  have HTH := Go.Lib.hid hth3
  have HIF := Go.Lib.hid hif3
  have HONE := Go.Lib.hid hv3.one
  clear hn3 hb4' hth3 hif3 hv3 hb3 hb4 g1 g2
  go_wp2_with (refine wpList_store_mid rfl 44 (.tmp 12) (.tmp 60) rfl w3.heap.size 0 cs.toArray rfl rfl HTH.out HIF.out (all_oneCell_toArray HONE.out) ?_)
  obtain ⟨W0, hW0⟩ : ∃ x, x = (w3.alloc (.cells Tryz.zeroCells44 44)).setCells w3.heap.size 0 cs := ⟨_, rfl⟩
  obtain ⟨N, hN⟩ : ∃ x, x = w3.heap.size := ⟨_, rfl⟩
  rw [← hW0] at N3 B3 S3 Q3
  rw [← hN] at N3
  rw [← hW0, ← hN]
  clear hW0 hN HTH HIF HONE
  go_loopw [61] (fun u wr => ∃ k : Nat, k ≤ 12 ∧ u = .int .i64 k ∧ Below W0.heap.size W0 wr) (fun u _ => 12 - (intOf u).toNat)
  case atStart => exact ⟨0, Nat.zero_le _, rfl, Below.refl _ _⟩
  case round =>
    obtain ⟨k, hk, rfl, hb⟩ := hrel
    have HB := Go.Lib.hid hb
    clear hb
    by_cases hlt : k < 12
    · have hki : (k : Int) < 12 := by omega
      have hk0 : (0 : Int) ≤ (k : Int) := Int.natCast_nonneg k
      by_cases hka : k = a
      · have ek : ((k : Int) == (a : Int)) = true := by rw [beq_iff_eq]; omega
        clear hka
        go_wp2_with fail
        go_roundw
        case rel => exact ⟨k + 1, by omega, by go_num, HB.out⟩
        case measure => simp [intOf]; omega
      · have ek : ((k : Int) == (a : Int)) = false := by rw [beq_eq_false_iff_ne]; omega
        have HKA := Go.Lib.hid hka
        clear hka
        go_wp2_with fail
        go_loopw [14, 15, 67] (fun p o u wr5 => ∃ (j : Nat) (b : Int) (l : List Int), j ≤ 12 ∧ u = .int .i64 j ∧ p = .int .i64 b ∧ OwR intR 3 W0.heap.size wr5 o l ∧ bestTo2 m a k j = (b, l) ∧ l.length ≤ j ∧ Below W0.heap.size W0 wr5) (fun _ _ u _ => 12 - (intOf u).toNat)
        case atStart => exact ⟨0, -1, [], Nat.zero_le _, rfl, rfl, OwR.nil _ _ HB.out.size, rfl, Nat.le_refl _, HB.out⟩
        case round =>
          obtain ⟨j, b, l, hj, rfl, rfl, ho, hbt, hll, hb5⟩ := hrel
          have HO := Go.Lib.hid ho
          have HBT := Go.Lib.hid hbt
          have HB5 := Go.Lib.hid hb5
          obtain ⟨Ao, no, co, rfl⟩ := ow_form ho (by decide)
          have N5 := Go.Lib.hid (N3.out.below hb5)
          clear ho hbt hb5
          by_cases hjl : j < 12
          · have hji : (j : Int) < 12 := by omega
            have hj0 : (0 : Int) ≤ (j : Int) := Int.natCast_nonneg j
            have y1 := N5.out.cost a j HA12.out hjl
            have y2 := N5.out.drn j hjl
            have hlc := linkC_le m a j
            have HOVD := Go.Lib.hid (show overC m a k j = if linkC m a j = 0 then (-1 : Int) else if j = k then ((linkC m a j : Nat) : Int) else if (wayTo m j k).cost < 0 ∨ (adjAt m j).1 = true then (-1 : Int) else (wayTo m j k).cost + ((linkC m a j : Nat) : Int) from rfl)
            have HWL := Go.Lib.hid (way_le m hjl hlt)
            have T5 := Go.Lib.hid (gwaysTop_any v1 m (j : Int) wr (Q3.out.below HB5.out) (by unfold inR; omega) (HE.out.below (B3.out.trans (HB5.out.mono B3.out.size))))
            rw [ways_good K1.out hjl] at T5
            generalize linkC m a j = L at *
            by_cases hL : L = 0
            · have HNX := Go.Lib.hid (best2_skip HBT.out (by rw [HOVD.out, if_pos hL]; omega))
              have eL : ((L : Int) == 0) = true := by rw [beq_iff_eq]; omega
              clear hL
              go_wp2_with fail
              go_roundw
              case rel => exact ⟨j + 1, _, _, by omega, by go_num, rfl, HO.out, HNX.out, by omega, HB5.out⟩
              case measure => simp [intOf]; omega
            · have eL : ((L : Int) == 0) = false := by rw [beq_eq_false_iff_ne]; omega
              have hLi : (L : Int) ≤ 1000 := by omega
              have hL0 : (0 : Int) ≤ (L : Int) := Int.natCast_nonneg L
              by_cases hjk : j = k
              · have ejk : ((j : Int) != (k : Int)) = false := by rw [bne_eq_false_iff_eq]; omega
                obtain ⟨cc, hcc⟩ : ∃ cc, cc = (L : Int) := ⟨_, rfl⟩
                have HOV := Go.Lib.hid (show overC m a k j = cc by rw [HOVD.out, if_neg hL, if_pos hjk, hcc])
                have HC0 := Go.Lib.hid (show 0 ≤ cc by omega)
                have hccm : cc ≤ 2000000 := by omega
                clear hL hjk HOVD
                rw [← hcc] at y1 eL hLi hL0
                clear hcc
                by_cases e1 : b < 0
                · have HNX := Go.Lib.hid (best2_new HBT.out HOV.out HC0.out (.inl e1))
                  have HOA := Go.Lib.hid (ow_alloc (OwR.nil intR 3 HB5.out.size) (.cells #[.int .i64 (j : Int)] 3))
                  have HONE := Go.Lib.hid (one_flat (r := intR) (w := wr) (B := wr.heap.size) (cs := [.int .i64 (j : Int)]) (x := (j : Int)) (E := 3) rfl ⟨rfl, (by show inR (j : Int); unfold inR; omega)⟩)
                  have HBA := Go.Lib.hid (HB5.out.alloc HB5.out.size (.cells #[.int .i64 (j : Int)] 3))
                  go_wp2_with (at_builtin; refine wpList_gen (base := W0.heap.size) elt_int rfl (.tmp 126) (.tmp 128) rfl HOA.out HONE.out (fun _ _ h => h) rfl rfl (by (simp)) (by decide) ?_; intro v2 w4 ho2 hg2; have HB6 := Go.Lib.hid (HOA.out.below_grown HBA.out hg2.grown))
                  go_roundw
                  case rel => exact ⟨j + 1, _, _, by omega, by go_num, rfl, ho2, HNX.out, (by simp <;> omega), HB6.out⟩
                  case measure => simp [intOf]; omega
                · by_cases e2 : cc < b
                  · have HNX := Go.Lib.hid (best2_new HBT.out HOV.out HC0.out (.inr e2))
                    have HOA := Go.Lib.hid (ow_alloc (OwR.nil intR 3 HB5.out.size) (.cells #[.int .i64 (j : Int)] 3))
                    have HONE := Go.Lib.hid (one_flat (r := intR) (w := wr) (B := wr.heap.size) (cs := [.int .i64 (j : Int)]) (x := (j : Int)) (E := 3) rfl ⟨rfl, (by show inR (j : Int); unfold inR; omega)⟩)
                    have HBA := Go.Lib.hid (HB5.out.alloc HB5.out.size (.cells #[.int .i64 (j : Int)] 3))
                    go_wp2_with (at_builtin; refine wpList_gen (base := W0.heap.size) elt_int rfl (.tmp 126) (.tmp 128) rfl HOA.out HONE.out (fun _ _ h => h) rfl rfl (by (simp)) (by decide) ?_; intro v2 w4 ho2 hg2; have HB6 := Go.Lib.hid (HOA.out.below_grown HBA.out hg2.grown))
                    go_roundw
                    case rel => exact ⟨j + 1, _, _, by omega, by go_num, rfl, ho2, HNX.out, (by simp <;> omega), HB6.out⟩
                    case measure => simp [intOf]; omega
                  · by_cases e3 : cc = b
                    · have HNX := Go.Lib.hid (best2_also HBT.out HOV.out HC0.out (by omega) e3)
                      have e3b : (cc == b) = true := by rw [beq_iff_eq]; exact e3
                      clear e3
                      have HOA := Go.Lib.hid (ow_alloc HO.out (.cells #[.int .i64 (j : Int)] 3))
                      have HONE := Go.Lib.hid (one_flat (r := intR) (w := wr) (B := wr.heap.size) (cs := [.int .i64 (j : Int)]) (x := (j : Int)) (E := 3) rfl ⟨rfl, (by show inR (j : Int); unfold inR; omega)⟩)
                      have HBA := Go.Lib.hid (HB5.out.alloc HB5.out.size (.cells #[.int .i64 (j : Int)] 3))
                      go_wp2_with (at_builtin; refine wpList_gen (base := W0.heap.size) elt_int rfl (.tmp 126) (.tmp 128) rfl HOA.out HONE.out (fun _ _ h => h) rfl rfl (by (simp <;> omega)) (by decide) ?_; intro v2 w4 ho2 hg2; have HB6 := Go.Lib.hid (HOA.out.below_grown HBA.out hg2.grown))
                      go_roundw
                      case rel => exact ⟨j + 1, _, _, by omega, by go_num, rfl, ho2, HNX.out, (by simp <;> omega), HB6.out⟩
                      case measure => simp [intOf]; omega
                    · have HNX := Go.Lib.hid (best2_less HBT.out HOV.out HC0.out (by omega) e3)
                      have e3b : (cc == b) = false := by rw [beq_eq_false_iff_ne]; exact e3
                      clear e3
                      go_wp2_with fail
                      go_roundw
                      case rel => exact ⟨j + 1, _, _, by omega, by go_num, rfl, HO.out, HNX.out, by omega, HB5.out⟩
                      case measure => simp [intOf]; omega
              · have ejk : ((j : Int) != (k : Int)) = true := by rw [bne_iff_ne]; omega
                have HJK := Go.Lib.hid hjk
                have HL := Go.Lib.hid hL
                have HDR := Go.Lib.hid (show ∃ dj, (adjAt m j).1 = dj from ⟨_, rfl⟩)
                obtain ⟨dj, hdj⟩ := HDR.out
                rw [hdj] at y2
                have HDJ := Go.Lib.hid hdj
                clear hjk hL hdj HDR
                go_wp2_with fail
                refine T5.out.mono ?_
                rintro e w6 ⟨v6, rfl, hs6, hb6⟩
                obtain ⟨A6, c6, hv6⟩ := hs6.form
                rw [waysTo_len] at hv6
                subst hv6
                obtain ⟨b6, o6, rfl, hbl6, vh6, z1, z2, _⟩ := way_at hs6 hlt
                have y1 := cell_keep hb6 y1
                have y2 := cell_keep hb6 y2
                have HB6 := Go.Lib.hid (HB5.out.trans (hb6.mono HB5.out.size))
                have HO6 := Go.Lib.hid (HO.out.keep hb6)
                clear hs6 hb6 z2 T5
                obtain ⟨hw1, hw2⟩ := HWL.out
                generalize (wayTo m j k).cost = cy at *
                by_cases hcy : cy < 0
                · have HNX := Go.Lib.hid (best2_skip HBT.out (by rw [HOVD.out, if_neg HL.out, if_neg HJK.out, if_pos (.inl hcy)]; omega))
                  go_wp2_with fail
                  go_roundw
                  case rel => exact ⟨j + 1, _, _, by omega, by go_num, rfl, HO6.out, HNX.out, by omega, HB6.out⟩
                  case measure => simp [intOf]; omega
                · rcases dj with _ | _
                  · have HOV := Go.Lib.hid (show overC m a k j = cy + (L : Int) by rw [HOVD.out, if_neg HL.out, if_neg HJK.out, if_neg (by rw [HDJ.out]; simp; omega)])
                    have HC0 := Go.Lib.hid (show 0 ≤ cy + (L : Int) by omega)
                    by_cases e1 : b < 0
                    · have HNX := Go.Lib.hid (best2_new HBT.out HOV.out HC0.out (.inl e1))
                      have HOA := Go.Lib.hid (ow_alloc (OwR.nil intR 3 HB6.out.size) (.cells #[.int .i64 (j : Int)] 3))
                      have HONE := Go.Lib.hid (one_flat (r := intR) (w := w6) (B := w6.heap.size) (cs := [.int .i64 (j : Int)]) (x := (j : Int)) (E := 3) rfl ⟨rfl, (by show inR (j : Int); unfold inR; omega)⟩)
                      have HBA := Go.Lib.hid (HB6.out.alloc HB6.out.size (.cells #[.int .i64 (j : Int)] 3))
                      go_wp2_with (at_builtin; refine wpList_gen (base := W0.heap.size) elt_int rfl (.tmp 126) (.tmp 128) rfl HOA.out HONE.out (fun _ _ h => h) rfl rfl (by (simp)) (by decide) ?_; intro v2 w4 ho2 hg2; have HB6 := Go.Lib.hid (HOA.out.below_grown HBA.out hg2.grown))
                      go_roundw
                      case rel => exact ⟨j + 1, _, _, by omega, by go_num, rfl, ho2, HNX.out, (by simp <;> omega), HB6.out⟩
                      case measure => simp [intOf]; omega
                    · by_cases e2 : (cy + (L : Int)) < b
                      · have HNX := Go.Lib.hid (best2_new HBT.out HOV.out HC0.out (.inr e2))
                        have HOA := Go.Lib.hid (ow_alloc (OwR.nil intR 3 HB6.out.size) (.cells #[.int .i64 (j : Int)] 3))
                        have HONE := Go.Lib.hid (one_flat (r := intR) (w := w6) (B := w6.heap.size) (cs := [.int .i64 (j : Int)]) (x := (j : Int)) (E := 3) rfl ⟨rfl, (by show inR (j : Int); unfold inR; omega)⟩)
                        have HBA := Go.Lib.hid (HB6.out.alloc HB6.out.size (.cells #[.int .i64 (j : Int)] 3))
                        go_wp2_with (at_builtin; refine wpList_gen (base := W0.heap.size) elt_int rfl (.tmp 126) (.tmp 128) rfl HOA.out HONE.out (fun _ _ h => h) rfl rfl (by (simp)) (by decide) ?_; intro v2 w4 ho2 hg2; have HB6 := Go.Lib.hid (HOA.out.below_grown HBA.out hg2.grown))
                        go_roundw
                        case rel => exact ⟨j + 1, _, _, by omega, by go_num, rfl, ho2, HNX.out, (by simp <;> omega), HB6.out⟩
                        case measure => simp [intOf]; omega
                      · by_cases e3 : (cy + (L : Int)) = b
                        · have HNX := Go.Lib.hid (best2_also HBT.out HOV.out HC0.out (by omega) e3)
                          have e3b : ((cy + (L : Int)) == b) = true := by rw [beq_iff_eq]; exact e3
                          clear e3
                          have HOA := Go.Lib.hid (ow_alloc HO6.out (.cells #[.int .i64 (j : Int)] 3))
                          have HONE := Go.Lib.hid (one_flat (r := intR) (w := w6) (B := w6.heap.size) (cs := [.int .i64 (j : Int)]) (x := (j : Int)) (E := 3) rfl ⟨rfl, (by show inR (j : Int); unfold inR; omega)⟩)
                          have HBA := Go.Lib.hid (HB6.out.alloc HB6.out.size (.cells #[.int .i64 (j : Int)] 3))
                          go_wp2_with (at_builtin; refine wpList_gen (base := W0.heap.size) elt_int rfl (.tmp 126) (.tmp 128) rfl HOA.out HONE.out (fun _ _ h => h) rfl rfl (by (simp <;> omega)) (by decide) ?_; intro v2 w4 ho2 hg2; have HB6 := Go.Lib.hid (HOA.out.below_grown HBA.out hg2.grown))
                          go_roundw
                          case rel => exact ⟨j + 1, _, _, by omega, by go_num, rfl, ho2, HNX.out, (by simp <;> omega), HB6.out⟩
                          case measure => simp [intOf]; omega
                        · have HNX := Go.Lib.hid (best2_less HBT.out HOV.out HC0.out (by omega) e3)
                          have e3b : ((cy + (L : Int)) == b) = false := by rw [beq_eq_false_iff_ne]; exact e3
                          clear e3
                          go_wp2_with fail
                          go_roundw
                          case rel => exact ⟨j + 1, _, _, by omega, by go_num, rfl, HO6.out, HNX.out, by omega, HB6.out⟩
                          case measure => simp [intOf]; omega
                  · have HNX := Go.Lib.hid (best2_skip HBT.out (by rw [HOVD.out, if_neg HL.out, if_neg HJK.out, if_pos (.inr HDJ.out)]; omega))
                    go_wp2_with fail
                    go_roundw
                    case rel => exact ⟨j + 1, _, _, by omega, by go_num, rfl, HO6.out, HNX.out, by omega, HB6.out⟩
                    case measure => simp [intOf]; omega
          · obtain rfl : j = 12 := by omega
            have hst := way_step m (a := a) (dst := k) HKA.out
            rw [HBT.out] at hst
            injection hst with e1 e2
            obtain ⟨b3, o3, hA3, hbl3, vh3, z1, z2, z3⟩ := way_at (S3.out.below HB5.out) hlt
            injection hA3 with hA3
            injection hA3 with hA3 hA4
            subst hA3 hA4
            rw [← e1] at z1
            rw [← e2] at z3
            have EQ := Go.Lib.hid (equalI_any vh3 (.slice Ao no co) l l wr z3 (HO.out.sl (by decide)))
            have hbb : (l == l) = true := by simp
            rw [hbb] at EQ
            obtain ⟨A3, c3, hv3⟩ := z3.form
            subst hv3
            have ebb : (b != b) = false := by simp
            clear e1 e2 z3 hbb
            go_wp2_with (go_at_call 15; refine EQ.out.mono ?_; rintro e w7 ⟨rfl, hb7⟩; have HB7 := Go.Lib.hid (HB5.out.trans (hb7.mono HB5.out.size)); clear hb7)
            go_roundw
            case rel => exact ⟨k + 1, by omega, by go_num, HB7.out⟩
            case measure => simp [intOf]; omega
    · have hki : ¬ (k : Int) < 12 := by omega
      go_wp2_with fail
      go_ret
      exact ⟨rfl, B3.out.trans (HB.out.mono B3.out.size)⟩

set_option maxRecDepth 100000 in
theorem waysStep_contract (H : Type) (enc : TypeId × Value → H) (W : World) (base : Nat) (args : Array Value) (ds gs : List (DataW H)) (before : List MemPlace)
    (hval0 : ∀ (j : Nat) t v, Tryz.f4.params[j]? = some t → args[j]? = some v → Value.okWide Tryz.prog W .any base t v)
    (hW : DataW.Whole enc Tryz.prog Tryz.f4.params.toList Rows.waysStepSpec.vars false W args.toList ds gs before) (hE : Env W) :
    Calls Tryz.prog 4 args W fun e W' => ∃ v, e = .returned v ∧ Rows.waysStepSpec.post enc Tryz.prog Tryz.f4 false true false false W args v W' := by
  have hval : ∀ (j : Nat) t v, Tryz.f4.params[j]? = some t → args[j]? = some v → Value.okWide Tryz.prog W .any base t v := hval0
  have hW' := hW
  obtain ⟨p, q, hA0, hV, rfl, hfz, _⟩ := hW
  have hA : DataW.TrodAll enc Tryz.prog W 0 (fun _ => true) true Tryz.f4.params.toList args.toList ds p := hA0
  rw [Tryz.params4] at hA hval
  obtain ⟨rfl, rfl⟩ := trodVars_none hV
  obtain ⟨v0, v1, v2, d0, d1, d2, p0, p1, p2, rfl, rfl, rfl, h0, h1, h2⟩ := trodAll_three hA
  obtain ⟨x0, hx0⟩ := open_sl Tryz.underlying29 opens_raws (hval 0 29 v0 rfl rfl) h0
  obtain ⟨x1, rfl, rfl, rfl, wx1⟩ := open_int Tryz.underlying3 (hval 1 3 v1 rfl rfl) h1
  have hx1 : inR x1 := inR_of wx1
  obtain ⟨x2, rfl, rfl, rfl, wx2⟩ := open_int Tryz.underlying3 (hval 2 3 v2 rfl rfl) h2
  have hx2 : inR x2 := inR_of wx2
  refine (waysStep_walk v0 x0 x1 x2 W hx0 hx1 hx2 hE).mono fun e W' ⟨he, hb⟩ => ?_
  subst he
  exact ⟨_, rfl, law_post hW' laidOut (by rw [Tryz.params4]; intro t ht; simp at ht; rcases ht with rfl | rfl <;> exact ⟨by kernel_rfl, of_decide_eq_true (by kernel_rfl)⟩) rfl rfl Tryz.underlying4 rfl rfl rfl hb⟩

theorem waysStep_reads (os : Os) {H : Type} (enc : TypeId × Value → H) : ∃ places, DataW.whole enc Tryz.prog ((laidW7 os).forCall (fun _ _ => 0) ⟨#[], #[.slice none 0 0, .int .i64 0, .int .i64 0], []⟩).memory Tryz.f4.params.toList Rows.waysStepSpec.vars false (#[.slice none 0 0, .int .i64 0, .int .i64 0] : Array Value).toList 8 = some ([.nil, .lit (.int .i64 0), .lit (.int .i64 0)], [], places) :=
  ⟨[], by kernel_rfl⟩
set_option maxRecDepth 100000 in
theorem waysStep_lifted (os : Os) (started : os.Started) (H : Type) (enc : TypeId × Value → H) (F : Stop.Interp) :
    ReturnsInHanded {} Tryz.checked os 4 .any ((OpenSpec.ofChange Rows.waysStepSpec).preRow enc Tryz.prog Tryz.f4 Rows.waysStepRow.domain false Rows.waysStepRow.laid) (((OpenSpec.ofChange Rows.waysStepSpec).at F).post enc Tryz.prog Tryz.f4 false true false false) := by
  obtain ⟨places, hx⟩ := waysStep_reads os enc
  refine returnsInHanded_of_row (C := Tryz.checked) (s := OpenSpec.ofChange Rows.waysStepSpec) own started (by kernel_rfl) Tryz.func4
    (witness_row_at (enc := enc) (C := Tryz.checked) false (laidW7 os) #[.slice none 0 0, .int .i64 0, .int .i64 0] rfl (by kernel_rfl) (by kernel_rfl) (by kernel_rfl)
      (OpenSpec.preRow_of_cond 8 hx (by kernel_rfl) (fun k hk => by cases hk) (by kernel_rfl) (laid_met7 os _))) ?_
  intro W base args ds gs before hval hW _ hcond _ hL hsh _
  exact waysStep_contract H enc W base args ds gs before hval hW (env_of hL hsh)
theorem waysStep_said : Rows.WaysStepSaid :=
  OpenClaim.holds_of_cond 4 Tryz.f4 rfl rfl rfl rfl rfl rfl rfl ⟨rfl, rfl, rfl, rfl, rfl⟩ rfl rfl rfl rfl rfl (by kernel_rfl) Tryz.func4 (by kernel_rfl)
    (of_decide_eq_true (by kernel_rfl)) (by unfold Func.isWrapper; first | (rw [if_pos (by decide +kernel)]; kernel_rfl) | (rw [if_neg (by decide +kernel)]; exact ⟨rfl, rfl⟩))
    (fun os started H enc _ F => by rw [OpenClaim.pre_eq_preRow]; exact waysStep_lifted os started H enc F)
theorem waysStep_plain (f : FuncId) (fn : Func) (hf : Tryz.pinned.checked.prog.funcNamed "tollbar/tollbarkeep.WaysStep" = some f) (hfn : Tryz.pinned.checked.prog.funcs[f]? = some fn) :
    true = Tryz.pinned.checked.prog.looks [] ∧ ∀ (j : Nat) t, fn.params[j]? = some t → Tryz.pinned.checked.prog.wantsStandIn t = false := by
  obtain rfl : f = 4 := Option.some.inj ((show Tryz.prog.funcNamed "tollbar/tollbarkeep.WaysStep" = some 4 by kernel_rfl).symm.trans hf) |>.symm
  obtain rfl : fn = Tryz.f4 := (Option.some.inj (Tryz.func4.symm.trans hfn)).symm
  refine ⟨by kernel_rfl, fun j t ht => ?_⟩
  rw [Tryz.params4] at ht
  have hm := Array.mem_of_getElem? ht
  simp at hm
  rcases hm with rfl | rfl
  · exact (show Tryz.prog.wantsStandIn 29 = false by kernel_rfl)
  · exact (show Tryz.prog.wantsStandIn 3 = false by kernel_rfl)
theorem waysStep_holds : Rows.WaysStepCardSaid :=
  Claim7.holds_tied_plain_at .later [] _ _ _ _ waysStep_said (fun _ h => by cases h) (by kernel_rfl) (fun _ h => by cases h) waysStep_row_tie rfl ⟨rfl, rfl⟩ (by kernel_rfl) rfl waysStep_plain (by kernel_rfl)
#print axioms waysStep_holds
end Go.Proofs.YtcbkimbeljhbhaaGreatDoor
