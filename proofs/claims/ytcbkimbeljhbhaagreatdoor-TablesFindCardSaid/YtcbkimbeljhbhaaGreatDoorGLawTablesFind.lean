/-
  Proved here: the law TablesFind returns true for every list of raw things and every three numbers; the listed package-level variables hold what the program's text lays.
-/
import Derived.Test.YtcbkimbeljhbhaaGreatDoorGKmC
import Derived.Test.YtcbkimbeljhbhaaGreatDoorGKeO
import Derived.Test.YtcbkimbeljhbhaaGreatDoorGKtA
import Derived.Test.YtcbkimbeljhbhaaGreatDoorGKtB
import Derived.Test.YtcbkimbeljhbhaaGreatDoorGTaG
import Derived.Test.YtcbkimbeljhbhaaGreatDoorGRibH
import Derived.Test.YtcbkimbeljhbhaaGreatDoorGTbF
import Derived.Test.YtcbkimbeljhbhaaGreatDoorGDoW
set_option linter.unusedVariables false
set_option linter.unusedSimpArgs false
namespace Go.Proofs.YtcbkimbeljhbhaaGreatDoor
open Go Go.RowKit Go.Deep Go.ChangeShapes Go.WideShapes Go.ChangeAt

theorem table_goodF {m : List Entry} (h : OkS m) {s : Nat} (hs : s < 12) : tableS m (s : Int) = (tabTo m s 12, 0) := by
  unfold tableS
  rw [if_neg (by rw [h.check]; simp), if_pos (by simp; omega)]
  rfl
theorem scan_step {addr c : Int} {b1 b2 : Int} {p : Prefix} : scanStep addr c (b1, b2) p = if matchP addr p = true ∧ 0 ≤ c then (if b1 < p.bits ∨ (p.bits = b1 ∧ c < b2) then (p.bits, c) else (b1, b2)) else (b1, b2) := rfl

theorem fold_next {addr c : Int} {ps : List Prefix} {i : Nat} (h : i < ps.length) {s0 b : Int × Int} (hf : (ps.take i).foldl (scanStep addr c) s0 = b) : (ps.take (i + 1)).foldl (scanStep addr c) s0 = scanStep addr c b ps[i] := by
  rw [List.take_succ_eq_append_getElem h, List.foldl_append, hf]; rfl
theorem prf_load {w : World} {N : Nat} {xs : List Entry} (h : NetC w N xs) : ∃ vs : List Value, (∀ k, k < 12 → ∃ v, vs.toArray[k]? = some v ∧ Sl prefR w v (prefsAt xs k)) ∧ w.rangeAt N 156 vs ∧ (Tryz.prog.info? 42).map (·.size) = some vs.length := by
  obtain ⟨V, hV⟩ := choose_lt h.prf
  refine ⟨(List.range 12).map V, fun k hk => ⟨V k, ?_, (hV k hk).2⟩, fun j v hv => ?_, by kernel_rfl⟩
  · rw [List.getElem?_toArray, List.getElem?_map, List.getElem?_range hk]; rfl
  · have hj : j < 12 := by
      have := (List.getElem?_eq_some_iff.1 hv).1
      simpa using this
    rw [List.getElem?_map, List.getElem?_range hj] at hv
    injection hv with hv
    subst hv
    exact (hV j hj).1
theorem pref_idx (vs : Array Value) {k : Nat} (hk : k < 12) {A : Option Addr} {n c : Nat} (hv : vs[k]? = some (.slice A n c)) (w : World) :
    (Instr.index 42 (.agg vs) (.int .i64 (k : Int))).run Tryz.prog w = .ok (.slice A n c) w := by
  have z3 := Tryz.sizeOf41
  have a3 := Tryz.isAgg41
  have h0 : (0 : Int) ≤ (k : Int) ∧ (k : Int) < ((12 : Nat) : Int) := by omega
  simp [Instr.index, run_underlying Tryz.underlying42, asIntOf, part, h0, hv, go_sem]
  intro h; omega


set_option maxRecDepth 50000 in
set_option maxHeartbeats 8000000 in
theorem tablesFind_walk (v : Value) (xs : List Raw) (n f x : Int) (w : World) (h : Sl rawR w v xs) (hn : inR n) (hf : inR f) (hx : inR x) (hE : Env w) :
    Calls Tryz.prog 6 #[v, .int .i64 n, .int .i64 f, .int .i64 x] w fun e w' => e = .returned (.bool true) ∧ Below w.heap.size w w' := by
  obtain ⟨Av, cv, rfl⟩ := h.form
  have H := Go.Lib.hid h
  have HE := Go.Lib.hid hE
  have hq := pickN_lt n 7 (by omega)
  have PN := Go.Lib.hid (fun w => picked_any n 7 w hn (by omega) (by omega))
  generalize pickN n 7 = q at *
  have ha := pickN_lt f (2 + q) (by omega)
  have PF := Go.Lib.hid (fun w => picked_any f (2 + q) w hf (by omega) (by omega))
  generalize pickN f (2 + q) = a at *
  have hr := pickN_lt x 256 (by omega)
  have PX := Go.Lib.hid (fun w => picked_any x 256 w hx (by omega) (by omega))
  generalize pickN x 256 = r at *
  have HM1 := Go.Lib.hid (map_any _ xs (2 + q) w h (by omega) hE)
  have hcast : (((2 + q : Nat)) : Int) = 2 + (q : Int) := by omega
  rw [hcast] at PF HM1
  have HA12 := Go.Lib.hid (show a < 12 by omega)
  have HADDR := Go.Lib.hid (show (0 : Int) ≤ (r : Int) ∧ (r : Int) ≤ 255 by omega)
  have hqi : (q : Int) < 7 := by omega
  have hq0 : (0 : Int) ≤ (q : Int) := Int.natCast_nonneg q
  clear h hE hn hf hx hcast
  go_enter Tryz.func6, Tryz.ntmps6
  go_wp2_with (go_at_call 11; refine (PN.out _).mono ?_; rintro e w' ⟨rfl, rfl⟩)
  refine HM1.out.mono ?_
  rintro e w1 ⟨v1, m, rfl, hk1, ho1, hb1⟩
  have B1 := Go.Lib.hid hb1
  have S1 := Go.Lib.hid (show Sl entR w1 v1 m from ho1.sl (by decide))
  have K1 := Go.Lib.hid hk1
  have T1 := Go.Lib.hid (table_any v1 m (a : Int) w1 S1.out (by unfold inR; omega) (HE.out.below hb1))
  rw [table_goodF hk1 HA12.out] at T1
  clear hk1 ho1 hb1 HM1
  go_wp2_with fail
  refine (PF.out _).mono ?_
  rintro e w' ⟨rfl, rfl⟩
  go_wp2_with fail
  refine (PX.out _).mono ?_
  rintro e w' ⟨rfl, rfl⟩
  go_wp2_with fail
  refine T1.out.mono ?_
  rintro e w2 ⟨v2, rfl, ho2, hb2⟩
  have B2 := Go.Lib.hid (B1.out.trans (hb2.mono B1.out.size))
  have Q2 := Go.Lib.hid (S1.out.below hb2)
  have R2 := Go.Lib.hid (show Sl routeR w2 v2 (tabTo m a 12) from ho2.sl (by decide))
  have T2 := Go.Lib.hid (gwaysTop_any v1 m (a : Int) w2 Q2.out (by unfold inR; omega) (HE.out.below B2.out))
  rw [ways_good K1.out HA12.out] at T2
  clear ho2 hb2 T1
  go_wp2_with fail
  refine T2.out.mono ?_
  rintro e w3 ⟨v3, rfl, hs3, hb3⟩
  have B3 := Go.Lib.hid (B2.out.trans (hb3.mono B2.out.size))
  have Q3 := Go.Lib.hid (Q2.out.below hb3)
  have R3 := Go.Lib.hid (R2.out.below hb3)
  have S3 := Go.Lib.hid hs3
  obtain ⟨A3, c3, hv3⟩ := hs3.form
  rw [waysTo_len] at hv3
  subst hv3
  have TD := Go.Lib.hid (told_any v1 m w3 Q3.out K1.out.check (HE.out.below B3.out))
  clear hs3 hb3 T2
  go_wp2_with fail
  refine TD.out.mono ?_
  rintro e w4 ⟨cs, rfl, hv4, hb4⟩
  obtain ⟨hn4, hb4', hth4, hif4⟩ := hv4.laid
  have N4 := Go.Lib.hid hn4
  have hb5 := hb4.trans (hb4'.mono hb4.size)
  have B4 := Go.Lib.hid (B3.out.trans (hb5.mono B3.out.size))
  have S4 := Go.Lib.hid (S3.out.below hb5)
  have R4 := Go.Lib.hid (R3.out.below hb5)
  have HTH := Go.Lib.hid hth4
  have HIF := Go.Lib.hid hif4
  have HONE := Go.Lib.hid hv4.one
  clear hn4 hb4' hth4 hif4 hv4 hb4 hb5 TD
  go_wp2_with (refine wpList_store_mid rfl 44 (.tmp 17) (.tmp 50) rfl w4.heap.size 0 cs.toArray rfl rfl HTH.out HIF.out (all_oneCell_toArray HONE.out) ?_)
  obtain ⟨W0, hW0⟩ : ∃ x, x = (w4.alloc (.cells Tryz.zeroCells44 44)).setCells w4.heap.size 0 cs := ⟨_, rfl⟩
  obtain ⟨N, hN⟩ : ∃ x, x = w4.heap.size := ⟨_, rfl⟩
  rw [← hW0] at N4 B4 S4 R4
  rw [← hN] at N4
  rw [← hW0, ← hN]
  clear hW0 hN HTH HIF HONE
  have LK := Go.Lib.hid (lookup_any _ (tabTo m a 12) (r : Int) W0 R4.out)
  obtain ⟨lr, hlr⟩ : ∃ z, z = (lookS (tabTo m a 12) (r : Int)).1 := ⟨_, rfl⟩
  obtain ⟨ln, hln⟩ : ∃ z, z = (lookS (tabTo m a 12) (r : Int)).2 := ⟨_, rfl⟩
  have HLR := Go.Lib.hid hlr
  have HLN := Go.Lib.hid hln
  clear hlr hln
  go_wp2_with fail
  refine LK.out.mono ?_
  rintro e w5 ⟨v5, rfl, hs5, hb5⟩
  rw [← HLR.out] at hs5
  rw [← HLR.out, ← HLN.out]
  have HB5 := Go.Lib.hid hb5
  obtain ⟨A5, c5, hv5⟩ := hs5.form
  subst hv5
  clear hb5 hs5 LK
  have HCHK := Go.Lib.hid (chk_tab (xs := m) HA12.out)
  obtain ⟨W1, hW1⟩ : ∃ x, x = w5.alloc (.cells #[.int .i64 lr.pre.addr, .int .i64 lr.pre.bits, .bool lr.here, .int .i64 lr.cost, .slice A5 lr.hops.length c5] 64) := ⟨_, rfl⟩
  obtain ⟨BR, hBR⟩ : ∃ x, x = w5.heap.size := ⟨_, rfl⟩
  have B61 : Below W0.heap.size W0 W1 := by rw [hW1]; exact HB5.out.alloc HB5.out.size _
  have c1 : W1.cell? ⟨BR, 1, none⟩ = some (.int .i64 lr.pre.bits) := by rw [hW1, World.cell?_alloc_at _ _ _ _ hBR]; rfl
  have c2 : W1.cell? ⟨BR, 2, none⟩ = some (.bool lr.here) := by rw [hW1, World.cell?_alloc_at _ _ _ _ hBR]; rfl
  have c3 : W1.cell? ⟨BR, 3, none⟩ = some (.int .i64 lr.cost) := by rw [hW1, World.cell?_alloc_at _ _ _ _ hBR]; rfl
  have HC1 := Go.Lib.hid c1
  have HC2 := Go.Lib.hid c2
  have HC3 := Go.Lib.hid c3
  have HLT := Go.Lib.hid (show ∀ w' : World, Below W1.heap.size W1 w' → BR < w'.heap.size from fun _ hb => Nat.lt_of_lt_of_le (by rw [hW1, hBR]; simp) hb.size)
  have B6 := Go.Lib.hid (B4.out.trans (B61.mono B4.out.size))
  have S6 := Go.Lib.hid (S4.out.below B61)
  have R6 := Go.Lib.hid (R4.out.below B61)
  have N6 := Go.Lib.hid (N4.out.below B61)
  obtain ⟨vs, hvs, hrow, hinf⟩ := prf_load N6.out
  rw [hW1] at hrow
  have HLD := Go.Lib.hid hrow
  have HVS := Go.Lib.hid hvs
  have HIF := Go.Lib.hid hinf
  clear c1 c2 c3 B61 hrow hvs hinf HB5
  go_wp2_with (refine wpList_load_mid rfl 42 (.tmp 57) rfl N 156 rfl vs _ HLD.out Tryz.underlying42 rfl HIF.out ?_)
  rw [← hW1, ← hBR]
  clear hW1 hBR HLD HIF
  go_loopw [20, 21, 59] (fun p o u wr => ∃ k : Nat, k ≤ 12 ∧ u = .int .i64 k ∧ p = .int .i64 (scanTo m a r k).1 ∧ o = .int .i64 (scanTo m a r k).2 ∧ Below W1.heap.size W1 wr) (fun _ _ u _ => 12 - (intOf u).toNat)
  case atStart => exact ⟨0, Nat.zero_le _, rfl, rfl, rfl, Below.refl _ _⟩
  case round =>
    obtain ⟨k, hk, rfl, rfl, rfl, hb⟩ := hrel
    have HB := Go.Lib.hid hb
    clear hb
    by_cases hlt : k < 12
    · have hki : (k : Int) < 12 := by omega
      have hk0 : (0 : Int) ≤ (k : Int) := Int.natCast_nonneg k
      obtain ⟨vp, hvp, hsp⟩ := HVS.out k hlt
      obtain ⟨Ap, cp, rfl⟩ := hsp.form
      have SP := Go.Lib.hid hsp
      have hix : ∀ w', (Instr.index 42 (.agg vs.toArray) (.int .i64 (k : Int))).run Tryz.prog w' = .ok (.slice Ap (prefsAt m k).length cp) w' := fun w' => pref_idx vs.toArray hlt hvp w'
      have HFI := Go.Lib.hid (prefs_fine (prefsAt_chk m k)).2.1
      have hpl := (prefs_fine (prefsAt_chk m k)).1
      have HST := Go.Lib.hid (show scanTo m a r (k + 1) = (prefsAt m k).foldl (scanStep r (wayTo m a k).cost) (scanTo m a r k) from rfl)
      clear hvp hsp
      generalize prefsAt m k = ps at *
      obtain ⟨s0, hs0⟩ : ∃ s0, s0 = scanTo m a r k := ⟨_, rfl⟩
      rw [← hs0] at HST
      rw [← hs0]
      clear hs0
      go_wp2_with fail
      go_loopw [20, 21, 65] (fun p o u wr3 => ∃ (i : Nat) (b1 b2 : Int), i ≤ ps.length ∧ u = .int .i64 i ∧ p = .int .i64 b1 ∧ o = .int .i64 b2 ∧ (ps.take i).foldl (scanStep r (wayTo m a k).cost) s0 = (b1, b2) ∧ Below W1.heap.size W1 wr3) (fun _ _ u _ => ps.length - (intOf u).toNat)
      case atStart => exact ⟨0, _, _, Nat.zero_le _, rfl, rfl, rfl, rfl, HB.out⟩
      case round =>
        obtain ⟨j, b1, b2, hj, rfl, rfl, rfl, hf2, hb3⟩ := hrel
        have HF2 := Go.Lib.hid hf2
        have HB3 := Go.Lib.hid hb3
        clear hf2 hb3
        by_cases hjl : j < ps.length
        · have hji : (j : Int) < (ps.length : Int) := by omega
          have hj0 : (0 : Int) ≤ (j : Int) := Int.natCast_nonneg j
          obtain ⟨bp, op, rfl, hbp⟩ := SP.out.at_ hjl
          obtain ⟨f1, f2, _, _⟩ := (SP.out.below HB3.out).pref hjl
          obtain ⟨o1, o2, o3, o4⟩ := prefBad_ok (HFI.out ps[j] (List.getElem_mem hjl))
          have hand := andNot_span (r : Int) ps[j].bits o1 o2 HADDR.out.1 HADDR.out.2
          have HNX := Go.Lib.hid (fold_next hjl HF2.out)
          obtain ⟨bw, ow, hAw, hbw, vw, y1, _, _⟩ := way_at (S6.out.below HB3.out) hlt
          subst hAw
          have hbw0 : bw < wr.heap.size := hbw
          have o1' : ¬ ps[j].bits < 0 := by omega
          have q2 : 0 ≤ ps[j].bits := o1
          generalize (wayTo m a k).cost = cy at *
          have HBA := Go.Lib.hid (HB3.out.alloc HB3.out.size (.cells #[.int .i64 ps[j].addr, .int .i64 ps[j].bits] 62))
          generalize ps[j] = p at *
          rcases hmm : matchP r p with _ | _
          · have hm : ((r : Int) - (r : Int) % spanN p.bits == p.addr) = false := hmm
            have hne : ((r : Int) - (r : Int) % spanN p.bits != p.addr) = true := by rw [bne, hm]; rfl
            have HN2 := Go.Lib.hid (HNX.out.trans (by rw [scan_step, if_neg (by rw [hmm]; simp)]))
            clear hmm
            go_wp2_with fail
            go_quiet (fail)
            go_wp2_with fail
            go_roundw
            case rel => exact ⟨j + 1, _, _, by omega, by go_num, rfl, rfl, HN2.out, bDrewN HBA.out _⟩
            case measure => simp [intOf]; omega
          · have hm : ((r : Int) - (r : Int) % spanN p.bits == p.addr) = true := hmm
            have hne : ((r : Int) - (r : Int) % spanN p.bits != p.addr) = false := by rw [bne, hm]; rfl
            by_cases hcy : cy < 0
            · have HN2 := Go.Lib.hid (HNX.out.trans (by rw [scan_step, if_neg (by omega)]))
              clear hmm
              go_wp2_with fail
              go_quiet (fail)
              go_wp2_with fail
              go_roundw
              case rel => exact ⟨j + 1, _, _, by omega, by go_num, rfl, rfl, HN2.out, bDrewN HBA.out _⟩
              case measure => simp [intOf]; omega
            · by_cases e1 : b1 < p.bits
              · have HN2 := Go.Lib.hid (HNX.out.trans (by rw [scan_step, if_pos ⟨hmm, by omega⟩, if_pos (.inl e1)]))
                clear hmm
                go_wp2_with fail
                go_quiet (fail)
                go_wp2_with fail
                go_quiet (fail)
                go_wp2_with fail
                go_roundw
                case rel => exact ⟨j + 1, _, _, by omega, by go_num, rfl, rfl, HN2.out, (by first | exact bDrewN HBA.out _ | exact bDrewN (bDrewN HBA.out _) _)⟩
                case measure => simp [intOf]; omega
              · by_cases e2 : p.bits = b1
                · by_cases e3 : cy < b2
                  · have HN2 := Go.Lib.hid (HNX.out.trans (by rw [scan_step, if_pos ⟨hmm, by omega⟩, if_pos (.inr ⟨e2, e3⟩)]))
                    have e2b : (p.bits == b1) = true := by rw [beq_iff_eq]; exact e2
                    clear hmm e2
                    go_wp2_with fail
                    go_quiet (fail)
                    go_wp2_with fail
                    go_quiet (fail)
                    go_wp2_with fail
                    go_roundw
                    case rel => exact ⟨j + 1, _, _, by omega, by go_num, rfl, rfl, HN2.out, (by first | exact bDrewN HBA.out _ | exact bDrewN (bDrewN HBA.out _) _)⟩
                    case measure => simp [intOf]; omega
                  · have HN2 := Go.Lib.hid (HNX.out.trans (by rw [scan_step, if_pos ⟨hmm, by omega⟩, if_neg (by omega)]))
                    have e2b : (p.bits == b1) = true := by rw [beq_iff_eq]; exact e2
                    clear hmm e2
                    go_wp2_with fail
                    go_quiet (fail)
                    go_wp2_with fail
                    go_roundw
                    case rel => exact ⟨j + 1, _, _, by omega, by go_num, rfl, rfl, HN2.out, bDrewN HBA.out _⟩
                    case measure => simp [intOf]; omega
                · have HN2 := Go.Lib.hid (HNX.out.trans (by rw [scan_step, if_pos ⟨hmm, by omega⟩, if_neg (by omega)]))
                  have e2b : (p.bits == b1) = false := by rw [beq_eq_false_iff_ne]; exact e2
                  clear hmm e2
                  go_wp2_with fail
                  go_quiet (fail)
                  go_wp2_with fail
                  go_roundw
                  case rel => exact ⟨j + 1, _, _, by omega, by go_num, rfl, rfl, HN2.out, bDrewN HBA.out _⟩
                  case measure => simp [intOf]; omega
        · obtain rfl : j = ps.length := by omega
          have hend : scanTo m a r (k + 1) = (b1, b2) := by rw [HST.out, ← HF2.out, List.take_length]
          have HEND := Go.Lib.hid hend
          clear hend
          go_wp2_with fail
          go_roundw
          case rel => exact ⟨k + 1, by omega, by go_num, by rw [HEND.out], by rw [HEND.out], HB3.out⟩
          case measure => simp [intOf]; omega
    · obtain rfl : k = 12 := by omega
      have hBR : BR < wr.heap.size := HLT.out _ HB.out
      have y1 := cell_keep HB.out HC1.out
      have y2 := cell_keep HB.out HC2.out
      have y3 := cell_keep HB.out HC3.out
      have CK := Go.Lib.hid (ribCheck_any _ _ wr (R6.out.below HB.out))
      rw [HCHK.out] at CK
      have hfin := tables_find m HA12.out HADDR.out
      obtain ⟨⟨s1, s2⟩, hst⟩ : ∃ st, st = scanTo m a (r : Int) 12 := ⟨_, rfl⟩
      rw [← hst] at hfin
      rw [← hst]
      clear hst
      simp only at hfin
      rcases hfin with ⟨g1, g2⟩ | ⟨g1, x, g2, g3, g4, g5⟩
      · have e6 : ln = 6 := by rw [HLN.out, g2]
        subst e6
        clear g2
        go_wp2_with fail
        refine CK.out.mono ?_
        rintro e w7 ⟨rfl, hb7⟩
        have y1 := cell_keep hb7 y1
        have y2 := cell_keep hb7 y2
        have y3 := cell_keep hb7 y3
        have HB7 := Go.Lib.hid (HB.out.trans (hb7.mono HB.out.size))
        have hBR7 : BR < w7.heap.size := Nat.lt_of_lt_of_le hBR hb7.size
        clear hb7
        go_wp2_with fail
        go_ret
        exact ⟨rfl, B6.out.trans (HB7.out.mono B6.out.size)⟩
      · have e6 : ln = 0 := by rw [HLN.out, g2]
        subst e6
        have ex : lr = x := by rw [HLR.out, g2]
        subst ex
        rw [g3] at y1
        rw [g4] at y3
        have hh : lr.here = (s2 == 0) := by rcases hx : lr.here with _ | _ <;> rw [hx] at g5 <;> simp at g5 <;> simp [g5]
        rw [hh] at y2
        have hbb1 : (s1 == s1) = true := by simp
        have hbb2 : (s2 == s2) = true := by simp
        have hbb3 : ((s2 == 0) == (s2 == 0)) = true := by simp
        have g1' : ¬ s1 < 0 := by omega
        clear g2 g3 g4 g5 hh
        go_wp2_with fail
        refine CK.out.mono ?_
        rintro e w7 ⟨rfl, hb7⟩
        have y1 := cell_keep hb7 y1
        have y2 := cell_keep hb7 y2
        have y3 := cell_keep hb7 y3
        have HB7 := Go.Lib.hid (HB.out.trans (hb7.mono HB.out.size))
        have hBR7 : BR < w7.heap.size := Nat.lt_of_lt_of_le hBR hb7.size
        clear hb7
        go_wp2_with fail
        go_ret
        exact ⟨rfl, B6.out.trans (HB7.out.mono B6.out.size)⟩

set_option maxRecDepth 100000 in
theorem tablesFind_contract (H : Type) (enc : TypeId × Value → H) (W : World) (base : Nat) (args : Array Value) (ds gs : List (DataW H)) (before : List MemPlace)
    (hval0 : ∀ (j : Nat) t v, Tryz.f6.params[j]? = some t → args[j]? = some v → Value.okWide Tryz.prog W .any base t v)
    (hW : DataW.Whole enc Tryz.prog Tryz.f6.params.toList Rows.tablesFindSpec.vars false W args.toList ds gs before) (hE : Env W) :
    Calls Tryz.prog 6 args W fun e W' => ∃ v, e = .returned v ∧ Rows.tablesFindSpec.post enc Tryz.prog Tryz.f6 false true false false W args v W' := by
  have hval : ∀ (j : Nat) t v, Tryz.f6.params[j]? = some t → args[j]? = some v → Value.okWide Tryz.prog W .any base t v := hval0
  have hW' := hW
  obtain ⟨p, q, hA0, hV, rfl, hfz, _⟩ := hW
  have hA : DataW.TrodAll enc Tryz.prog W 0 (fun _ => true) true Tryz.f6.params.toList args.toList ds p := hA0
  rw [Tryz.params6] at hA hval
  obtain ⟨rfl, rfl⟩ := trodVars_none hV
  obtain ⟨v0, v1, v2, v3, d0, d1, d2, d3, p0, p1, p2, p3, rfl, rfl, rfl, h0, h1, h2, h3⟩ := trodAll_four hA
  obtain ⟨x0, hx0⟩ := open_sl Tryz.underlying29 opens_raws (hval 0 29 v0 rfl rfl) h0
  obtain ⟨x1, rfl, rfl, rfl, wx1⟩ := open_int Tryz.underlying3 (hval 1 3 v1 rfl rfl) h1
  have hx1 : inR x1 := inR_of wx1
  obtain ⟨x2, rfl, rfl, rfl, wx2⟩ := open_int Tryz.underlying3 (hval 2 3 v2 rfl rfl) h2
  have hx2 : inR x2 := inR_of wx2
  obtain ⟨x3, rfl, rfl, rfl, wx3⟩ := open_int Tryz.underlying3 (hval 3 3 v3 rfl rfl) h3
  have hx3 : inR x3 := inR_of wx3
  refine (tablesFind_walk v0 x0 x1 x2 x3 W hx0 hx1 hx2 hx3 hE).mono fun e W' ⟨he, hb⟩ => ?_
  subst he
  exact ⟨_, rfl, law_post hW' laidOut (by rw [Tryz.params6]; intro t ht; simp at ht; rcases ht with rfl | rfl <;> exact ⟨by kernel_rfl, of_decide_eq_true (by kernel_rfl)⟩) rfl rfl Tryz.underlying4 rfl rfl rfl hb⟩

theorem tablesFind_reads (os : Os) {H : Type} (enc : TypeId × Value → H) : ∃ places, DataW.whole enc Tryz.prog ((laidW7 os).forCall (fun _ _ => 0) ⟨#[], #[.slice none 0 0, .int .i64 0, .int .i64 0, .int .i64 0], []⟩).memory Tryz.f6.params.toList Rows.tablesFindSpec.vars false (#[.slice none 0 0, .int .i64 0, .int .i64 0, .int .i64 0] : Array Value).toList 8 = some ([.nil, .lit (.int .i64 0), .lit (.int .i64 0), .lit (.int .i64 0)], [], places) :=
  ⟨[], by kernel_rfl⟩
set_option maxRecDepth 100000 in
theorem tablesFind_lifted (os : Os) (started : os.Started) (H : Type) (enc : TypeId × Value → H) (F : Stop.Interp) :
    ReturnsInHanded {} Tryz.checked os 6 .any ((OpenSpec.ofChange Rows.tablesFindSpec).preRow enc Tryz.prog Tryz.f6 Rows.tablesFindRow.domain false Rows.tablesFindRow.laid) (((OpenSpec.ofChange Rows.tablesFindSpec).at F).post enc Tryz.prog Tryz.f6 false true false false) := by
  obtain ⟨places, hx⟩ := tablesFind_reads os enc
  refine returnsInHanded_of_row (C := Tryz.checked) (s := OpenSpec.ofChange Rows.tablesFindSpec) own started (by kernel_rfl) Tryz.func6
    (witness_row_at (enc := enc) (C := Tryz.checked) false (laidW7 os) #[.slice none 0 0, .int .i64 0, .int .i64 0, .int .i64 0] rfl (by kernel_rfl) (by kernel_rfl) (by kernel_rfl)
      (OpenSpec.preRow_of_cond 8 hx (by kernel_rfl) (fun k hk => by cases hk) (by kernel_rfl) (laid_met7 os _))) ?_
  intro W base args ds gs before hval hW _ hcond _ hL hsh _
  exact tablesFind_contract H enc W base args ds gs before hval hW (env_of hL hsh)
theorem tablesFind_said : Rows.TablesFindSaid :=
  OpenClaim.holds_of_cond 6 Tryz.f6 rfl rfl rfl rfl rfl rfl rfl ⟨rfl, rfl, rfl, rfl, rfl⟩ rfl rfl rfl rfl rfl (by kernel_rfl) Tryz.func6 (by kernel_rfl)
    (of_decide_eq_true (by kernel_rfl)) (by unfold Func.isWrapper; first | (rw [if_pos (by decide +kernel)]; kernel_rfl) | (rw [if_neg (by decide +kernel)]; exact ⟨rfl, rfl⟩))
    (fun os started H enc _ F => by rw [OpenClaim.pre_eq_preRow]; exact tablesFind_lifted os started H enc F)
theorem tablesFind_plain (f : FuncId) (fn : Func) (hf : Tryz.pinned.checked.prog.funcNamed "tollbar/tollbarkeep.TablesFind" = some f) (hfn : Tryz.pinned.checked.prog.funcs[f]? = some fn) :
    true = Tryz.pinned.checked.prog.looks [] ∧ ∀ (j : Nat) t, fn.params[j]? = some t → Tryz.pinned.checked.prog.wantsStandIn t = false := by
  obtain rfl : f = 6 := Option.some.inj ((show Tryz.prog.funcNamed "tollbar/tollbarkeep.TablesFind" = some 6 by kernel_rfl).symm.trans hf) |>.symm
  obtain rfl : fn = Tryz.f6 := (Option.some.inj (Tryz.func6.symm.trans hfn)).symm
  refine ⟨by kernel_rfl, fun j t ht => ?_⟩
  rw [Tryz.params6] at ht
  have hm := Array.mem_of_getElem? ht
  simp at hm
  rcases hm with rfl | rfl
  · exact (show Tryz.prog.wantsStandIn 29 = false by kernel_rfl)
  · exact (show Tryz.prog.wantsStandIn 3 = false by kernel_rfl)
theorem tablesFind_holds : Rows.TablesFindCardSaid :=
  Claim7.holds_tied_plain_at .later [] _ _ _ _ tablesFind_said (fun _ h => by cases h) (by kernel_rfl) (fun _ h => by cases h) tablesFind_row_tie rfl ⟨rfl, rfl⟩ (by kernel_rfl) rfl tablesFind_plain (by kernel_rfl)
#print axioms tablesFind_holds
end Go.Proofs.YtcbkimbeljhbhaaGreatDoor
