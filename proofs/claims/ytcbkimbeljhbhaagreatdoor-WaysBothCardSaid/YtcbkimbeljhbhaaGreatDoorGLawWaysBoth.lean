/-
  Proved here: the law WaysBoth returns true for every list of raw things and every three numbers; the listed package-level variables hold what the program's text lays.
-/
import Derived.Test.YtcbkimbeljhbhaaGreatDoorGKmC
import Derived.Test.YtcbkimbeljhbhaaGreatDoorGKeO
import Derived.Test.YtcbkimbeljhbhaaGreatDoorGKeC
import Derived.Test.YtcbkimbeljhbhaaGreatDoorGKtB
import Derived.Test.YtcbkimbeljhbhaaGreatDoorGWbC
import Derived.Test.YtcbkimbeljhbhaaGreatDoorGDoW
set_option linter.unusedVariables false
set_option linter.unusedSimpArgs false
namespace Go.Proofs.YtcbkimbeljhbhaaGreatDoor
open Go Go.RowKit Go.Deep Go.ChangeShapes Go.WideShapes Go.ChangeAt


set_option maxRecDepth 50000 in
set_option maxHeartbeats 8000000 in
theorem waysBoth_walk (v : Value) (xs : List Raw) (f t x : Int) (w : World) (h : Sl rawR w v xs) (hf : inR f) (ht : inR t) (hx : inR x) (hE : Env w) :
    Calls Tryz.prog 5 #[v, .int .i64 f, .int .i64 t, .int .i64 x] w fun e w' => e = .returned (.bool true) ∧ Below w.heap.size w w' := by
  obtain ⟨Av, cv, rfl⟩ := h.form
  have H := Go.Lib.hid h
  have HE := Go.Lib.hid hE
  have hp := pickN_lt f 6 (by omega)
  have PF := Go.Lib.hid (fun w => picked_any f 6 w hf (by omega) (by omega))
  generalize pickN f 6 = p at *
  have hq := pickN_lt t 6 (by omega)
  have PT := Go.Lib.hid (fun w => picked_any t 6 w ht (by omega) (by omega))
  generalize pickN t 6 = q at *
  have hr := pickN_lt x 50 (by omega)
  have PX := Go.Lib.hid (fun w => picked_any x 50 w hx (by omega) (by omega))
  generalize pickN x 50 = r at *
  obtain ⟨c, hc⟩ : ∃ c, c = 1 + (r : Int) := ⟨_, rfl⟩
  have hcr : 1 ≤ c ∧ c ≤ 50 := by omega
  have HCC := Go.Lib.hid hc
  have HP12 := Go.Lib.hid (show p < 12 by omega)
  have HQ12 := Go.Lib.hid (show q < 12 by omega)
  have TL := Go.Lib.hid (tells_any w)
  clear h hE hf ht hx hc
  go_enter Tryz.func5, Tryz.ntmps5
  go_wp2_with fail
  refine TL.out.mono ?_
  rintro e w1 ⟨rfl, hb1⟩
  have B1 := Go.Lib.hid hb1
  have HM1 := Go.Lib.hid (map_any _ xs 6 w1 (H.out.below hb1) (by omega) (HE.out.below hb1))
  clear hb1 TL
  go_wp2_with fail
  refine HM1.out.mono ?_
  rintro e w2 ⟨v2, m, rfl, hk2, ho2, hb2⟩
  have B2 := Go.Lib.hid hb2
  have K2 := Go.Lib.hid hk2
  obtain ⟨A2, c2, hv2⟩ := (ho2.sl (by decide)).form
  subst hv2
  have O2 := Go.Lib.hid ho2
  have hml : m.length ≤ 60 := hk2.len
  clear hk2 ho2 hb2 HM1
  go_wp2_with fail
  go_loopw [29] (fun u wr => ∃ k : Nat, k ≤ m.length ∧ u = .int .i64 k ∧ OwR entR 50 w1.heap.size wr (.slice A2 m.length c2) (mixL (fixE c) m k) ∧ Below w1.heap.size w1 wr) (fun u _ => m.length - (intOf u).toNat)
  case atStart => exact ⟨0, Nat.zero_le _, rfl, by rw [mix_zero]; exact O2.out, B2.out⟩
  case round =>
    obtain ⟨k, hk, rfl, ho, hb⟩ := hrel
    have HO := Go.Lib.hid ho
    have HB := Go.Lib.hid hb
    clear ho hb
    obtain ⟨WR, rfl⟩ : ∃ m, m = wr := ⟨wr, rfl⟩
    by_cases hlt : k < m.length
    · have hki : (k : Int) < (m.length : Int) := by omega
      have hk0 : (0 : Int) ≤ (k : Int) := Int.natCast_nonneg k
      have hmk : k < (mixL (fixE c) m k).length := by rw [mix_len]; exact hlt
      obtain ⟨g, hg1, hg2, hg3, hg4⟩ := OwR.at0 (c := c2) (A := A2) (xs := mixL (fixE c) m k) (by rw [mix_len]; exact HO.out) (by rw [mix_len]; omega)
      subst hg1
      obtain ⟨f0, f1, f2, f3, hwf⟩ := (HO.out.sl (by decide)).ent hmk
      rw [mix_get (fixE c) m hlt] at f0 f1 f2 f3 hwf
      simp only [Nat.zero_add] at f0 f1 f2 f3
      have hok := K2.out.ok m[k] (List.getElem_mem hlt)
      have HWF := Go.Lib.hid hwf
      have hkey : 0 < m[k].key.size ∧ m[k].value.size ≤ 120 := by
        unfold entryOk keyOk at hok
        simp only [Bool.and_eq_true, decide_eq_true_eq] at hok
        omega
      have hfr := fun w' => first_run hkey.1 w'
      have HG2 := Go.Lib.hid hg2
      have HG3 := Go.Lib.hid hg3
      have HFX := Go.Lib.hid (show fixE c m[k] = if m[k].key.data[0]? = some 97 ∧ (readAdj m[k].value.data.toList).2.2 = 0 then { m[k] with value := bOf (adjT (readAdj m[k].value.data.toList).1 ((readAdj m[k].value.data.toList).2.1.map (costC c))) } else m[k] from rfl)
      have HBK := Go.Lib.hid (fun (h : (readAdj m[k].value.data.toList).2.2 = 0) => adj_back h)
      have hk97 : m[k].key.data[0]? = some (m[k].key.data[0]'(by simpa using hkey.1)) := by
        rw [Array.getElem?_eq_getElem]
      have HK97 := Go.Lib.hid hk97
      clear hk97
      generalize m[k].key.data[0]'(by simpa using hkey.1) = kb at *
      have RO := Go.Lib.hid (readAdj_ow m[k].value (WR.alloc (.cells #[.string m[k].key, .int .i64 m[k].version, .int .i64 m[k].origin, .string m[k].value] 50)) (by omega) ((HE.out.below (B1.out.trans (HB.out.mono B1.out.size))).below ((Below.refl WR.heap.size WR).alloc (Nat.le_refl _) _)))
      clear hwf hok hg2 hkey
      go_wp2_with fail
      refine RO.out.mono ?_
      rintro e w3 ⟨v3, rfl, ho3, hb3⟩
      obtain ⟨hA, hN, hM, hS⟩ := pastAlloc hb3
      obtain ⟨A3, c3, hv3⟩ := (ho3.sl (by decide)).form
      subst hv3
      have HA := Go.Lib.hid hA
      have O3 := Go.Lib.hid ho3
      generalize readAdj m[k].value.data.toList = ra at *
      obtain ⟨d, L, er⟩ := ra
      simp only at HFX HBK O3
      have HBA := Go.Lib.hid (HA.out.alloc HA.out.size (.cells #[.bool d, .slice A3 L.length c3] 53))
      have HO5 := Go.Lib.hid (HO.out.keep HBA.out)
      have HB5 := Go.Lib.hid (HB.out.trans (HBA.out.mono HB.out.size))
      clear hA ho3 hb3 RO
      by_cases hkb : kb = 97
      · have e97 : (((kb.toNat : Nat) : Int) != 97) = false := by rw [hkb]; rfl
        rw [hkb] at HK97
        clear hkb
        by_cases her : er = 0
        · have HFX2 := Go.Lib.hid (HFX.out.trans (if_pos ⟨HK97.out, her⟩))
          have HCK := Go.Lib.hid (HBK.out her).1
          subst her
          have hLn := sides_len HCK.out
          obtain ⟨BA, hBA⟩ : ∃ BA, BA = w3.heap.size := ⟨_, rfl⟩
          have HOS := Go.Lib.hid ((O3.out.lower (base' := WR.heap.size) (by simp)).keep ((Below.refl w3.heap.size w3).alloc (Nat.le_refl _) (.cells #[.bool d, .slice A3 L.length c3] 53)))
          have HOL := Go.Lib.hid (O3.out)
          have a0 : (w3.alloc (.cells #[.bool d, .slice A3 L.length c3] 53)).cell? ⟨BA, 0, none⟩ = some (.bool d) := by rw [World.cell?_alloc_at _ _ _ _ hBA]; rfl
          have a1 : (w3.alloc (.cells #[.bool d, .slice A3 L.length c3] 53)).cell? ⟨BA, 1, none⟩ = some (.slice A3 L.length c3) := by rw [World.cell?_alloc_at _ _ _ _ hBA]; rfl
          have HA0 := Go.Lib.hid a0
          have HA1 := Go.Lib.hid a1
          have hal : BA < (w3.alloc (.cells #[.bool d, .slice A3 L.length c3] 53)).heap.size := by rw [hBA]; simp
          have HAL := Go.Lib.hid hal
          have HNE := Go.Lib.hid (show ∀ g, A3 = some ⟨g, 0, none⟩ → WR.heap.size ≤ g ∧ g ≠ BA from fun g e => by subst e; have := HOL.out.base_le g rfl; simp at this; omega)
          clear a0 a1 hal O3
          go_wp2_with fail
          rw [← hBA]
          clear hBA hN hM hS
          go_loopw [51] (fun u wr3 => ∃ j : Nat, j ≤ L.length ∧ u = .int .i64 j ∧ OwR sideR 57 WR.heap.size wr3 (.slice A3 L.length c3) (mixL (costC c) L j) ∧ wr3.cell? ⟨BA, 0, none⟩ = some (.bool d) ∧ wr3.cell? ⟨BA, 1, none⟩ = some (.slice A3 L.length c3) ∧ BA < wr3.heap.size ∧ Below WR.heap.size WR wr3) (fun u _ => L.length - (intOf u).toNat)
          case atStart => exact ⟨0, Nat.zero_le _, rfl, by rw [mix_zero]; exact HOS.out, HA0.out, HA1.out, HAL.out, HBA.out⟩
          case round =>
            obtain ⟨j, hj, rfl, hos, b0, b1, hbl, hbb⟩ := hrel
            have HOJ := Go.Lib.hid hos
            have HBJ := Go.Lib.hid hbb
            have H0J := Go.Lib.hid b0
            have H1J := Go.Lib.hid b1
            clear hos hbb
            by_cases hjl : j < L.length
            · have hji : (j : Int) < (L.length : Int) := by omega
              have hj0 : (0 : Int) ≤ (j : Int) := Int.natCast_nonneg j
              obtain ⟨g3, hg31, hg32, hg33, hg34⟩ := OwR.at0 (A := A3) (c := c3) (xs := mixL (costC c) L j) (by rw [mix_len]; exact HOJ.out) (by rw [mix_len]; omega)
              have hne := (HNE.out g3 hg31).2
              subst hg31
              have hmj : j < (mixL (costC c) L j).length := by rw [mix_len]; exact hjl
              have hsd := (HOJ.out.sl (by decide)).side hmj
              have s0 := hsd.1
              have s1 := hsd.2.1
              clear hsd
              rw [mix_get _ _ hjl] at s0 s1
              simp only [Nat.zero_add] at s0 s1
              have hfz := hg34 (j * 2 + 1)
              have HMJ := Go.Lib.hid hmj
              have HNG := Go.Lib.hid hne
              have HSET := Go.Lib.hid (show OwR sideR 57 WR.heap.size (wr.setCell ⟨g3, j * 2 + 1, none⟩ (.int .i64 (1 + (r : Int)))).drew (.slice (some ⟨g3, 0, none⟩) L.length c3) (mixL (costC c) L (j + 1)) from by
                have h := OwR.setCost (i := j) HOJ.out hmj (c := c) (by unfold inR; omega)
                rw [mix_get (costC c) L hjl, mix_set (costC c) L hjl] at h
                rw [← HCC.out]; exact ow_drew h)
              have hblk : (wr.setCell ⟨g3, j * 2 + 1, none⟩ (.int .i64 (1 + (r : Int)))).drew.heap[BA]? = wr.heap[BA]? := Below.heap_setCell _ _ _ _ (fun e => hne e.symm)
              have HC0 := Go.Lib.hid ((World.cell?_of_block (w := wr) hblk).trans H0J.out)
              have HC1 := Go.Lib.hid ((World.cell?_of_block (w := wr) hblk).trans H1J.out)
              have HSZ := Go.Lib.hid (show BA < (wr.setCell ⟨g3, j * 2 + 1, none⟩ (.int .i64 (1 + (r : Int)))).drew.heap.size by have : (wr.setCell ⟨g3, j * 2 + 1, none⟩ (.int .i64 (1 + (r : Int)))).heap.size = wr.heap.size := (by simp [World.setCell]); exact this ▸ hbl)
              have HBS := Go.Lib.hid ((HBJ.out.setCell (p := ⟨g3, j * 2 + 1, none⟩) hg32 (.int .i64 (1 + (r : Int)))).drew)
              clear hg34 hmj b0 hblk
              go_wp2_with fail
              go_region_with (go_at_call 11; refine (PX.out _).mono ?_; rintro e w' ⟨rfl, rfl⟩)
              all_goals go_wp2_with fail
              all_goals
                go_roundw
                case rel => exact ⟨j + 1, by omega, by go_num, HSET.out, HC0.out, HC1.out, HSZ.out, HBS.out⟩
                case measure => simp [intOf]; omega
            · obtain rfl : j = L.length := by omega
              have hos := HOJ.out
              rw [mix_all] at hos
              have hck := chk_cost HCK.out hcr.1 (by omega : c ≤ 1000)
              have SA := Go.Lib.hid (showAdj_any d (.slice A3 L.length c3) (L.map (costC c)) wr (hos.sl (by decide)) (HE.out.below (B1.out.trans ((HB.out.trans (HBJ.out.mono HB.out.size)).mono B1.out.size))).tab)
              have HCC2 := Go.Lib.hid hck
              clear hos hck
              go_wp2_with fail
              refine SA.out.mono ?_
              rintro e w6 ⟨hta, hb6⟩
              unfold TAdj at hta
              rw [if_pos HCC2.out, HCC2.out] at hta
              subst hta
              have hb7 := HBJ.out.trans (hb6.mono HBJ.out.size)
              have z3 := cell_keep hb7 f3
              have z4 : w6.frozen? ⟨g, k * 4 + 3, none⟩ = false := by rw [hb7.frozen (p := ⟨g, k * 4 + 3, none⟩) HG3.out]; exact hg4 _
              have HB7 := Go.Lib.hid hb7
              have HFIN := Go.Lib.hid (show OwR entR 50 w1.heap.size (w6.setCell ⟨g, k * 4 + 3, none⟩ (.string (bOf (adjT d (L.map (costC c)))))) (.slice (some ⟨g, 0, none⟩) m.length c2) (mixL (fixE c) m (k + 1)) from by
                have h := OwR.setValue (i := k) (HO.out.keep HB7.out) hmk (s := bOf (adjT d (L.map (costC c)))) (by rw [mix_get (fixE c) m hlt]; exact ⟨HWF.out.1, HWF.out.2.1, HWF.out.2.2.1, by rw [bOf_size]; have := adjT_short d HCC2.out; unfold maxLen; omega⟩)
                rw [mix_get (fixE c) m hlt, ← HFX2.out, mix_set (fixE c) m hlt] at h
                exact h)
              clear hb6 hb7
              go_wp2_with fail
              go_roundw
              case rel => exact ⟨k + 1, by omega, by go_num, HFIN.out, (HB.out.trans (HB7.out.mono HB.out.size)).setCell (p := ⟨g, k * 4 + 3, none⟩) HG2.out _⟩
              case measure => simp [intOf]; omega
        · have HSAME := Go.Lib.hid (HFX.out.trans (if_neg (fun h => her h.2)))
          have heb : (er != 0) = true := by rw [bne_iff_ne]; exact her
          clear her
          go_wp2_with fail
          go_roundw
          case rel => exact ⟨k + 1, by omega, by go_num, by rw [mix_same (fixE c) m hlt HSAME.out]; exact HO5.out, HB5.out⟩
          case measure => simp [intOf]; omega
      · have HSAME := Go.Lib.hid (HFX.out.trans (if_neg (fun h => hkb (by have := HK97.out.symm.trans h.1; injection this))))
        have e97 : (((kb.toNat : Nat) : Int) != 97) = true := by
          rw [bne_iff_ne]; intro h; exact hkb (by have h2 : kb.toNat = 97 := by omega
                                                  exact UInt8.toNat_inj.1 h2)
        clear hkb
        go_wp2_with fail
        go_roundw
        case rel => exact ⟨k + 1, by omega, by go_num, by rw [mix_same (fixE c) m hlt HSAME.out]; exact HO5.out, HB5.out⟩
        case measure => simp [intOf]; omega
    · obtain rfl : k = m.length := by omega
      have ho := HO.out
      rw [mix_all] at ho
      have K3 := Go.Lib.hid (fix_ok K2.out hcr.1 (by omega))
      have S3 := Go.Lib.hid (show Sl entR WR (.slice A2 m.length c2) (m.map (fixE c)) from ho.sl (by decide))
      have HWB := Go.Lib.hid (way_back (fun a b => fix_sym (m := m) hcr.1 (by omega) a b) HP12.out HQ12.out)
      have B3 := Go.Lib.hid (B1.out.trans (HB.out.mono B1.out.size))
      clear ho
      generalize m.map (fixE c) = m2 at *
      have T1 := Go.Lib.hid (gwaysTop_any (.slice A2 m.length c2) m2 (p : Int) WR S3.out (by unfold inR; omega) (HE.out.below B3.out))
      rw [ways_good K3.out HP12.out] at T1
      go_wp2_with fail
      refine (PF.out _).mono ?_
      rintro e w' ⟨rfl, rfl⟩
      go_wp2_with fail
      refine (PT.out _).mono ?_
      rintro e w' ⟨rfl, rfl⟩
      go_wp2_with fail
      refine T1.out.mono ?_
      rintro e w4 ⟨v4, rfl, hs4, hb4⟩
      obtain ⟨A4, c4, hv4⟩ := hs4.form
      rw [waysTo_len] at hv4
      subst hv4
      have S4 := Go.Lib.hid hs4
      have B4 := Go.Lib.hid (B3.out.trans (hb4.mono B3.out.size))
      have T2 := Go.Lib.hid (gwaysTop_any (.slice A2 m.length c2) m2 (q : Int) w4 (S3.out.below hb4) (by unfold inR; omega) (HE.out.below B4.out))
      rw [ways_good K3.out HQ12.out] at T2
      clear hs4 hb4 T1
      go_wp2_with fail
      refine T2.out.mono ?_
      rintro e w5 ⟨v5, rfl, hs5, hb5⟩
      obtain ⟨A5, c5, hv5⟩ := hs5.form
      rw [waysTo_len] at hv5
      subst hv5
      have B5 := Go.Lib.hid (B4.out.trans (hb5.mono B4.out.size))
      obtain ⟨b4, o4, rfl, hbl4, vh4, y1, _, _⟩ := way_at (S4.out.below hb5) HQ12.out
      obtain ⟨b5, o5, rfl, hbl5, vh5, y2, _, _⟩ := way_at hs5 HP12.out
      rw [HWB.out] at y1
      generalize (wayTo m2 q p).cost = z at *
      have hzz : (z == z) = true := by simp
      have hpi : (p : Int) < 12 := by omega
      have hp0 : (0 : Int) ≤ (p : Int) := Int.natCast_nonneg p
      have hqi : (q : Int) < 12 := by omega
      have hq0 : (0 : Int) ≤ (q : Int) := Int.natCast_nonneg q
      clear hs5 hb5 T2
      go_wp2_with fail
      go_quiet (fail)
      go_wp2_with fail
      go_ret
      exact ⟨rfl, bDrewN B5.out _⟩

set_option maxRecDepth 100000 in
theorem waysBoth_contract (H : Type) (enc : TypeId × Value → H) (W : World) (base : Nat) (args : Array Value) (ds gs : List (DataW H)) (before : List MemPlace)
    (hval0 : ∀ (j : Nat) t v, Tryz.f5.params[j]? = some t → args[j]? = some v → Value.okWide Tryz.prog W .any base t v)
    (hW : DataW.Whole enc Tryz.prog Tryz.f5.params.toList Rows.waysBothSpec.vars false W args.toList ds gs before) (hE : Env W) :
    Calls Tryz.prog 5 args W fun e W' => ∃ v, e = .returned v ∧ Rows.waysBothSpec.post enc Tryz.prog Tryz.f5 false true false false W args v W' := by
  have hval : ∀ (j : Nat) t v, Tryz.f5.params[j]? = some t → args[j]? = some v → Value.okWide Tryz.prog W .any base t v := hval0
  have hW' := hW
  obtain ⟨p, q, hA0, hV, rfl, hfz, _⟩ := hW
  have hA : DataW.TrodAll enc Tryz.prog W 0 (fun _ => true) true Tryz.f5.params.toList args.toList ds p := hA0
  rw [Tryz.params5] at hA hval
  obtain ⟨rfl, rfl⟩ := trodVars_none hV
  obtain ⟨v0, v1, v2, v3, d0, d1, d2, d3, p0, p1, p2, p3, rfl, rfl, rfl, h0, h1, h2, h3⟩ := trodAll_four hA
  obtain ⟨x0, hx0⟩ := open_sl Tryz.underlying29 opens_raws (hval 0 29 v0 rfl rfl) h0
  obtain ⟨x1, rfl, rfl, rfl, wx1⟩ := open_int Tryz.underlying3 (hval 1 3 v1 rfl rfl) h1
  have hx1 : inR x1 := inR_of wx1
  obtain ⟨x2, rfl, rfl, rfl, wx2⟩ := open_int Tryz.underlying3 (hval 2 3 v2 rfl rfl) h2
  have hx2 : inR x2 := inR_of wx2
  obtain ⟨x3, rfl, rfl, rfl, wx3⟩ := open_int Tryz.underlying3 (hval 3 3 v3 rfl rfl) h3
  have hx3 : inR x3 := inR_of wx3
  refine (waysBoth_walk v0 x0 x1 x2 x3 W hx0 hx1 hx2 hx3 hE).mono fun e W' ⟨he, hb⟩ => ?_
  subst he
  exact ⟨_, rfl, law_post hW' laidOut (by rw [Tryz.params5]; intro t ht; simp at ht; rcases ht with rfl | rfl <;> exact ⟨by kernel_rfl, of_decide_eq_true (by kernel_rfl)⟩) rfl rfl Tryz.underlying4 rfl rfl rfl hb⟩

theorem waysBoth_reads (os : Os) {H : Type} (enc : TypeId × Value → H) : ∃ places, DataW.whole enc Tryz.prog ((laidW7 os).forCall (fun _ _ => 0) ⟨#[], #[.slice none 0 0, .int .i64 0, .int .i64 0, .int .i64 0], []⟩).memory Tryz.f5.params.toList Rows.waysBothSpec.vars false (#[.slice none 0 0, .int .i64 0, .int .i64 0, .int .i64 0] : Array Value).toList 8 = some ([.nil, .lit (.int .i64 0), .lit (.int .i64 0), .lit (.int .i64 0)], [], places) :=
  ⟨[], by kernel_rfl⟩
set_option maxRecDepth 100000 in
theorem waysBoth_lifted (os : Os) (started : os.Started) (H : Type) (enc : TypeId × Value → H) (F : Stop.Interp) :
    ReturnsInHanded {} Tryz.checked os 5 .any ((OpenSpec.ofChange Rows.waysBothSpec).preRow enc Tryz.prog Tryz.f5 Rows.waysBothRow.domain false Rows.waysBothRow.laid) (((OpenSpec.ofChange Rows.waysBothSpec).at F).post enc Tryz.prog Tryz.f5 false true false false) := by
  obtain ⟨places, hx⟩ := waysBoth_reads os enc
  refine returnsInHanded_of_row (C := Tryz.checked) (s := OpenSpec.ofChange Rows.waysBothSpec) own started (by kernel_rfl) Tryz.func5
    (witness_row_at (enc := enc) (C := Tryz.checked) false (laidW7 os) #[.slice none 0 0, .int .i64 0, .int .i64 0, .int .i64 0] rfl (by kernel_rfl) (by kernel_rfl) (by kernel_rfl)
      (OpenSpec.preRow_of_cond 8 hx (by kernel_rfl) (fun k hk => by cases hk) (by kernel_rfl) (laid_met7 os _))) ?_
  intro W base args ds gs before hval hW _ hcond _ hL hsh _
  exact waysBoth_contract H enc W base args ds gs before hval hW (env_of hL hsh)
theorem waysBoth_said : Rows.WaysBothSaid :=
  OpenClaim.holds_of_cond 5 Tryz.f5 rfl rfl rfl rfl rfl rfl rfl ⟨rfl, rfl, rfl, rfl, rfl⟩ rfl rfl rfl rfl rfl (by kernel_rfl) Tryz.func5 (by kernel_rfl)
    (of_decide_eq_true (by kernel_rfl)) (by unfold Func.isWrapper; first | (rw [if_pos (by decide +kernel)]; kernel_rfl) | (rw [if_neg (by decide +kernel)]; exact ⟨rfl, rfl⟩))
    (fun os started H enc _ F => by rw [OpenClaim.pre_eq_preRow]; exact waysBoth_lifted os started H enc F)
theorem waysBoth_plain (f : FuncId) (fn : Func) (hf : Tryz.pinned.checked.prog.funcNamed "tollbar/tollbarkeep.WaysBoth" = some f) (hfn : Tryz.pinned.checked.prog.funcs[f]? = some fn) :
    true = Tryz.pinned.checked.prog.looks [] ∧ ∀ (j : Nat) t, fn.params[j]? = some t → Tryz.pinned.checked.prog.wantsStandIn t = false := by
  obtain rfl : f = 5 := Option.some.inj ((show Tryz.prog.funcNamed "tollbar/tollbarkeep.WaysBoth" = some 5 by kernel_rfl).symm.trans hf) |>.symm
  obtain rfl : fn = Tryz.f5 := (Option.some.inj (Tryz.func5.symm.trans hfn)).symm
  refine ⟨by kernel_rfl, fun j t ht => ?_⟩
  rw [Tryz.params5] at ht
  have hm := Array.mem_of_getElem? ht
  simp at hm
  rcases hm with rfl | rfl
  · exact (show Tryz.prog.wantsStandIn 29 = false by kernel_rfl)
  · exact (show Tryz.prog.wantsStandIn 3 = false by kernel_rfl)
theorem waysBoth_holds : Rows.WaysBothCardSaid :=
  Claim7.holds_tied_plain_at .later [] _ _ _ _ waysBoth_said (fun _ h => by cases h) (by kernel_rfl) (fun _ h => by cases h) waysBoth_row_tie rfl ⟨rfl, rfl⟩ (by kernel_rfl) rfl waysBoth_plain (by kernel_rfl)
#print axioms waysBoth_holds
end Go.Proofs.YtcbkimbeljhbhaaGreatDoor
