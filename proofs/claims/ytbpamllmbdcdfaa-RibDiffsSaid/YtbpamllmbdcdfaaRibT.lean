/-
  Walks of the rib layer: DiffOf.
-/
import Derived.Test.YtbpamllmbdcdfaaRibS
namespace Go.Proofs.Ytbpamllmbdcdfaa
open Go.RowKit Go.Deep

theorem OwR.drewNR {α : Type} {r : Rep α} {E base : Nat} {w : World} {v : Value} {xs : List α} (h : OwR r E base w v xs) (n : Nat) : OwR r E base (w.drewN n) v xs := h.keep (bDrewN (Below.refl w.heap.size w) n)
theorem inTab_none {xs : List Route} {r : Route} (h : chkRoutes xs = 0) (h2 : (atR xs r.pre).isSome = false) : inTab xs r = false := by
  rw [inTab_at h r]
  rcases e : atR xs r.pre with _ | j
  · rfl
  · rw [e] at h2; cases h2
theorem inTab_some {xs : List Route} {r x : Route} (h : chkRoutes xs = 0) (h2 : (atR xs r.pre).isSome = true) (h3 : ∀ j, atR xs r.pre = some j → xs[j]? = some x) : inTab xs r = sameR x r := by
  rw [inTab_at h r]
  rcases e : atR xs r.pre with _ | j
  · rw [e] at h2; cases h2
  · simp only [h3 j e]
/-- the cells of a route of an argument, whatever has been made since -/
theorem route_keep {w : World} {b off c n : Nat} {xs : List Route} (h : Sl routeR w (.slice (some ⟨b, off, none⟩) n c) xs) (hb : b < w.heap.size) {k : Nat} (hk : k < xs.length) :
    ∃ vh, (∀ w', Below w.heap.size w w' → w'.cell? ⟨b, off + k * 5, none⟩ = some (.int .i64 xs[k].pre.addr) ∧ w'.cell? ⟨b, off + k * 5 + 1, none⟩ = some (.int .i64 xs[k].pre.bits) ∧ w'.cell? ⟨b, off + k * 5 + 2, none⟩ = some (.bool xs[k].here) ∧
      w'.cell? ⟨b, off + k * 5 + 3, none⟩ = some (.int .i64 xs[k].cost) ∧ w'.cell? ⟨b, off + k * 5 + 4, none⟩ = some vh) ∧ Sl intR w vh xs[k].hops ∧ xs[k].wf := by
  obtain ⟨vh, f1, f2, f3, f4, f5, hs, hw⟩ := h.route hk
  exact ⟨vh, fun w' hb' => ⟨(bAt hb' hb _).trans f1, (bAt hb' hb _).trans f2, (bAt hb' hb _).trans f3, (bAt hb' hb _).trans f4, (bAt hb' hb _).trans f5⟩, hs, hw⟩

set_option maxRecDepth 100000 in
set_option maxHeartbeats 4000000 in
theorem diffOf_any (v1 v2 : Value) (xs ys : List Route) (w : World) (h1 : Sl routeR w v1 xs) (h2 : Sl routeR w v2 ys) : Calls Try.prog 42 #[v1, v2] w (DiffPost (diffS xs ys) w) := by
  have hlen := h2.len_le
  have hlen1 := h1.len_le
  obtain ⟨A1, c1, rfl⟩ := h1.form
  obtain ⟨A2, c2, rfl⟩ := h2.form
  have H1 := Go.Lib.hid h1
  have H2 := Go.Lib.hid h2
  clear h1 h2
  go_enter Try.func42, Try.ntmps42
  go_wp2_with fail
  refine (tableFault_any _ xs _ H1.out).mono ?_
  rintro r w1 ⟨rfl, hb1⟩
  have HB1 := Go.Lib.hid hb1
  have hz1 := hb1.size
  clear hb1
  by_cases hc : chkRoutes xs = 0
  · have t1 : (chkRoutes xs == 0) = true := by simp [hc]
    have HC := Go.Lib.hid hc
    clear hc
    go_wp2_with fail
    refine (tableFault_any _ ys _ (H2.out.below HB1.out)).mono ?_
    rintro r w2 ⟨rfl, hb2⟩
    have HB2 := Go.Lib.hid (HB1.out.trans (hb2.mono hz1))
    have hz2 := HB2.out.size
    clear hb2
    by_cases hc2 : chkRoutes ys = 0
    · have t2 : (chkRoutes ys != 0) = false := by simp [hc2]
      have HOKA := Go.Lib.hid (routes_ok HC.out)
      have HOKB := Go.Lib.hid (routes_ok hc2)
      have hl2 := HOKB.out.1
      have hl1 := HOKA.out.1
      have HF := Go.Lib.hid (diff_ok HC.out hc2)
      clear hc2
      go_wp2_with fail
      go_loopw [8, 9, 10, 11] (fun s8 s9 _ _ wr => ∃ k : Nat, k ≤ ys.length ∧ s9 = .int .i64 k ∧ OwR routeR 54 w.heap.size wr s8 ((ys.take k).filter fun r => !inTab xs r) ∧ Below w.heap.size w wr) (fun _ s9 _ _ _ => ys.length - (intOf s9).toNat)
      case atStart => exact ⟨0, Nat.zero_le _, rfl, OwR.nil _ _ HB2.out.size, HB2.out⟩
      case round =>
        obtain ⟨k, hk, rfl, hown, hB⟩ := hrel
        have HO := Go.Lib.hid hown
        have HB := Go.Lib.hid hB
        have hez := hB.size
        by_cases hlt : k < ys.length
        · obtain ⟨b, off, rfl, hb⟩ := H2.out.at_ hlt
          obtain ⟨vh, hey, hs, hrw⟩ := route_keep H2.out hb hlt
          have hset := set_to (a := xs) hlt
          obtain ⟨y, hy⟩ : ∃ y, ys[k] = y := ⟨_, rfl⟩
          rw [hy] at hs hrw hset
          simp only [hy] at hey
          have HRW := Go.Lib.hid hrw
          have HSET := Go.Lib.hid hset
          have HEY := Go.Lib.hid hey
          have HS := Go.Lib.hid hs
          have HAT := Go.Lib.hid (routeAt_any _ xs y.pre wr (H1.out.below hB) (by omega))
          obtain ⟨f1, f2, f3, f4, f5⟩ := hey wr hB
          have r0 : (0 : Int) ≤ (k : Int) := Int.natCast_nonneg _
          have r1 : (k : Int) < (ys.length : Int) := by omega
          have HFL := Go.Lib.hid (show ((ys.take k).filter fun r => !inTab xs r).length ≤ 1000000 by have := filt_len (fun r => !inTab xs r) ys k; omega)
          clear hown hB hy hrw hset hs hey
          go_wp2_with fail
          refine HAT.out.mono ?_
          rintro e w3 ⟨r, v3, rfl, hs3, hj3, hb3⟩
          have HO3 := Go.Lib.hid (HO.out.keep hb3)
          have HB3 := Go.Lib.hid (HB.out.trans (hb3.mono hez))
          have HS3 := Go.Lib.hid hs3
          have HJ3 := Go.Lib.hid hj3
          obtain ⟨A3, c3, hv3⟩ := hs3.form
          subst hv3
          unfold Route.agg
          clear hb3 f1 f2 f3 f4 f5 hs3 hj3
          rcases hth : (atR xs y.pre).isSome with _ | _
          · have HIN := Go.Lib.hid (inTab_none HC.out hth)
            clear hth
            go_wp2_with fail
            go_quiet (fail)
            have HB5 := Go.Lib.hid (bDrewN (HB3.out.alloc HB3.out.size (.cells #[.int .i64 r.pre.addr, .int .i64 r.pre.bits, .bool r.here, .int .i64 r.cost, .slice A3 r.hops.length c3] 54)) nq)
            have HO5 := Go.Lib.hid ((HO3.out.alloc1 (.cells #[.int .i64 r.pre.addr, .int .i64 r.pre.bits, .bool r.here, .int .i64 r.cost, .slice A3 r.hops.length c3] 54)).drewNR nq)
            obtain ⟨f1', f2', f3', f4', f5'⟩ := HEY.out _ HB5.out
            go_wp2_with (at_builtin; refine wpList_route (base := w.heap.size) (r := y) rfl (.tmp 52) (.tmp 57) rfl HO5.out (SlR.keep HS.out HB5.out.block (fun _ h => h)) HRW.out (fun k hk => ⟨by have := HB5.out.size; omega, fun e => by have := (HO5.out.base_le _ e).1; omega⟩) rfl rfl (by first | rfl | simp) HFL.out ?_; intro v6 w6 ho6 hg6)
            go_roundw
            case rel =>
              refine ⟨k + 1, by omega, by go_num, ?_, (HB5.out.alloc HB5.out.size _).grown hg6.grown (by have := HB5.out.size; rw [World.size_alloc]; omega) (fun q e => (HO5.out.base_le q e).1)⟩
              rw [HSET.out, if_neg (by rw [HIN.out]; simp)]
              exact ho6
            case measure => simp [intOf]; omega
          · have hsame := inTab_some HC.out hth HJ3.out
            have HSAME := Go.Lib.hid hsame
            clear hth hsame
            go_wp2_with fail
            refine still_tail 8 (by kernel_rfl) (by kernel_rfl) ?_
            intro wd hwd
            obtain ⟨hh, hhe⟩ : ∃ l, r.hops = l := ⟨_, rfl⟩
            have hN : ∀ i, wd.cell? ⟨w3.heap.size, i, none⟩ = #[Value.int .i64 r.pre.addr, .int .i64 r.pre.bits, .bool r.here, .int .i64 r.cost, .slice A3 r.hops.length c3][i]? := fun i => by
              rw [hwd, World.cell?_drew]; exact World.cell?_alloc_at _ _ _ _ rfl
            have hw3d : Below w3.heap.size w3 wd := by rw [hwd]; exact ((Below.refl _ _).alloc (Nat.le_refl _) _).drew
            have HBD := Go.Lib.hid (HB3.out.trans (hw3d.mono HB3.out.size))
            have HOD := Go.Lib.hid (HO3.out.keep hw3d)
            have hcal := refSame_any r y _ vh wd (HS3.out.below hw3d) (HS.out.below HBD.out)
            unfold Route.agg at hcal
            rw [hhe] at hN hcal ⊢
            obtain ⟨A4, c4, hv4⟩ := HS.out.form
            subst hv4
            have HCAL := Go.Lib.hid hcal
            obtain ⟨f1', f2', f3', f4', f5'⟩ := HEY.out _ HBD.out
            clear hwd hw3d hcal hhe
            simp only [List.take_succ_cons, List.take_zero, List.drop_succ_cons, List.drop_zero]
            iterate 8 still_step
            refine wpStill_nil ?_
            clear hN f1' f2' f3' f4' f5'
            go_wp2_with fail
            refine HCAL.out.mono ?_
            rintro e w5 ⟨rfl, hb5⟩
            have HB5 := Go.Lib.hid (HBD.out.trans (hb5.mono HBD.out.size))
            have HO5 := Go.Lib.hid (HOD.out.keep hb5)
            clear hb5
            rcases hsm : sameR r y with _ | _
            · have HIN := Go.Lib.hid (HSAME.out.trans hsm)
              clear hsm
              obtain ⟨f1', f2', f3', f4', f5'⟩ := HEY.out _ HB5.out
              go_wp2_with (at_builtin; refine wpList_route (base := w.heap.size) (r := y) rfl (.tmp 52) (.tmp 57) rfl HO5.out (SlR.keep HS.out HB5.out.block (fun _ h => h)) HRW.out (fun k hk => ⟨by have := HB5.out.size; omega, fun e => by have := (HO5.out.base_le _ e).1; omega⟩) rfl rfl (by first | rfl | simp) HFL.out ?_; intro v6 w6 ho6 hg6)
              go_roundw
              case rel =>
                refine ⟨k + 1, by omega, by go_num, ?_, (HB5.out.alloc HB5.out.size _).grown hg6.grown (by have := HB5.out.size; rw [World.size_alloc]; omega) (fun q e => (HO5.out.base_le q e).1)⟩
                rw [HSET.out, if_neg (by rw [HIN.out]; simp)]
                exact ho6
              case measure => simp [intOf]; omega
            · have HIN := Go.Lib.hid (HSAME.out.trans hsm)
              clear hsm
              go_wp2_with fail
              go_roundw
              case rel =>
                refine ⟨k + 1, by omega, by go_num, ?_, HB5.out⟩
                rw [HSET.out, if_pos HIN.out, List.append_nil]
                exact HO5.out
              case measure => simp [intOf]; omega
        · obtain rfl : k = ys.length := by omega
          have hset : ((ys.take ys.length).filter fun r => !inTab xs r) = diffSet xs ys := by unfold diffSet; rw [List.take_length]
          rw [hset] at hown
          have HSL := Go.Lib.hid (hown.sl (by decide))
          clear hown hB hset HO
          go_wp2_with fail
          obtain ⟨wm, rfl⟩ : ∃ m, m = wr := ⟨wr, rfl⟩
          go_loopw [12, 13, 14, 15] (fun s12 s13 _ _ wq => ∃ k : Nat, k ≤ xs.length ∧ s13 = .int .i64 k ∧ OwR prefR 52 wm.heap.size wq s12 (((xs.take k).filter fun r => !inPre ys r).map Route.pre) ∧ Below wm.heap.size wm wq) (fun _ s13 _ _ _ => xs.length - (intOf s13).toNat)
          case atStart => exact ⟨0, Nat.zero_le _, rfl, OwR.nil _ _ (Nat.le_refl _), Below.refl _ _⟩
          case round =>
            obtain ⟨k, hk, rfl, hown, hBq⟩ := hrel
            have hB := HB.out.trans (hBq.mono hez)
            have HO := Go.Lib.hid hown
            have HBQ := Go.Lib.hid hBq
            have HBW := Go.Lib.hid hB
            have hezq := hBq.size
            by_cases hlt : k < xs.length
            · obtain ⟨b, off, rfl, hb⟩ := H1.out.at_ hlt
              obtain ⟨vh, hey, hs, hrw⟩ := route_keep H1.out hb hlt
              have hset := gone_to (b := ys) hlt
              obtain ⟨y, hy⟩ : ∃ y, xs[k] = y := ⟨_, rfl⟩
              rw [hy] at hrw hset
              simp only [hy] at hey
              have HRW := Go.Lib.hid hrw
              have HSET := Go.Lib.hid hset
              have HEY := Go.Lib.hid hey
              have HAT := Go.Lib.hid (routeAt_any _ ys y.pre wr (H2.out.below hB) (by omega))
              obtain ⟨f1, f2, f3, f4, f5⟩ := hey wr hB
              have r0 : (0 : Int) ≤ (k : Int) := Int.natCast_nonneg _
              have r1 : (k : Int) < (xs.length : Int) := by omega
              have HIP := Go.Lib.hid (atR_inPre ys y)
              clear hown hBq hB hy hrw hset hs hey
              go_wp2_with fail
              refine HAT.out.mono ?_
              rintro e w3 ⟨r, v3, rfl, hs3, _, hb3⟩
              have HO3 := Go.Lib.hid (HO.out.keep hb3)
              have HB3 := Go.Lib.hid (HBQ.out.trans (hb3.mono hezq))
              obtain ⟨A3, c3, hv3⟩ := hs3.form
              subst hv3
              unfold Route.agg
              clear hb3 f1 f2 f3 f4 f5 hs3
              have HB5 := Go.Lib.hid (HB3.out.alloc HB3.out.size (.cells #[.int .i64 r.pre.addr, .int .i64 r.pre.bits, .bool r.here, .int .i64 r.cost, .slice A3 r.hops.length c3] 54))
              have HO5 := Go.Lib.hid (HO3.out.alloc1 (.cells #[.int .i64 r.pre.addr, .int .i64 r.pre.bits, .bool r.here, .int .i64 r.cost, .slice A3 r.hops.length c3] 54))
              obtain ⟨f1', f2', f3', f4', f5'⟩ := HEY.out _ (HB.out.trans (HB5.out.mono hez))
              rcases hth : (atR ys y.pre).isSome with _ | _
              · have HIN := Go.Lib.hid (HIP.out.trans hth)
                have HFL := Go.Lib.hid (show (((xs.take k).filter fun r => !inPre ys r).map Route.pre).length ≤ 1000000 by rw [List.length_map]; have := filt_len (fun r => !inPre ys r) xs k; omega)
                clear hth
                go_wp2_with (at_builtin; refine wpList_pref (base := wm.heap.size) (r := y.pre) rfl (.tmp 77) (.tmp 83) rfl HO5.out ⟨HRW.out.1, HRW.out.2.1⟩ rfl rfl (by first | rfl | simp) HFL.out ?_; intro v5 w5 ho5 hg5)
                go_roundw
                case rel =>
                  refine ⟨k + 1, by omega, by go_num, ?_, (HB5.out.alloc HB5.out.size _).grown hg5.grown (by have := HB5.out.size; rw [World.size_alloc]; omega) (fun q e => (HO5.out.base_le q e).1)⟩
                  rw [HSET.out, if_neg (by rw [HIN.out]; simp)]
                  exact ho5
                case measure => simp [intOf]; omega
              · have HIN := Go.Lib.hid (HIP.out.trans hth)
                clear hth
                go_wp2_with fail
                go_roundw
                case rel =>
                  refine ⟨k + 1, by omega, by go_num, ?_, HB5.out⟩
                  rw [HSET.out, if_pos HIN.out, List.append_nil]
                  exact HO5.out
                case measure => simp [intOf]; omega
            · obtain rfl : k = xs.length := by omega
              have hset : (((xs.take xs.length).filter fun r => !inPre ys r).map Route.pre) = diffGone xs ys := by unfold diffGone; rw [List.take_length]
              rw [hset] at hown
              have HSG := Go.Lib.hid (hown.sl (by decide))
              clear hown hBq hset HO
              go_wp2_with fail
              go_ret3
              exact d_fin HF.out (HSL.out.below HBQ.out) HSG.out hB
    · have t2 : (chkRoutes ys != 0) = true := by simp [hc2]
      have HF := Go.Lib.hid (diff_bad2 HC.out hc2)
      clear hc2
      go_wp2_with fail
      go_ret3
      exact d_fin HF.out (Sl.nil _ _) (Sl.nil _ _) HB2.out
  · have t1 : (chkRoutes xs == 0) = false := by simp [hc]
    have t2 : (chkRoutes xs != 0) = true := by simp [hc]
    have HF := Go.Lib.hid (diff_bad1 (b := ys) hc)
    clear hc
    go_wp2_with fail
    go_ret3
    exact d_fin HF.out (Sl.nil _ _) (Sl.nil _ _) HB1.out
end Go.Proofs.Ytbpamllmbdcdfaa
