/-
  
-/
import Derived.Test.YtojojpjldkpmoaaGreatDoorGTbD
set_option linter.unusedVariables false
set_option linter.unusedSimpArgs false
set_option maxHeartbeats 16000000
namespace Go.Proofs.YtojojpjldkpmoaaGreatDoor
open Go Go.RowKit Go.Deep
theorem GoodR.wf {r : Route} (h : GoodR r) : r.wf := by
 have := prefBad_ok h.pre
 have := h.c0
 have := h.c1
 unfold Route.wf inR
 omega
theorem GoodR.len {r : Route} (h : GoodR r) : r.hops.length <= 12 := by
 have := h.canon
 unfold Canon at this
 rw [<- this]
 exact zaz (zbP _ _) (by decide)
def AddPost (base : Nat) (w : World) (v : Value) (ys : List Route) (e : Ending) (w' : World) : Prop :=
 ∃ v', e = .returned v' /\ OwR routeR 130 base w' v' ys /\ GrowTo w v w' v'
theorem GrowTo.set (w : World) {v : Value} {g : Nat} (hv : v.ownBlock = some g) (o : Nat) (u : Value) : GrowTo w v (w.setCell ⟨g, o, none⟩ u) v := ⟨by rw [hv]; exact grown_setCell w ⟨g, o, none⟩ u, fun _ h => .inl h⟩
theorem grow5 (w : World) {v : Value} {g : Nat} (hv : v.ownBlock = some g) (a b c d e : Nat) (p q r s t : Value) : GrowTo w v (((((w.setCell ⟨g, a, none⟩ p).setCell ⟨g, b, none⟩ q).setCell ⟨g, c, none⟩ r).setCell ⟨g, d, none⟩ s).setCell ⟨g, e, none⟩ t) v :=
 ((((GrowTo.set w hv a p).trans (GrowTo.set _ hv b q)).trans (GrowTo.set _ hv c r)).trans (GrowTo.set _ hv d s)).trans (GrowTo.set _ hv e t)
set_option maxRecDepth 100000 in
theorem add_any (v : Value) (xs : List Route) (r : Route) (vh : Value) (base : Nat) (w : World) (h : OwR routeR 130 base w v xs) (hs : SortedR xs) (hg : ∀ x ∈ xs, GoodR x) (hr : GoodR r)
  (hh : SlR intR w (fun k => k < w.heap.size /\ v.ownBlock ≠ some k) vh r.hops) (hl : xs.length <= 1000) :
  Calls Tryz.prog 111 #[v, r.agg vh] w (AddPost base w v (addR xs r)) := by
 obtain ⟨A, c, rfl⟩ := h.form
 obtain ⟨Av, nv, cv, rfl⟩ : ∃ A n c, vh = .slice A n c := by obtain ⟨A, c, e, _⟩ := hh; exact ⟨A, _, c, e⟩
 have hbase : base <= w.heap.size := h.choose_spec.2.2.2
 have hal := (zad w.heap.size w).alloc (zab _) (.cells #[.int .i64 r.pre.addr, .int .i64 r.pre.bits, .bool r.here, .int .i64 r.cost, .slice Av nv cv] 130)
 have ho1 := h.keep hal
 have hbs := bsearchRA_any _ xs r.pre _ (ho1.sl (by decide)) hs (fun x hx => (hg x hx).pre) hr.pre (by omega)
 have HBS := zaa hbs
 have HAL := zaa hal
 have HO := zaa h
 have HS := zaa hs
 have HG := zaa hg
 have HR := zaa hr
 have HH := zaa hh
 clear h hs hg hr hh hal ho1 hbs
 unfold Route.agg
 rcases hp : hasP xs r.pre with _ | _
 · rw [hp] at HBS
   have HP := zaa hp
   clear hp
   go_enter Tryz.func111, Tryz.ntmps111
   go_wp2_with fail
   refine HBS.out.mono ?_
   rintro e w1 ⟨rfl, hb1⟩
   obtain ⟨hA, hN, hM, hSZ⟩ := pastAlloc hb1
   have b0 := hN 0
   have b1 := hN 1
   have b2 := hN 2
   have b3 := hN 3
   have b4 := hN 4
   simp only [zao, zap, zam] at b0 b1 b2 b3 b4
   have HA := zaa hA
   have HO1 := zaa (HO.out.keep hA)
   have HH1 := zaa (SlR.keep (S' := fun k => k < w1.heap.size /\ (Value.slice A xs.length c).ownBlock ≠ some k) HH.out (fun k hk => hA.block k hk.1) (fun k hk => ⟨zan hk.1 hA.size, hk.2⟩))
   have HG1 := zaa (GrowTo.of_below hA (Value.slice A xs.length c))
   clear hb1 hN hM hSZ hA
   go_wp2_with fail
   have hal2 := (zad w1.heap.size w1).alloc (zab _) (.cells #[.int .i64 r.pre.addr, .int .i64 r.pre.bits, .bool r.here, .int .i64 r.cost, .slice Av nv cv] 130)
   have HIN := zaa (insertRoute_any _ xs r (.slice Av nv cv) (lbP xs r.pre) _ w1.heap.size base (HO1.out.keep hal2) (tw_le _ xs) hl (heap_alloc_new w1 _) (fun e => by have := (HO1.out.base_le _ e).2; omega) (SlR.keep (S' := fun k => k < (w1.alloc (.cells #[.int .i64 r.pre.addr, .int .i64 r.pre.bits, .bool r.here, .int .i64 r.cost, .slice Av nv cv] 130)).heap.size /\ (Value.slice A xs.length c).ownBlock ≠ some k) HH1.out (fun k hk => hal2.block k hk.1) (fun k hk => ⟨zan hk.1 hal2.size, hk.2⟩)) HR.out.wf)
   have HG2 := zaa (HG1.out.trans (GrowTo.of_below hal2 (Value.slice A xs.length c)))
   have HAD := zaa (addR_no HS.out HP.out)
   clear hal2 b0 b1 b2 b3 b4
   refine HIN.out.mono ?_
   rintro e w3 ⟨v3, rfl, ho3, hg3⟩
   have HO3 := zaa ho3
   have HG3 := zaa hg3
   clear ho3 hg3
   go_wp2_with fail
   go_ret
   exact ⟨v3, rfl, by rw [HAD.out]; exact HO3.out, HG2.out.trans HG3.out⟩
 · rw [hp] at HBS
   obtain ⟨hlt, hpre, hadd⟩ := addR_yes HS.out hp
   obtain ⟨i, hi⟩ : ∃ i, i = lbP xs r.pre := ⟨_, rfl⟩
   simp only [<- hi] at hlt hpre hadd
   rw [<- hi] at HBS
   obtain ⟨x, hx⟩ : ∃ x, x = xs[i] := ⟨_, rfl⟩
   rw [<- hx] at hpre hadd
   have HX := zaa hx
   have HPR := zaa hpre
   have HAD := zaa hadd
   have HGX := zaa (show GoodR x by rw [hx]; exact HG.out _ (zas hlt))
   clear hp hpre hadd hx hi
   go_enter Tryz.func111, Tryz.ntmps111
   go_wp2_with fail
   refine HBS.out.mono ?_
   rintro e w1 ⟨rfl, hb1⟩
   obtain ⟨hA, hN, hM, hSZ⟩ := pastAlloc hb1
   have b0 := hN 0
   have b1 := hN 1
   have b2 := hN 2
   have b3 := hN 3
   have b4 := hN 4
   simp only [zao, zap, zam] at b0 b1 b2 b3 b4
   have HO1 := zaa (HO.out.keep hA)
   have HH1 := zaa (SlR.keep (S' := fun k => k < w1.heap.size /\ (Value.slice A xs.length c).ownBlock ≠ some k) HH.out (fun k hk => hA.block k hk.1) (fun k hk => ⟨zan hk.1 hA.size, hk.2⟩))
   have HG1 := zaa (GrowTo.of_below hA (Value.slice A xs.length c))
   have hsl := HO1.out.sl (by decide)
   have HBW := zaa hSZ
   clear hb1 hN hM hSZ hA HBS
   obtain ⟨g, hgA, hown, hgw, hfz⟩ : ∃ g, A = some ⟨g, 0, none⟩ /\ base <= g /\ g < w1.heap.size /\ (∀ j, w1.frozen? ⟨g, j, none⟩ = false) := by
    obtain ⟨css, c1, _, c3, _⟩ := HO1.out
    rcases c3.2 with ⟨_, h0⟩ | ⟨g, cap, cur, e, hbg, hgc, _⟩
    · omega
    · injection e with e1 _ _
      subst e1
      exact ⟨g, rfl, hbg, (c3.lt g rfl).2, fun j => c3.frozenAt j⟩
   subst hgA
   obtain ⟨vx, f1, f2, f3, f4, f5, hs5, _⟩ := hsl.route hlt
   rw [<- HX.out] at f1 f2 f3 f4 hs5
   have HS5 := zaa hs5
   have hii : (i : Int) < (xs.length : Int) := by omega
   have hi0 : (0 : Int) <= (i : Int) := zaf i
   simp only [zaM] at f1 f2 f3 f4 f5
   clear hsl hs5
   rcases hrh : r.here with _ | _
   · rw [hrh] at b2
     have HRH := zaa hrh
     rcases hxh : x.here with _ | _
     · rw [hxh] at f3
       by_cases hc1 : r.cost < x.cost
       · have HU := zaa (show updR x r = r by unfold updR; rw [hrh, hxh, if_pos (by simp [hc1])])
         clear hrh hxh
         go_wp2_with fail
         go_quiet (fail)
         obtain ⟨q1, rfl⟩ : ∃ m, m = nq := ⟨nq, rfl⟩
         have HRT := zaa (OwR.setRoute (w := w1.drewN q1) (y := r) (vy := .slice Av nv cv) (HO1.out.keep (bDrewN (zad w1.heap.size w1) q1)) hlt (SlR.keep HH1.out (fun _ _ => rfl) (fun k hk => ⟨hk.1, fun e => hk.2 (by rw [e]; rfl)⟩)) HR.out.wf)
         rw [HRH.out] at HRT
         go_wp2_with fail
         go_ret
         exact ⟨_, rfl, by rw [HAD.out, HU.out]; exact HRT.out, (HG1.out.trans (GrowTo.of_below (bDrewN (zad w1.heap.size w1) q1) _)).trans (grow5 _ rfl _ _ _ _ _ _ _ _ _ _)⟩
       · by_cases hc2 : r.cost = x.cost
         · have HU := zaa (show updR x r = { x with hops := joinS x.hops r.hops } by unfold updR; rw [hrh, hxh, if_neg (by simp [hc1]), if_pos (by simp [hc2])])
           clear hrh hxh
           have hlb := HR.out.len
           have hlx := HGX.out.len
           have HJ := zaa (fun w' (hb : Below w1.heap.size w1 w') => joined_any vx (.slice Av nv cv) x.hops r.hops w' (HS5.out.below hb) (SlR.keep (S' := fun k => k < w'.heap.size) HH1.out (fun k hk => hb.block k hk.1) (fun k hk => zan hk.1 hb.size)) (canon_in HGX.out.canon) (canon_in HR.out.canon) (by omega) (by omega))
           clear hlb hlx
           go_wp2_with fail
           go_quiet (fail)
           obtain ⟨q1, rfl⟩ : ∃ m, m = nq := ⟨nq, rfl⟩
           go_wp2_with fail
           go_quiet (fail)
           obtain ⟨q2, rfl⟩ : ∃ m, m = nq := ⟨nq, rfl⟩
           have hbq := bDrewN (bDrewN (zad w1.heap.size w1) q1) q2
           have f5' := cell_keep hbq f5
           have b4' := cell_keep hbq b4
           have HBQ := zaa hbq
           have HFZ := zaa hfz
           have hgz : g < ((w1.drewN q1).drewN q2).heap.size := hgw
           generalize (w1.drewN q1).drewN q2 = W2 at HBQ f5' b4' hgz ⊢
           have HGZ := zaa hgz
           have HGW := zaa hgw
           clear hbq f1 f2 f3 f4 f5 b0 b1 b2 b3 b4 hfz hgz hgw
           go_wp2_with fail
           go_region_with (go_at_call 153; refine (HJ.out _ HBQ.out.drew).mono ?_; rintro e w4 ⟨v4, rfl, ho4, hb4⟩; obtain ⟨A4, n4, c4, rfl⟩ := ow_form ho4 (by decide); have HB4 := zaa (HBQ.out.drew.trans (hb4.mono HBQ.out.size)); have z1 := (bAt HB4.out HGW.out (i * 5 + 4)).trans (by first | exact f5 | exact (bAt HBQ.out HGW.out (i * 5 + 4)).symm.trans f5'); have z2 := (bFz HB4.out HGW.out (i * 5 + 4)).trans (HFZ.out _); have HO4 := zaa ho4; have HZ4 := zaa (show W2.heap.size <= W2.drew.heap.size from zab _); clear hb4 ho4)
           all_goals
            have hsh := SlR.keep (S' := fun k => k < w4.heap.size /\ k ≠ g) HO4.out.slF (fun _ _ => rfl) (fun k hk => ⟨hk.1, by have h1 := hk.2; have h2 := HZ4.out; have h3 := HGZ.out; omega⟩)
            have HRT := zaa ((HO1.out.keep HB4.out).setHops hlt hsh)
            rw [<- HX.out] at HRT
            clear hsh
            go_wp2_with fail
            go_ret
            exact ⟨_, rfl, by rw [HAD.out, HU.out]; exact HRT.out, (HG1.out.trans (GrowTo.of_below HB4.out _)).trans (GrowTo.set _ rfl _ _)⟩
         · have hcb : (r.cost == x.cost) = false := by rw [beq_eq_false_iff_ne]; exact hc2
           have HU := zaa (show updR x r = x by unfold updR; rw [hrh, hxh, if_neg (by simp; omega), if_neg (by simp [hc2])])
           clear hrh hxh
           have HFX := zaa (show xs.set i (updR x r) = xs by rw [HU.out, HX.out]; exact List.set_getElem_self hlt)
           go_wp2_with fail
           go_quiet (fail)
           obtain ⟨q1, rfl⟩ : ∃ m, m = nq := ⟨nq, rfl⟩
           go_wp2_with fail
           go_quiet (fail)
           obtain ⟨q2, rfl⟩ : ∃ m, m = nq := ⟨nq, rfl⟩
           go_wp2_with fail
           go_ret
           exact ⟨_, rfl, by rw [HAD.out, HFX.out]; exact HO1.out.keep (bDrewN (bDrewN (zad w1.heap.size w1) q1) q2), HG1.out.trans (GrowTo.of_below (bDrewN (bDrewN (zad w1.heap.size w1) q1) q2) _)⟩
     · rw [hxh] at f3
       have HU := zaa (show updR x r = x by unfold updR; rw [hrh, hxh, if_neg (by simp), if_neg (by simp)])
       clear hrh hxh
       have HFX := zaa (show xs.set i (updR x r) = xs by rw [HU.out, HX.out]; exact List.set_getElem_self hlt)
       go_wp2_with fail
       go_quiet (fail)
       obtain ⟨q1, rfl⟩ : ∃ m, m = nq := ⟨nq, rfl⟩
       go_wp2_with fail
       go_quiet (fail)
       obtain ⟨q2, rfl⟩ : ∃ m, m = nq := ⟨nq, rfl⟩
       go_wp2_with fail
       go_ret
       exact ⟨_, rfl, by rw [HAD.out, HFX.out]; exact HO1.out.keep (bDrewN (bDrewN (zad w1.heap.size w1) q1) q2), HG1.out.trans (GrowTo.of_below (bDrewN (bDrewN (zad w1.heap.size w1) q1) q2) _)⟩
   · rw [hrh] at b2
     have HRH := zaa hrh
     have HU := zaa (show updR x r = r by unfold updR; rw [hrh]; simp)
     clear hrh
     go_wp2_with fail
     go_quiet (fail)
     obtain ⟨q1, rfl⟩ : ∃ m, m = nq := ⟨nq, rfl⟩
     have HRT := zaa (OwR.setRoute (w := w1.drewN q1) (y := r) (vy := .slice Av nv cv) (HO1.out.keep (bDrewN (zad w1.heap.size w1) q1)) hlt (SlR.keep HH1.out (fun _ _ => rfl) (fun k hk => ⟨hk.1, fun e => hk.2 (by rw [e]; rfl)⟩)) HR.out.wf)
     rw [HRH.out] at HRT
     go_wp2_with fail
     go_ret
     exact ⟨_, rfl, by rw [HAD.out, HU.out]; exact HRT.out, (HG1.out.trans (GrowTo.of_below (bDrewN (zad w1.heap.size w1) q1) _)).trans (grow5 _ rfl _ _ _ _ _ _ _ _ _ _)⟩
end Go.Proofs.YtojojpjldkpmoaaGreatDoor
