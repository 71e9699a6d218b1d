/-
  
-/
import Derived.Test.YtojojpjldkpmoaaGreatDoorGRibQ
import Derived.Test.YtojojpjldkpmoaaGreatDoorGIns2
set_option linter.unusedVariables false
set_option linter.unusedSimpArgs false
set_option maxHeartbeats 16000000
namespace Go.Proofs.YtojojpjldkpmoaaGreatDoor
section
open Go.RowKit Go.Deep
end
section
open Go.RowKit Go.Deep
theorem OwR.slC {E base : Nat} {w : World} {v : Value} {xs : List Int} (h : OwR intR E base w v xs) : SlR intR w (fun k => k < w.heap.size /\ base <= k) v xs := by
 obtain ⟨A, c, rfl, h1, h2, h3⟩ := h.sl (by decide)
 refine ⟨A, c, rfl, h1, h2, fun i x hx => ?_⟩
 obtain ⟨b, off, cs, rfl, hS, hb, hh, hc⟩ := h3 i x hx
 exact ⟨b, off, cs, rfl, ⟨hb, (h.base_le b rfl).1⟩, hb, hh, hc⟩
def DiffPost (r : List Route × List Prefix × Int) (w : World) (e : Ending) (w' : World) : Prop :=
 ∃ v' u', e = .returned (.tuple #[v', u', .int .i64 r.2.2]) /\ Sl routeR w' v' r.1 /\ Sl prefR w' u' r.2.1 /\ Below w.heap.size w w'
theorem d_fin {r : List Route × List Prefix × Int} {w w' : World} {v' u' : Value} {ys : List Route} {ks : List Prefix} {n : Int} (h : r = (ys, ks, n)) (h1 : Sl routeR w' v' ys) (h2 : Sl prefR w' u' ks) (hb : Below w.heap.size w w') :
 DiffPost r w (.returned (.tuple #[v', u', .int .i64 n])) w' := ⟨v', u', by rw [h], by rw [h]; exact h1, by rw [h]; exact h2, hb⟩
theorem elt_route : Elt Tryz.prog 47 130 5 56 := ⟨Tryz.underlying47, by
 have h : (Tryz.prog.info? 130).map (fun i => (i.zero, i.size, i.bytes)) = some (some (.agg #[.int .i64 0, .int .i64 0, .bool false, .int .i64 0, .slice none 0 0]), 5, 56) := by kernel_rfl
 obtain ⟨i, h1, h2, h3, h4⟩ := info_parts h
 exact ⟨i, _, h1, h2, h3, h4, rfl⟩, by decide⟩
theorem elt_pref : Elt Tryz.prog 46 32 2 16 := ⟨Tryz.underlying46, by
 have h : (Tryz.prog.info? 32).map (fun i => (i.zero, i.size, i.bytes)) = some (some (.agg #[.int .i64 0, .int .i64 0]), 2, 16) := by kernel_rfl
 obtain ⟨i, h1, h2, h3, h4⟩ := info_parts h
 exact ⟨i, _, h1, h2, h3, h4, rfl⟩, by decide⟩
theorem wpList_route {ops : Array Oper} {rest : List Oper} {o : Oper} {a : Act} {Q : Exit -> Act -> World -> Prop} {w : World} {base : Nat} (hgd : o.guard = none) (s x : Operand)
  (ho : o.op = .call { callee := .builtin .append, args := #[s, x], argTypes := #[47, 47] }) {v vh : Value} {xs : List Route} {r : Route} {S : Nat -> Prop}
  (hown : OwR routeR 130 base w v xs) (hh : SlR intR w S vh r.hops) (hw : r.wf) (hS : ∀ k, S k -> k < w.heap.size /\ v.ownBlock ≠ some k) (hs : a.eval s = v)
  {B : Nat} (hx : a.eval x = .slice (some ⟨B, 0, none⟩) 1 1) (hB : B = w.heap.size) (hb : xs.length <= 1000000)
  (h : ∀ v' w', OwR routeR 130 base w' v' (xs ++ [r]) -> GrowTo (w.alloc (.cells #[.int .i64 r.pre.addr, .int .i64 r.pre.bits, .bool r.here, .int .i64 r.cost, vh] 130)) v w' v' -> wpList Tryz.prog ops Q rest (a.put o.dst v') w') :
  wpList Tryz.prog ops Q (o :: rest) a (w.alloc (.cells #[.int .i64 r.pre.addr, .int .i64 r.pre.bits, .bool r.here, .int .i64 r.cost, vh] 130)) :=
 wpList_plain hgd fun _ hK => by
  subst hB
  have hone : SlR routeR (w.alloc (.cells #[.int .i64 r.pre.addr, .int .i64 r.pre.bits, .bool r.here, .int .i64 r.cost, vh] 130)) (fun k => S k ∨ k = w.heap.size) (.slice (some ⟨w.heap.size, 0, none⟩) 1 1) [r] := by
   refine ⟨some ⟨w.heap.size, 0, none⟩, 1, rfl, by simp, by decide, fun i y hy => ?_⟩
   match i, hy with
   | 0, hy =>
     simp at hy; subst hy
     refine ⟨w.heap.size, 0, r.cells vh, rfl, .inr rfl, by simp, ⟨vh, rfl, SlR.keep hh (fun k hk => zbj _ _ _ (hS k hk).1) (fun k hk => .inl hk), hw⟩, fun j u hu => ?_⟩
     rw [zae _ _ _ _ rfl]
     simpa [Route.cells] using hu
   | i + 1, hy => simp at hy
  obtain ⟨v', w', hrun, r2, r3, r4⟩ := run_own_append (ty := o.type) elt_route (hown.alloc1 _) hone (fun cs y hy => routeR.keep hy (fun _ _ => rfl) (fun k hk => by
   rcases hk with hk | hk
   · have := hS k hk; exact ⟨by simp; omega, this.2⟩
   · subst hk; exact ⟨by simp, fun e => by have := (hown.base_le _ e).2; omega⟩)) (by unfold maxLen; simp; omega) (by simp; omega)
  unfold Oper.wp execOp
  simp only [ho, resolve, invoke, builtin, zbA, zbz, Result.andThen_ok, zbk, zaH, zbv, hs, hx, hrun]
  exact hK _ _ (h v' w' r2 (GrowTo.of_at r3 r4))
theorem wpList_pref {ops : Array Oper} {rest : List Oper} {o : Oper} {a : Act} {Q : Exit -> Act -> World -> Prop} {w : World} {base : Nat} (hgd : o.guard = none) (s x : Operand)
  (ho : o.op = .call { callee := .builtin .append, args := #[s, x], argTypes := #[46, 46] }) {v : Value} {xs : List Prefix} {r : Prefix}
  (hown : OwR prefR 32 base w v xs) (hw : inR r.addr /\ inR r.bits) (hs : a.eval s = v) {B : Nat} (hx : a.eval x = .slice (some ⟨B, 0, none⟩) 1 1) (hB : B = w.heap.size) (hb : xs.length <= 1000000)
  (h : ∀ v' w', OwR prefR 32 base w' v' (xs ++ [r]) -> GrowTo (w.alloc (.cells #[.int .i64 r.addr, .int .i64 r.bits] 32)) v w' v' -> wpList Tryz.prog ops Q rest (a.put o.dst v') w') :
  wpList Tryz.prog ops Q (o :: rest) a (w.alloc (.cells #[.int .i64 r.addr, .int .i64 r.bits] 32)) :=
 wpList_plain hgd fun _ hK => by
  subst hB
  have hone := SlR.one_new (r := prefR) (w := w) (cs := [.int .i64 r.addr, .int .i64 r.bits]) (x := r) (E := 32) ⟨rfl, hw⟩
  obtain ⟨v', w', hrun, r2, r3, r4⟩ := run_own_append (ty := o.type) elt_pref (hown.alloc1 _) hone (fun _ _ h => h) (by unfold maxLen; simp; omega) (by simp; omega)
  unfold Oper.wp execOp
  simp only [ho, resolve, invoke, builtin, zbA, zbz, Result.andThen_ok, zbk, zaH, zbv, hs, hx, hrun]
  exact hK _ _ (h v' w' r2 (GrowTo.of_at r3 r4))
set_option maxRecDepth 100000 in
theorem diff_any (v1 v2 : Value) (xs ys : List Route) (w : World) (h1 : Sl routeR w v1 xs) (h2 : Sl routeR w v2 ys) : Calls Tryz.prog 68 #[v1, v2] w (DiffPost (diffS xs ys) w) := by
 have hlen := h2.len_le
 have hlen1 := h1.len_le
 obtain ⟨A1, c1, rfl⟩ := h1.form
 obtain ⟨A2, c2, rfl⟩ := h2.form
 have H1 := zaa h1
 have H2 := zaa h2
 clear h1 h2
 go_enter Tryz.func68, Tryz.ntmps68
 go_wp2_with fail
 refine (ribCheck_any _ xs _ H1.out).mono ?_
 rintro r w1 ⟨rfl, hb1⟩
 have HB1 := zaa hb1
 have hz1 := hb1.size
 clear hb1
 by_cases hc : chkRoutes xs = 0
 · have t1 : (chkRoutes xs != 0) = false := by simp [hc]
   have HC := zaa hc
   clear hc
   go_wp2_with fail
   refine (ribCheck_any _ ys _ (H2.out.below HB1.out)).mono ?_
   rintro r w2 ⟨rfl, hb2⟩
   have HB2 := zaa (HB1.out.trans (hb2.mono hz1))
   have hz2 := HB2.out.size
   clear hb2
   by_cases hc2 : chkRoutes ys = 0
   · have t2 : (chkRoutes ys != 0) = false := by simp [hc2]
     have HOKA := zaa (routes_ok HC.out)
     have HOKB := zaa (routes_ok hc2)
     have hl2 := HOKB.out.1
     have hl1 := HOKA.out.1
     have HF := zaa (diff_ok HC.out hc2)
     clear hc2
     go_wp2_with fail
     go_loopw [9, 11, 27] (fun s9 _ s27 wr => ∃ k : Nat, k <= ys.length /\ s27 = .int .i64 k /\ OwR routeR 130 w.heap.size wr s9 ((ys.take k).filter fun r => !inTab xs r) /\ Below w.heap.size w wr) (fun _ _ s27 _ => ys.length - (intOf s27).toNat)
     case atStart => exact ⟨0, zak _, rfl, OwR.nil _ _ HB2.out.size, HB2.out⟩
     case round =>
      obtain ⟨k, hk, rfl, hown, hB⟩ := hrel
      have HO := zaa hown
      have HB := zaa hB
      have hez := hB.size
      by_cases hlt : k < ys.length
      · obtain ⟨b, off, rfl, hb⟩ := H2.out.at_ hlt
        obtain ⟨vh, f1, f2, f3, f4, f5, hs, hrw⟩ := (H2.out.below hB).route hlt
        have hset := set_to (a := xs) hlt
        have hhl := (routeBad_iff (HOKB.out.2 k hlt)).2
        obtain ⟨y, hy⟩ : ∃ y, ys[k] = y := ⟨_, rfl⟩
        rw [hy] at f1 f2 f3 f4 hs hrw hset hhl
        have HRW := zaa hrw
        have HSET := zaa hset
        have hba : Below wr.heap.size wr (wr.alloc (.cells #[.int .i64 y.pre.addr, .int .i64 y.pre.bits, .bool y.here, .int .i64 y.cost, vh] 130)) := (zad _ _).alloc (zab _) _
        have hbx : BoxAt (wr.alloc (.cells #[.int .i64 y.pre.addr, .int .i64 y.pre.bits, .bool y.here, .int .i64 y.cost, vh] 130)) wr.heap.size y vh := ⟨by simp, fun i => zae _ _ _ _ rfl⟩
        have hask : ask (fun x => sameR x y) 115 (.pointer (some ⟨wr.heap.size, 0, none⟩)) (wr.alloc (.cells #[.int .i64 y.pre.addr, .int .i64 y.pre.bits, .bool y.here, .int .i64 y.cost, vh] 130)) := fun x v w' hb' hs' =>
         diffC1_any x y v vh wr.heap.size w' hs' ((hs.below hba).below hb') (hbx.keep hb')
        have HCON := zaa (conR1_any _ _ _ xs _ ((H1.out.below hB).below hba) (by omega) hask)
        have HS := zaa (hs.below hba)
        obtain ⟨Ah, ch, hvh⟩ := hs.form
        subst hvh
        have HHL := zaa hhl
        have r0 : (0 : Int) <= (k : Int) := zaf _
        have r1 : (k : Int) < (ys.length : Int) := by omega
        clear hown hB hy hrw hset hba hbx hask hs hhl
        go_wp2_with fail
        refine HCON.out.mono ?_
        rintro e w3 ⟨rfl, hb3⟩
        obtain ⟨hA, hN, hM, hS⟩ := pastAlloc hb3
        have HB3 := zaa (HB.out.trans (hA.mono hez))
        have HO3 := zaa (HO.out.keep hA)
        have HS3 := zaa (HS.out.below hb3)
        clear hb3 hA f1 f2 f3 f4 f5
        rcases hin : xs.any (fun x => sameR x y) with _ | _
        · have HIN := zaa (show inTab xs y = false from hin)
          obtain ⟨hh, hhe⟩ : ∃ l, y.hops = l := ⟨_, rfl⟩
          have HCP := zaa (copied_any y _ w3 HS3.out (by have := HHL.out; omega))
          have HHE := zaa hhe
          rw [hhe] at HCP hN ⊢
          clear hin hhe
          go_wp2_with fail
          refine HCP.out.mono ?_
          rintro e w4 ⟨v4, rfl, ho4, hb4⟩
          have HO4 := zaa (HO3.out.keep hb4)
          have HB4 := zaa (HB3.out.trans (hb4.mono HB3.out.size))
          have HH4 := zaa ho4.slC
          have HKS := zaa (show ∀ k, (k < w4.heap.size /\ w3.heap.size <= k) -> k < w4.heap.size /\ u9.ownBlock ≠ some k from fun k hk => ⟨hk.1, fun e => by have := (HO3.out.base_le _ e).2; omega⟩)
          have HFL := zaa (show ((ys.take k).filter fun r => !inTab xs r).length <= 1000000 by have := filt_len (fun r => !inTab xs r) ys k; omega)
          clear ho4 hb4 hN hM
          go_wp2_with (at_builtin; refine wpList_route (w := w4) (base := w.heap.size) (r := y) rfl (.tmp 35) (.tmp 38) rfl HO4.out HH4.out HRW.out HKS.out rfl rfl (by first | rfl | simp) HFL.out ?_; intro v5 w5 ho5 hg5)
          go_roundw
          case rel =>
           refine ⟨k + 1, by omega, by go_num, ?_, (HB4.out.alloc HB4.out.size _).grown hg5.grown (by simp; have := HB4.out.size; omega) (fun q e => (HO4.out.base_le q e).1)⟩
           rw [HSET.out, if_neg (by rw [HIN.out]; simp)]
           exact ho5
          case measure => simp [intOf]; omega
        · have HIN := zaa (show inTab xs y = true from hin)
          clear hin
          go_wp2_with fail
          go_roundw
          case rel =>
           refine ⟨k + 1, by omega, by go_num, ?_, HB3.out⟩
           rw [HSET.out, if_pos HIN.out, zbq]
           exact HO3.out
          case measure => simp [intOf]; omega
      · obtain rfl : k = ys.length := by omega
        have hset : ((ys.take ys.length).filter fun r => !inTab xs r) = diffSet xs ys := by unfold diffSet; rw [zaP]
        rw [hset] at hown
        have HSL := zaa (hown.sl (by decide))
        clear hown hB hset HO
        go_wp2_with fail
        obtain ⟨wm, rfl⟩ : ∃ m, m = wr := ⟨wr, rfl⟩
        go_loopw [12, 14, 43] (fun s12 _ s43 wq => ∃ k : Nat, k <= xs.length /\ s43 = .int .i64 k /\ OwR prefR 32 wm.heap.size wq s12 (((xs.take k).filter fun r => !inPre ys r).map Route.pre) /\ Below wm.heap.size wm wq) (fun _ _ s43 _ => xs.length - (intOf s43).toNat)
        case atStart => exact ⟨0, zak _, rfl, OwR.nil _ _ (zab _), zad _ _⟩
        case round =>
         obtain ⟨k, hk, rfl, hown, hBq⟩ := hrel
         have hB := HB.out.trans (hBq.mono hez)
         have HO := zaa hown
         have HBQ := zaa hBq
         have hezq := hBq.size
         by_cases hlt : k < xs.length
         · obtain ⟨b, off, rfl, hb⟩ := H1.out.at_ hlt
           obtain ⟨vh, f1, f2, f3, f4, f5, hs, hrw⟩ := (H1.out.below hB).route hlt
           have hset := gone_to (b := ys) hlt
           obtain ⟨y, hy⟩ : ∃ y, xs[k] = y := ⟨_, rfl⟩
           rw [hy] at f1 f2 f3 f4 hs hrw hset
           have HRW := zaa hrw
           have HSET := zaa hset
           have hba : Below wr.heap.size wr (wr.alloc (.cells #[.int .i64 y.pre.addr, .int .i64 y.pre.bits, .bool y.here, .int .i64 y.cost, vh] 130)) := (zad _ _).alloc (zab _) _
           have hbx : BoxAt (wr.alloc (.cells #[.int .i64 y.pre.addr, .int .i64 y.pre.bits, .bool y.here, .int .i64 y.cost, vh] 130)) wr.heap.size y vh := ⟨by simp, fun i => zae _ _ _ _ rfl⟩
           have hask : ask (fun x => sameP x.pre y.pre) 118 (.pointer (some ⟨wr.heap.size, 0, none⟩)) (wr.alloc (.cells #[.int .i64 y.pre.addr, .int .i64 y.pre.bits, .bool y.here, .int .i64 y.cost, vh] 130)) := fun x v w' hb' hs' =>
            diffC2_any x y v vh wr.heap.size w' hs' (hbx.keep hb')
           have HCON := zaa (conR2_any _ _ _ ys _ ((H2.out.below hB).below hba) (by omega) hask)
           have r0 : (0 : Int) <= (k : Int) := zaf _
           have r1 : (k : Int) < (xs.length : Int) := by omega
           obtain ⟨Ah, ch, hvh⟩ := hs.form
           subst hvh
           clear hown hBq hB hy hrw hset hba hbx hask hs
           go_wp2_with fail
           refine HCON.out.mono ?_
           rintro e w3 ⟨rfl, hb3⟩
           obtain ⟨hA, hN, hM, hS⟩ := pastAlloc hb3
           have HB3 := zaa (HBQ.out.trans (hA.mono hezq))
           have HO3 := zaa (HO.out.keep hA)
           clear hb3 hA f1 f2 f3 f4 f5
           rcases hin : ys.any (fun x => sameP x.pre y.pre) with _ | _
           · have HIN := zaa (show inPre ys y = false from hin)
             have HFL := zaa (show (((xs.take k).filter fun r => !inPre ys r).map Route.pre).length <= 1000000 by rw [zaV]; have := filt_len (fun r => !inPre ys r) xs k; omega)
             clear hin
             go_wp2_with (at_builtin; refine wpList_pref (w := w3) (base := wm.heap.size) (r := y.pre) rfl (.tmp 51) (.tmp 54) rfl HO3.out ⟨HRW.out.1, HRW.out.2.1⟩ rfl rfl (by first | rfl | simp) HFL.out ?_; intro v5 w5 ho5 hg5)
             go_roundw
             case rel =>
              refine ⟨k + 1, by omega, by go_num, ?_, (HB3.out.alloc HB3.out.size _).grown hg5.grown (by simp; have := HB3.out.size; omega) (fun q e => (HO3.out.base_le q e).1)⟩
              rw [HSET.out, if_neg (by rw [HIN.out]; simp)]
              exact ho5
             case measure => simp [intOf]; omega
           · have HIN := zaa (show inPre ys y = true from hin)
             clear hin
             go_wp2_with fail
             go_roundw
             case rel =>
              refine ⟨k + 1, by omega, by go_num, ?_, HB3.out⟩
              rw [HSET.out, if_pos HIN.out, zbq]
              exact HO3.out
             case measure => simp [intOf]; omega
         · obtain rfl : k = xs.length := by omega
           have hset : (((xs.take xs.length).filter fun r => !inPre ys r).map Route.pre) = diffGone xs ys := by unfold diffGone; rw [zaP]
           rw [hset] at hown
           have HSG := zaa (hown.sl (by decide))
           clear hown hBq hset HO
           go_wp2_with fail
           go_ret3
           exact d_fin HF.out (HSL.out.below HBQ.out) HSG.out hB
   · have t2 : (chkRoutes ys != 0) = true := by simp [hc2]
     have HF := zaa (diff_bad2 HC.out hc2)
     clear hc2
     go_wp2_with fail
     go_ret3
     exact d_fin HF.out (Sl.nil _ _) (Sl.nil _ _) HB2.out
 · have t1 : (chkRoutes xs != 0) = true := by simp [hc]
   have HF := zaa (diff_bad1 (b := ys) hc)
   clear hc
   go_wp2_with fail
   go_ret3
   exact d_fin HF.out (Sl.nil _ _) (Sl.nil _ _) HB1.out
end
end Go.Proofs.YtojojpjldkpmoaaGreatDoor
