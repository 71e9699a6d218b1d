/-
  ReadAdj again: the sides lie in an own row.
-/
import Derived.Test.YtcbkimbeljhbhaaGreatDoorGDoF
import Derived.Test.YtcbkimbeljhbhaaGreatDoorGStQ
set_option linter.unusedVariables false
set_option linter.unusedSimpArgs false
namespace Go.Proofs.YtcbkimbeljhbhaaGreatDoor
open Go Go.RowKit Go.Deep

def RAdjO (s : List UInt8) (w : World) (e : Ending) (w' : World) : Prop := ∃ v, e = .returned (.tuple #[.agg #[.bool (readAdj s).1, v], .int .i64 (readAdj s).2.2]) ∧ OwR sideR 57 w.heap.size w' v (readAdj s).2.1 ∧ Below w.heap.size w w'
theorem rao_fin {s : List UInt8} {w w' : World} {v : Value} {d : Bool} {l : List Side} {n : Int} (h : readAdj s = (d, l, n)) (hs : OwR sideR 57 w.heap.size w' v l) (hb : Below w.heap.size w w') : RAdjO s w (.returned (.tuple #[.agg #[.bool d, v], .int .i64 n])) w' := ⟨v, by rw [h], by rw [h]; exact hs, hb⟩


set_option maxRecDepth 50000 in
set_option maxHeartbeats 2000000 in
theorem readAdj_ow (s : ByteArray) (w : World) (hl : s.size < 4294967281) (hE : Env w) :
    Calls Tryz.prog 17 #[.string s] w fun e w' => RAdjO s.data.toList w e w' := by
  have HE := Go.Lib.hid hE
  have hpl := partsC_len (Lib.trimPrefix s.data.toList [33])
  have htl := trim_len s.data.toList
  rw [size_toList] at htl
  have hts : (bOf (Lib.trimPrefix s.data.toList [33])).size < 4294967281 := by rw [bOf_size]; omega
  obtain ⟨hbr0, hbx0, hbw0, hno0⟩ := two_boxesA w false (Lib.hasPrefix s.data.toList [33]) (.slice none 0 0) (by intro x e; cases e) 53
  have hpc := parts_any (bOf (Lib.trimPrefix s.data.toList [33])) _ hts (hE.below hbw0)
  rw [bOf_list] at hpc
  have HPC := Go.Lib.hid hpc
  have HBR0 := Go.Lib.hid hbr0
  have HBX0 := Go.Lib.hid hbx0
  have HBW0 := Go.Lib.hid hbw0
  have HNO0 := Go.Lib.hid hno0
  clear hE hpc hbr0 hbx0 hbw0 hno0
  obtain ⟨PS, hPS⟩ : ∃ PS, PS = partsC (Lib.trimPrefix s.data.toList [33]) := ⟨_, rfl⟩
  have HPS := Go.Lib.hid hPS
  have hpl' : PS.length ≤ s.size + 1 ∧ ∀ x ∈ PS, x.length ≤ s.size := by rw [hPS]; exact ⟨by omega, fun x hx => by have := hpl.2 x hx; omega⟩
  have HPL := Go.Lib.hid hpl'
  have hpn := hpl'.1
  clear hPS hpl hpl'
  go_enter Tryz.func17, Tryz.ntmps17
  go_wp2_with (first
    | (go_at_call 43; refine (Tryz.strings_CutPrefix s _ _).mono ?_; rintro e w' ⟨rfl, rfl⟩)
    | (go_at_call 44; refine HPC.out.mono ?_; rintro e w1 ⟨⟨v, rfl, hv⟩, hb1⟩; rw [← HPS.out] at hv; have HB1 := Go.Lib.hid (HBW0.out.trans (hb1.mono HBW0.out.size)); have HBR := Go.Lib.hid (HBR0.out.below hb1); have HBX := Go.Lib.hid (HBX0.out.below hb1); obtain ⟨A, c, rfl⟩ := hv.form; have HV := Go.Lib.hid (sl_off hv (fun i x => by rw [hb1.cell (p := ⟨w.heap.size + 1, i, none⟩) HBX0.out.lt]; exact HNO0.out i x)); clear hv hb1))
  go_loopw [21] (fun i wr => ∃ (k : Nat) (acc : List (Int × Int)) (o : Value), k ≤ PS.length ∧ i = .int .i64 k ∧ Box wr (w.heap.size + 1) (Lib.hasPrefix s.data.toList [33]) o ∧ Box wr w.heap.size false (.slice none 0 0) ∧ OwR sideR 57 w1.heap.size wr o (acc.map sideOf2) ∧ Below w.heap.size w wr ∧ w1.grownBy wr (some (w.heap.size + 1)) ∧ pairsD 61 (PS.take k) = some acc) (fun i _ => PS.length - (intOf i).toNat)
  case atStart => exact ⟨0, [], _, Nat.zero_le _, rfl, HBX.out, HBR.out, OwR.nil _ _ (Nat.le_refl _), HB1.out, World.grownBy.refl _ _, rfl⟩
  case round =>
    obtain ⟨k, acc, o, hk, rfl, hbx, hbr, ho, hB, hG, hp⟩ := hrel
    have HX := Go.Lib.hid hbx
    have HRX := Go.Lib.hid hbr
    have HO := Go.Lib.hid ho
    have HB := Go.Lib.hid hB
    have HG := Go.Lib.hid hG
    have HP := Go.Lib.hid hp
    have hal := pairsD_len 61 hp
    rw [List.length_take] at hal
    clear ho hB hp hG
    by_cases hlt : k < PS.length
    · have hltm : k < (PS.map bOf).length := by rw [List.length_map]; exact hlt
      have hvr : Sl strR wr (.slice A (PS.map bOf).length c) (PS.map bOf) := SlR.keep HV.out (fun q hq => HG.out.block q hq.1 (fun e => by injection e with e; exact hq.2 e)) (fun q hq => Nat.lt_of_lt_of_le hq.1 HG.out.size)
      obtain ⟨bk, off, rfl, hbk⟩ := hvr.at_ hltm
      have hcell := hvr.strA hltm
      rw [List.getElem_map] at hcell
      have hsz := HPL.out.2 PS[k] (List.getElem_mem hlt)
      have hsm : (bOf PS[k]).size < 4294967281 := by rw [bOf_size]; omega
      have htwo := fun w hE => two_pair (bOf PS[k]) 61 w hsm hE
      rw [bOf_list] at htwo
      have HT := Go.Lib.hid htwo
      have HK := Go.Lib.hid (List.getElem?_eq_getElem hlt)
      have HN := Go.Lib.hid (show (acc.map sideOf2).length + 1 ≤ 1000000000000 by rw [List.length_map]; omega)
      have hlti : (k : Int) < (PS.length : Int) := by omega
      obtain ⟨x0, x1, x2, x3⟩ := hbx
      obtain ⟨r0, r1, r2, r3⟩ := hbr
      clear htwo hsz hsm hal hvr x2 r2
      go_wp2_with (first
        | (at_builtin; refine wpList_gen (base := w1.heap.size) elt_sideA rfl (.tmp 35) (.tmp 39) rfl ((HO.out.keep HB3.out).keep ((Below.refl _ _).alloc (Nat.le_refl _) _)) (one_flat (r := sideR) (cs := [.int .i64 x, .int .i64 y]) (x := sideOf2 (x, y)) rfl ⟨rfl, hx, hy⟩) (fun _ _ h => h) rfl rfl HN.out (by decide) ?_; intro v2 w4 ho2 hg2; obtain ⟨A9, n9, c9, rfl⟩ := ow_form ho2 (by decide); have HB4 := Go.Lib.hid (after_app HX3.out HRX3.out HO3.out hg2 HBX.out.lt HBR.out.lt); obtain ⟨⟨y0, y1, y2, y3⟩, ⟨z0, z1, z2, z3⟩, _⟩ := HB4.out; have y4 := y2 1; clear y2 z2)
        | (go_at_call 45; refine (HT.out _ (HE.out.below HB.out)).mono ?_; rintro e w3 ⟨⟨x, y, ok, rfl, hpd, hx, hy⟩, hb3⟩; have HPD := Go.Lib.hid hpd; have HB3 := Go.Lib.hid hb3; have HX3 := Go.Lib.hid (HX.out.below hb3); have HRX3 := Go.Lib.hid (HRX.out.below hb3); have HO3 := Go.Lib.hid (HO.out.keep hb3); obtain ⟨y0, y1, y2, y3⟩ := HX3.out; obtain ⟨z0, z1, z2, z3⟩ := HRX3.out; have z4 := z2 0; have z5 := z2 1; clear hpd hb3 y2 z2))
      · have hok : ok = false := by have h := ‹(!ok) = true›; simpa using h
        have hpd := HPD.out
        rw [hok] at hpd
        have hnone := pairsD_fail 61 HK.out hpd
        rw [HPS.out] at hnone
        have hbz := HB.out.trans (HB3.out.mono HB.out.size)
        refine bodyPost_ret (v := .tuple #[.agg #[.bool false, .slice none 0 0], .int .i64 4]) (by simp [results, Tryz.results17, go_sem, z0, z1]) rfl ?_
        exact rao_fin (ra_none hnone) (OwR.nil _ _ (Nat.le_trans hbz.size (by simp [World.setCell]))) ((hbz.setCell (p := ⟨w.heap.size, 0, none⟩) (Nat.le_refl _) _).setCell (p := ⟨w.heap.size, 1, none⟩) (Nat.le_refl _) _)
      · have hok : ok = true := by have h := ‹(!ok) = false›; simpa using h
        have hpd := HPD.out
        rw [hok] at hpd
        have hz3 := HB3.out.size
        have hz4 := HB4.out.2.2
        have hz1 := HG.out.size
        have b1 : Below w1.heap.size wr (w3.alloc (.cells #[.int .i64 x, .int .i64 y] 57)) := (HB3.out.mono hz1).alloc (by omega) _
        have b2 : Below w1.heap.size wr w4 := (ow_alloc HO3.out _).below_grown b1 hg2.grown
        have b3 : Below w.heap.size wr w4 := b2.mono (by have := HBX.out.lt; omega)
        go_roundw
        case rel =>
          refine ⟨k + 1, acc ++ [(x, y)], .slice A9 n9 c9, by omega, by go_num, HB4.out.1.set1 _, HB4.out.2.1.keep ?_, by rw [List.map_append]; exact ow_set ho2 HBX.out.lt _ (fun _ _ h => h), (HB.out.trans (b3.mono (Nat.le_refl _))).setCell (p := ⟨w.heap.size + 1, 1, none⟩) (by show w.heap.size ≤ w.heap.size + 1; omega) _, ?_, pairs_take HP.out HK.out hpd⟩
          · exact Below.heap_setCell _ _ _ _ (by simp)
          · exact ⟨b2.os.trans HG.out.os, b2.tape.trans HG.out.tape, b2.output.trans HG.out.output, by simp [World.setCell]; omega, fun q hq hne => by
              rw [Below.heap_setCell _ _ _ _ (fun e => hne (by have e' : q = w.heap.size + 1 := (by first | exact e | exact e.symm); rw [e'])), b2.block q hq]; exact HG.out.block q hq hne⟩
        case measure => simp [intOf]; omega
    · have hke : k = PS.length := by omega
      subst hke
      rw [List.take_length] at HP
      rw [HPS.out] at HP
      have hnlt : ¬ (PS.length : Int) < (PS.length : Int) := by omega
      have hbad := fun h => ra_bad (s := s.data.toList) HP.out h
      have hgood := fun h => ra_good (s := s.data.toList) HP.out h
      generalize acc.map sideOf2 = L at HO hbad hgood
      have HCK := Go.Lib.hid (fun w v h => checkAdj_any (Lib.hasPrefix s.data.toList [33]) v L w h)
      have HBAD := Go.Lib.hid hbad
      have HGOOD := Go.Lib.hid hgood
      have hsl := HO.out.sl (by decide)
      obtain ⟨A2, c2, rfl⟩ := hsl.form
      have HSL := Go.Lib.hid hsl
      obtain ⟨x0, x1, x2, x3⟩ := hbx
      clear hsl hal hk hlt hbad hgood hbr x2
      by_cases hc : chkSides L = 0
      · have HR := Go.Lib.hid (HGOOD.out hc)
        rw [hc] at HCK
        clear hc
        go_wp2_with (go_at_call 46; refine (HCK.out _ _ HSL.out).mono ?_; rintro e w3 ⟨rfl, hb3⟩; have HB3 := Go.Lib.hid hb3; obtain ⟨y0, y1, y2, y3⟩ := HX.out.below hb3; obtain ⟨z0, z1, z2, z3⟩ := HRX.out.below hb3; have z4 := z2 0; have z5 := z2 1; clear hb3 y2 z2)
        have hbz := HB.out.trans (HB3.out.mono HB.out.size)
        refine bodyPost_ret (v := .tuple #[.agg #[.bool (Lib.hasPrefix s.data.toList [33]), .slice A2 L.length c2], .int .i64 0]) (by simp [results, Tryz.results17, go_sem, z0, z1]) rfl ?_
        refine rao_fin HR.out ?_ ((hbz.setCell (p := ⟨w.heap.size, 0, none⟩) (Nat.le_refl _) _).setCell (p := ⟨w.heap.size, 1, none⟩) (Nat.le_refl _) _)
        have hob := HO.out.keep HB3.out
        exact (ow_set (ow_set hob HBR.out.lt _ (fun _ _ h => h)) HBR.out.lt _ (fun _ _ h => h)).lower (by have := HBX.out.lt; omega)
      · have HR := Go.Lib.hid (HBAD.out hc)
        have hcb : (chkSides L == 0) = false := by rw [beq_eq_false_iff_ne]; exact hc
        clear hc
        go_wp2_with (go_at_call 46; refine (HCK.out _ _ HSL.out).mono ?_; rintro e w3 ⟨rfl, hb3⟩; have HB3 := Go.Lib.hid hb3; obtain ⟨y0, y1, y2, y3⟩ := HX.out.below hb3; obtain ⟨z0, z1, z2, z3⟩ := HRX.out.below hb3; have z4 := z2 0; have z5 := z2 1; clear hb3 y2 z2)
        have hbz := HB.out.trans (HB3.out.mono HB.out.size)
        refine bodyPost_ret (v := .tuple #[.agg #[.bool false, .slice none 0 0], .int .i64 (chkSides L)]) (by simp [results, Tryz.results17, go_sem, z0, z1]) rfl ?_
        exact rao_fin HR.out (OwR.nil _ _ (Nat.le_trans hbz.size (by simp [World.setCell]))) ((hbz.setCell (p := ⟨w.heap.size, 0, none⟩) (Nat.le_refl _) _).setCell (p := ⟨w.heap.size, 1, none⟩) (Nat.le_refl _) _)

end Go.Proofs.YtcbkimbeljhbhaaGreatDoor
