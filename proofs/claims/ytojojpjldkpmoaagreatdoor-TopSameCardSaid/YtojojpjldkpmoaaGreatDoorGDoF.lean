/-
  
-/
import Derived.Test.YtojojpjldkpmoaaGreatDoorGDoD
import Derived.Laws.StructEq
set_option linter.unusedVariables false
set_option linter.unusedSimpArgs false
set_option maxHeartbeats 16000000
namespace Go.Proofs.YtojojpjldkpmoaaGreatDoor
section
open Go Go.RowKit
end
section
open Go Go.RowKit
structure Box (w : World) (A : Nat) (d : Bool) (o : Value) : Prop where
 c0 : w.cell? ⟨A, 0, none⟩ = some (.bool d)
 c1 : w.cell? ⟨A, 1, none⟩ = some o
 fz : ∀ i, w.frozen? ⟨A, i, none⟩ = false
 lt : A < w.heap.size
theorem Box.keep {w w' : World} {A : Nat} {d : Bool} {o : Value} (h : Box w A d o) (hk : w'.heap[A]? = w.heap[A]?) : Box w' A d o :=
 ⟨(zav (w := w) hk).trans h.c0, (zav (w := w) hk).trans h.c1, fun i => (zaO (w := w) hk).trans (h.fz i), lt_of_same h.lt hk⟩
theorem Box.below {w w' : World} {A : Nat} {d : Bool} {o : Value} (h : Box w A d o) (hb : Below w.heap.size w w') : Box w' A d o := h.keep (hb.block A h.lt)
theorem grown_set2 (w : World) (p : Addr) (u : Value) : w.grownBy (w.setCell p u) (some p.block) :=
 ⟨rfl, rfl, rfl, by simp [World.setCell], fun k hk hne => zai _ _ _ _ (fun e => hne (by rw [e]))⟩
theorem Box.set1 {w : World} {A : Nat} {d : Bool} {o : Value} (h : Box w A d o) (v : Value) : Box (w.setCell ⟨A, 1, none⟩ v) A d v := by
 refine ⟨?_, ?_, fun i => ?_, by simp [World.setCell]; exact h.lt⟩
 · rw [zag _ _ _ _ (by simp)]; exact h.c0
 · exact zay w _ v (by rw [h.c1]; rfl)
 · rw [zau]; exact h.fz i
theorem ow_set {α : Type} {r : Rep α} {E base : Nat} {w : World} {v : Value} {xs : List α} (h : OwR r E base w v xs) {p : Addr} (hp : p.block < base) (u : Value)
  (hin : ∀ (cs : List Value) (y : α), r.holds w (fun k => k < w.heap.size /\ v.ownBlock ≠ some k) cs y -> r.holds w (fun k => (k < w.heap.size /\ v.ownBlock ≠ some k) /\ some k ≠ some p.block) cs y) : OwR r E base (w.setCell p u) v xs :=
 h.kept (grown_set2 w p u) (by
  rcases e : v.ownBlock with _ | k
  · exact .inl rfl
  · right; intro e2; injection e2 with e2; have := (h.base_le k e).1; omega) hin
theorem ow_form {α : Type} {r : Rep α} {E base : Nat} {w : World} {v : Value} {xs : List α} (h : OwR r E base w v xs) (hs : 0 < r.size) : ∃ A n c, v = .slice A n c := by
 obtain ⟨A, c, hv⟩ := (h.sl hs).form
 exact ⟨A, _, c, hv⟩
theorem sl_off {w : World} {v : Value} {xs : List ByteArray} {A : Nat} (h : Sl strR w v xs) (hA : ∀ i x, w.cell? ⟨A, i, none⟩ ≠ some (.string x)) : SlR strR w (fun k => k < w.heap.size /\ k ≠ A) v xs := by
 obtain ⟨a, c, hv, h1, h2, h3⟩ := h
 refine ⟨a, c, hv, h1, h2, fun i x hx => ?_⟩
 obtain ⟨b, off, cs, e1, e2, e3, e4, e5⟩ := h3 i x hx
 refine ⟨b, off, cs, e1, ⟨e2, fun e => ?_⟩, e3, e4, e5⟩
 obtain ⟨rfl, _⟩ := e4
 subst e
 exact hA _ _ (e5 0 _ rfl)
def RAdjF (s : List UInt8) (w : World) (e : Ending) (w' : World) : Prop := ∃ v, e = .returned (.tuple #[.agg #[.bool (readAdj s).1, v], .int .i64 (readAdj s).2.2]) /\ SlF sideR w.heap.size w' v (readAdj s).2.1 /\ Below w.heap.size w w'
theorem raf_fin {s : List UInt8} {w w' : World} {v : Value} {d : Bool} {l : List Side} {n : Int} (h : readAdj s = (d, l, n)) (hs : SlF sideR w.heap.size w' v l) (hb : Below w.heap.size w w') : RAdjF s w (.returned (.tuple #[.agg #[.bool d, v], .int .i64 n])) w' := ⟨v, by rw [h], by rw [h]; exact hs, hb⟩
theorem ra_none {s : List UInt8} (h : pairsD 61 (partsC (Lib.trimPrefix s [33])) = none) : readAdj s = (false, [], 4) := by unfold readAdj; rw [h]
theorem ra_bad {s : List UInt8} {l : List (Int × Int)} (h : pairsD 61 (partsC (Lib.trimPrefix s [33])) = some l) (hc : chkSides (l.map sideOf2) ≠ 0) : readAdj s = (false, [], chkSides (l.map sideOf2)) := by unfold readAdj; rw [h]; exact if_neg hc
theorem ra_good {s : List UInt8} {l : List (Int × Int)} (h : pairsD 61 (partsC (Lib.trimPrefix s [33])) = some l) (hc : chkSides (l.map sideOf2) = 0) : readAdj s = (Lib.hasPrefix s [33], l.map sideOf2, 0) := by unfold readAdj; rw [h]; exact if_pos hc
theorem after_app {w3 w4 : World} {A R base : Nat} {d e : Bool} {o p v2 : Value} {xs : List Side} {x y : Int} (hA : Box w3 A d o) (hR : Box w3 R e p) (ho : OwR sideR 99 base w3 o xs) (hg : GrowTo (w3.alloc (.cells #[.int .i64 x, .int .i64 y] 99)) o w4 v2)
  (h1 : A < base) (h2 : R < base) : Box w4 A d o /\ Box w4 R e p /\ w3.heap.size <= w4.heap.size := by
 have key : ∀ q, q < base -> q < w3.heap.size -> w4.heap[q]? = w3.heap[q]? := by
  intro q hq hq3
  rw [hg.grown.block q (by simp; omega) (fun e => by have := (ho.base_le q e.symm).1; omega)]
  exact zbj _ _ _ hq3
 refine ⟨hA.keep (key A h1 hA.lt), hR.keep (key R h2 hR.lt), ?_⟩
 have := hg.grown.size
 simp at this; omega
theorem two_boxesA (w : World) (a b : Bool) (q : Value) (hq : ∀ x, q ≠ .string x) (T : TypeId) : Box ((w.alloc (.cells #[.bool a, .slice none 0 0] T)).alloc (.cells #[.bool b, q] T)) w.heap.size a (.slice none 0 0) /\
  Box ((w.alloc (.cells #[.bool a, .slice none 0 0] T)).alloc (.cells #[.bool b, q] T)) (w.heap.size + 1) b q /\ Below w.heap.size w ((w.alloc (.cells #[.bool a, .slice none 0 0] T)).alloc (.cells #[.bool b, q] T)) /\
  ∀ i x, ((w.alloc (.cells #[.bool a, .slice none 0 0] T)).alloc (.cells #[.bool b, q] T)).cell? ⟨w.heap.size + 1, i, none⟩ ≠ some (.string x) := by
 have e : w.heap.size + 1 = (w.alloc (.cells #[.bool a, .slice none 0 0] T)).heap.size := by simp
 have h1 : Box (w.alloc (.cells #[.bool a, .slice none 0 0] T)) w.heap.size a (.slice none 0 0) := by
  refine ⟨?_, ?_, fun i => zaD _ _ _ _ rfl, by simp⟩
  · rw [zae _ _ _ _ rfl]; rfl
  · rw [zae _ _ _ _ rfl]; rfl
 refine ⟨h1.below ((zad _ _).alloc (zab _) _), ⟨?_, ?_, fun i => zaD _ _ _ _ (by simp), by simp⟩, ((zad _ _).alloc (zab _) _).alloc (by simp) _, fun i x => ?_⟩
 · rw [zae _ _ _ _ (by simp)]; rfl
 · rw [zae _ _ _ _ (by simp)]; rfl
 · rw [zae _ _ _ _ (by simp)]
   match i with
   | 0 => simp
   | 1 => simp; exact hq x
   | i + 2 => simp
theorem trim_len (s : List UInt8) : (Lib.trimPrefix s [33]).length <= s.length := by
 unfold Lib.trimPrefix
 split
 · simp
 · exact zab _
set_option maxRecDepth 50000 in
theorem readAdj_fr (s : ByteArray) (w : World) (hl : s.size < 4294967281) (hE : Env w) :
  Calls Tryz.prog 148 #[.string s] w fun e w' => RAdjF s.data.toList w e w' := by
 have HE := zaa hE
 have hpl := partsC_len (Lib.trimPrefix s.data.toList [33])
 have htl := trim_len s.data.toList
 rw [size_toList] at htl
 have hts : (bOf (Lib.trimPrefix s.data.toList [33])).size < 4294967281 := by rw [bOf_size]; omega
 obtain ⟨hbr0, hbx0, hbw0, hno0⟩ := two_boxesA w false (Lib.hasPrefix s.data.toList [33]) (.slice none 0 0) (by intro x e; cases e) 97
 have hpc := parts_any (bOf (Lib.trimPrefix s.data.toList [33])) _ hts (hE.below hbw0)
 rw [bOf_list] at hpc
 have HPC := zaa hpc
 have HBR0 := zaa hbr0
 have HBX0 := zaa hbx0
 have HBW0 := zaa hbw0
 have HNO0 := zaa hno0
 clear hE hpc hbr0 hbx0 hbw0 hno0
 obtain ⟨PS, hPS⟩ : ∃ PS, PS = partsC (Lib.trimPrefix s.data.toList [33]) := ⟨_, rfl⟩
 have HPS := zaa hPS
 have hpl' : PS.length <= s.size + 1 /\ ∀ x ∈ PS, x.length <= s.size := by rw [hPS]; exact ⟨by omega, fun x hx => by have := hpl.2 x hx; omega⟩
 have HPL := zaa hpl'
 have hpn := hpl'.1
 clear hPS hpl hpl'
 go_enter Tryz.func148, Tryz.ntmps148
 go_wp2_with (first
  | (go_at_call 178; refine (Tryz.strings_CutPrefix s _ _).mono ?_; rintro e w' ⟨rfl, rfl⟩)
  | (go_at_call 179; refine HPC.out.mono ?_; rintro e w1 ⟨⟨v, rfl, hv⟩, hb1⟩; rw [<- HPS.out] at hv; have HB1 := zaa (HBW0.out.trans (hb1.mono HBW0.out.size)); have HBR := zaa (HBR0.out.below hb1); have HBX := zaa (HBX0.out.below hb1); obtain ⟨A, c, rfl⟩ := hv.form; have HV := zaa (sl_off hv (fun i x => by rw [hb1.cell (p := ⟨w.heap.size + 1, i, none⟩) HBX0.out.lt]; exact HNO0.out i x)); clear hv hb1))
 go_loopw [21] (fun i wr => ∃ (k : Nat) (acc : List (Int × Int)) (o : Value), k <= PS.length /\ i = .int .i64 k /\ Box wr (w.heap.size + 1) (Lib.hasPrefix s.data.toList [33]) o /\ Box wr w.heap.size false (.slice none 0 0) /\ OwR sideR 99 w1.heap.size wr o (acc.map sideOf2) /\ Below w.heap.size w wr /\ w1.grownBy wr (some (w.heap.size + 1)) /\ pairsD 61 (PS.take k) = some acc) (fun i _ => PS.length - (intOf i).toNat)
 case atStart => exact ⟨0, [], _, zak _, rfl, HBX.out, HBR.out, OwR.nil _ _ (zab _), HB1.out, zaX _ _, rfl⟩
 case round =>
  obtain ⟨k, acc, o, hk, rfl, hbx, hbr, ho, hB, hG, hp⟩ := hrel
  have HX := zaa hbx
  have HRX := zaa hbr
  have HO := zaa ho
  have HB := zaa hB
  have HG := zaa hG
  have HP := zaa hp
  have hal := pairsD_len 61 hp
  rw [zaq] at hal
  clear ho hB hp hG
  by_cases hlt : k < PS.length
  · have hltm : k < (PS.map bOf).length := by rw [zaV]; exact hlt
    have hvr : Sl strR wr (.slice A (PS.map bOf).length c) (PS.map bOf) := SlR.keep HV.out (fun q hq => HG.out.block q hq.1 (fun e => by injection e with e; exact hq.2 e)) (fun q hq => zan hq.1 HG.out.size)
    obtain ⟨bk, off, rfl, hbk⟩ := hvr.at_ hltm
    have hcell := hvr.strA hltm
    rw [List.getElem_map] at hcell
    have hsz := HPL.out.2 PS[k] (zas hlt)
    have hsm : (bOf PS[k]).size < 4294967281 := by rw [bOf_size]; omega
    have htwo := fun w hE => two_pair (bOf PS[k]) 61 w hsm hE
    rw [bOf_list] at htwo
    have HT := zaa htwo
    have HK := zaa (zac hlt)
    have HN := zaa (show (acc.map sideOf2).length + 1 <= 1000000000000 by rw [zaV]; omega)
    have hlti : (k : Int) < (PS.length : Int) := by omega
    obtain ⟨x0, x1, x2, x3⟩ := hbx
    obtain ⟨r0, r1, r2, r3⟩ := hbr
    clear htwo hsz hsm hal hvr x2 r2
    go_wp2_with (first
     | (at_builtin; refine wpList_gen (base := w1.heap.size) elt_sideA rfl (.tmp 35) (.tmp 39) rfl ((HO.out.keep HB3.out).keep ((zad _ _).alloc (zab _) _)) (one_flat (r := sideR) (cs := [.int .i64 x, .int .i64 y]) (x := sideOf2 (x, y)) rfl ⟨rfl, hx, hy⟩) (fun _ _ h => h) rfl rfl HN.out (by decide) ?_; intro v2 w4 ho2 hg2; obtain ⟨A9, n9, c9, rfl⟩ := ow_form ho2 (by decide); have HB4 := zaa (after_app HX3.out HRX3.out HO3.out hg2 HBX.out.lt HBR.out.lt); obtain ⟨⟨y0, y1, y2, y3⟩, ⟨z0, z1, z2, z3⟩, _⟩ := HB4.out; have y4 := y2 1; clear y2 z2)
     | (go_at_call 180; refine (HT.out _ (HE.out.below HB.out)).mono ?_; rintro e w3 ⟨⟨x, y, ok, rfl, hpd, hx, hy⟩, hb3⟩; have HPD := zaa hpd; have HB3 := zaa hb3; have HX3 := zaa (HX.out.below hb3); have HRX3 := zaa (HRX.out.below hb3); have HO3 := zaa (HO.out.keep hb3); obtain ⟨y0, y1, y2, y3⟩ := HX3.out; obtain ⟨z0, z1, z2, z3⟩ := HRX3.out; have z4 := z2 0; have z5 := z2 1; clear hpd hb3 y2 z2))
    · have hok : ok = false := by have h := ‹(!ok) = true›; simpa using h
      have hpd := HPD.out
      rw [hok] at hpd
      have hnone := pairsD_fail 61 HK.out hpd
      rw [HPS.out] at hnone
      have hbz := HB.out.trans (HB3.out.mono HB.out.size)
      refine bodyPost_ret (v := .tuple #[.agg #[.bool false, .slice none 0 0], .int .i64 4]) (by simp [results, Tryz.results148, go_sem, z0, z1]) rfl ?_
      exact raf_fin (ra_none hnone) (SlF.nil _ _ _) ((hbz.setCell (p := ⟨w.heap.size, 0, none⟩) (zab _) _).setCell (p := ⟨w.heap.size, 1, none⟩) (zab _) _)
    · have hok : ok = true := by have h := ‹(!ok) = false›; simpa using h
      have hpd := HPD.out
      rw [hok] at hpd
      have hz3 := HB3.out.size
      have hz4 := HB4.out.2.2
      have hz1 := HG.out.size
      have b1 : Below w1.heap.size wr (w3.alloc (.cells #[.int .i64 x, .int .i64 y] 99)) := (HB3.out.mono hz1).alloc (by omega) _
      have b2 : Below w1.heap.size wr w4 := (ow_alloc HO3.out _).below_grown b1 hg2.grown
      have b3 : Below w.heap.size wr w4 := b2.mono (by have := HBX.out.lt; omega)
      go_roundw
      case rel =>
       refine ⟨k + 1, acc ++ [(x, y)], .slice A9 n9 c9, by omega, by go_num, HB4.out.1.set1 _, HB4.out.2.1.keep ?_, by rw [zbf]; exact ow_set ho2 HBX.out.lt _ (fun _ _ h => h), (HB.out.trans (b3.mono (zab _))).setCell (p := ⟨w.heap.size + 1, 1, none⟩) (by show w.heap.size <= w.heap.size + 1; omega) _, ?_, pairs_take HP.out HK.out hpd⟩
       · exact zai _ _ _ _ (by simp)
       · exact ⟨b2.os.trans HG.out.os, b2.tape.trans HG.out.tape, b2.output.trans HG.out.output, by simp [World.setCell]; omega, fun q hq hne => by
         rw [zai _ _ _ _ (fun e => hne (by have e' : q = w.heap.size + 1 := (by first | exact e | exact e.symm); rw [e'])), b2.block q hq]; exact HG.out.block q hq hne⟩
      case measure => simp [intOf]; omega
  · have hke : k = PS.length := by omega
    subst hke
    rw [zaP] at HP
    rw [HPS.out] at HP
    have hnlt : ¬ (PS.length : Int) < (PS.length : Int) := by omega
    have hbad := fun h => ra_bad (s := s.data.toList) HP.out h
    have hgood := fun h => ra_good (s := s.data.toList) HP.out h
    generalize acc.map sideOf2 = L at HO hbad hgood
    have HCK := zaa (fun w v h => checkAdj_any (Lib.hasPrefix s.data.toList [33]) v L w h)
    have HBAD := zaa hbad
    have HGOOD := zaa hgood
    have hsl := HO.out.sl (by decide)
    obtain ⟨A2, c2, rfl⟩ := hsl.form
    have HSL := zaa hsl
    obtain ⟨x0, x1, x2, x3⟩ := hbx
    clear hsl hal hk hlt hbad hgood hbr x2
    by_cases hc : chkSides L = 0
    · have HR := zaa (HGOOD.out hc)
      rw [hc] at HCK
      clear hc
      go_wp2_with (go_at_call 91; refine (HCK.out _ _ HSL.out).mono ?_; rintro e w3 ⟨rfl, hb3⟩; have HB3 := zaa hb3; obtain ⟨y0, y1, y2, y3⟩ := HX.out.below hb3; obtain ⟨z0, z1, z2, z3⟩ := HRX.out.below hb3; have z4 := z2 0; have z5 := z2 1; clear hb3 y2 z2)
      have hbz := HB.out.trans (HB3.out.mono HB.out.size)
      refine bodyPost_ret (v := .tuple #[.agg #[.bool (Lib.hasPrefix s.data.toList [33]), .slice A2 L.length c2], .int .i64 0]) (by simp [results, Tryz.results148, go_sem, z0, z1]) rfl ?_
      refine raf_fin HR.out ?_ ((hbz.setCell (p := ⟨w.heap.size, 0, none⟩) (zab _) _).setCell (p := ⟨w.heap.size, 1, none⟩) (zab _) _)
      have hob := HO.out.keep HB3.out
      exact (ow_set (ow_set hob HBR.out.lt _ (fun _ _ h => h)) HBR.out.lt _ (fun _ _ h => h)).slG (by decide) (fun _ _ _ _ h => h) |>.mono (by have := HBX.out.lt; omega)
    · have HR := zaa (HBAD.out hc)
      have hcb : (chkSides L == 0) = false := by rw [beq_eq_false_iff_ne]; exact hc
      clear hc
      go_wp2_with (go_at_call 91; refine (HCK.out _ _ HSL.out).mono ?_; rintro e w3 ⟨rfl, hb3⟩; have HB3 := zaa hb3; obtain ⟨y0, y1, y2, y3⟩ := HX.out.below hb3; obtain ⟨z0, z1, z2, z3⟩ := HRX.out.below hb3; have z4 := z2 0; have z5 := z2 1; clear hb3 y2 z2)
      have hbz := HB.out.trans (HB3.out.mono HB.out.size)
      refine bodyPost_ret (v := .tuple #[.agg #[.bool false, .slice none 0 0], .int .i64 (chkSides L)]) (by simp [results, Tryz.results148, go_sem, z0, z1]) rfl ?_
      exact raf_fin HR.out (SlF.nil _ _ _) ((hbz.setCell (p := ⟨w.heap.size, 0, none⟩) (zab _) _).setCell (p := ⟨w.heap.size, 1, none⟩) (zab _) _)
end
end Go.Proofs.YtojojpjldkpmoaaGreatDoor
