/-
  
-/
import Derived.Test.YtbhbilenbbldnaaGreatDoorGNwL
import Derived.Deep.RegionHeld3
import Derived.Test.YtbhbilenbbldnaaGreatDoorGNwG
import Derived.Test.YtbhbilenbbldnaaGreatDoorGKeB
import Derived.Test.YtbhbilenbbldnaaGreatDoorGNwA
set_option linter.unusedVariables false
set_option linter.unusedSimpArgs false
namespace Go.Proofs.YtbhbilenbbldnaaGreatDoor
open Go Go.RowKit Go.Deep
set_option maxRecDepth 50000 in
set_option maxHeartbeats 2000000 in
theorem nact1_any {X : Nat → Prop} (N q : Nat) (b n m ad bt : Int) (key value : ByteArray) (x : Net) (w : World) (h : NetM X w N x) (hx : NetOk x) (hE : EnvN N w) (hc : (⟨1, q, b, n, m, ⟨ad, bt⟩, key, value⟩ : ActV).wf) (hia : isN (q : Int) = true) :
  Calls Tryz.prog 42 #[.pointer (some ⟨N, 0, none⟩), (⟨1, q, b, n, m, ⟨ad, bt⟩, key, value⟩ : ActV).agg] w (ActN X N (actS x ⟨1, q, b, n, m, ⟨ad, bt⟩, key, value⟩) w) := by
 have HM := Go.Lib.hid h
 have HNW := Go.Lib.hid h.lt
 have HX := Go.Lib.hid hx
 have HC := Go.Lib.hid hc
 obtain ⟨W3, A, R, O, hA3, hR3, hO3, hW3, haw⟩ := actW_ex w 1 q b n m ad bt key value
 have HA3 := Go.Lib.hid hA3
 have HR3 := Go.Lib.hid hR3
 have HO3 := Go.Lib.hid hO3
 have HW3 := Go.Lib.hid hW3
 have HAW := Go.Lib.hid haw
 have HI := Go.Lib.hid (nis_any (q : Int) W3 hia)
 have HM3 := Go.Lib.hid (h.gap haw.b)
 have HE3 := Go.Lib.hid (hE.below haw.b (Nat.le_of_lt h.lt))
 obtain ⟨ia0, ia1⟩ := (isN_iff (q : Int)).1 hia
 have hq : q < 12 := by omega
 have HQ := Go.Lib.hid hq
 have HA0 := Go.Lib.hid (act_go (x := x) (c := ⟨1, q, b, n, m, ⟨ad, bt⟩, key, value⟩) (show ¬ ((1 : Int) < 1 ∨ 10 < (1 : Int)) by decide) hia (a := q) (k := 1) rfl rfl)
 obtain ⟨wk, wa, wb, wn, wm, wad, wbt, wke, wva⟩ := HC.out
 unfold ActV.agg
 clear hA3 hR3 hO3 hW3 haw h hx hE hc hia
 by_cases hn1 : 1 ≤ n
 · have HA := Go.Lib.hid (HA0.out.trans ((actK_1 x _ q).trans (if_pos hn1)))
   have HM3' := Go.Lib.hid (HM3.out.setGap (B := O) (o := 0) (u := .int .i64 2) (by have := HAW.out.sz; have := HNW.out; omega) (.inr (by have := HAW.out.sz; omega)))
   have HCALL := Go.Lib.hid (nlink_any N q b n x _ HM3'.out HQ.out)
   clear HA0
   go_enter Tryz.func42, Tryz.ntmps42
   go_wp2_with fail
   rw [HW3.out, ← HO3.out, ← HR3.out, ← HA3.out]
   clear HW3 HO3 HR3 HA3
   refine HI.out.mono ?_
   rintro e w' ⟨rfl, rfl⟩
   have a0 := HAW.out.a 0
   have a1 := HAW.out.a 1
   have a2 := HAW.out.a 2
   have a3 := HAW.out.a 3
   have a4 := HAW.out.a 4
   have a5 := HAW.out.a 5
   have a6 := HAW.out.a 6
   have a7 := HAW.out.a 7
   have a8 := HAW.out.a 8
   have r0 := HAW.out.r 0
   have r1 := HAW.out.r 1
   have r2 := HAW.out.r 2
   have r3 := HAW.out.r 3
   have o0 := HAW.out.o 0
   have o1 := HAW.out.o 1
   have o2 := HAW.out.o 2
   have o3 := HAW.out.o 3
   have zr0 := HAW.out.fr 0
   have zr1 := HAW.out.fr 1
   have zr2 := HAW.out.fr 2
   have zr3 := HAW.out.fr 3
   have zo0 := HAW.out.fo 0
   have zo1 := HAW.out.fo 1
   have zo2 := HAW.out.fo 2
   have zo3 := HAW.out.fo 3
   simp only [ActV.cells, rplZ, List.getElem?_toArray, List.getElem?_cons_zero, List.getElem?_cons_succ] at a0 a1 a2 a3 a4 a5 a6 a7 a8 r0 r1 r2 r3 o0 o1 o2 o3
   have hRO : ¬ R = O := by have := HAW.out.sz; omega
   have hOR : ¬ O = R := fun e => hRO e.symm
   go_wp2_with fail
   refine HCALL.out.mono ?_
   rintro e w4 ⟨rfl, hm4, hg4⟩
   have HM4 := Go.Lib.hid hm4
   have HG4 := Go.Lib.hid hg4
   have HAW := Go.Lib.hid HAW.out.set2
   clear a0 a1 a2 a3 a4 a5 a6 a7 a8 r0 r1 r2 r3 o0 o1 o2 o3 zr0 zr1 zr2 zr3 zo0 zo1 zo2 zo3
   obtain ⟨fa, fr, fo, fzr, fzo⟩ := HAW.out.grown hg4 HNW.out
   have a7 := fa 7
   have r0 := fr 0
   have r1 := fr 1
   have r2 := fr 2
   have r3 := fr 3
   have o0 := fo 0
   have o1 := fo 1
   have o2 := fo 2
   have o3 := fo 3
   have zr0 := fzr 0
   have zr1 := fzr 1
   have zr2 := fzr 2
   have zr3 := fzr 3
   have zo0 := fzo 0
   have zo1 := fzo 1
   have zo2 := fzo 2
   have zo3 := fzo 3
   simp only [ActV.cells, rplZ, List.getElem?_toArray, List.getElem?_cons_zero, List.getElem?_cons_succ] at a7 r0 r1 r2 r3 o0 o1 o2 o3
   clear fa fr fo fzr fzo
   clear hm4 hg4
   go_wp2_with fail
   refine bodyPost_ret (v := .agg #[.int .i64 (linkS x q b n).2, .slice none 0 0, .int .i64 0, .slice none 0 0]) (by simp [results, Tryz.results42, go_sem, World.cell?_setCell_other, *]) rfl ?_
   rw [HA.out]
   apply act_fin HAW.out (Y := gapX X w W3)
   case hX => exact fun k h => .inl h
   case hYR =>
    have h9 := HAW.out.sz
    (try simp only [World.setCell, Array.size_modify] at h9)
    exact .inr (by omega)
   case hYO =>
    have h9 := HAW.out.sz
    (try simp only [World.setCell, Array.size_modify] at h9)
    exact .inr (by omega)
   case hn => exact HM4.out
   case hg => exact HG4.out
   case hN => exact HNW.out
   case hs => simp [World.setCell]
   case ho => repeat rw [os_setCell']
   case ht => repeat rw [tape_setCell']
   case hu => repeat rw [output_setCell']
   case hk =>
    intro k _ h1 h2
    repeat rw [Below.heap_setCell _ _ _ _ (by first | exact h1 | exact h2)]
   case hp => exact SlF.nil _ _ _
   case hq => exact SlF.nil _ _ _
   case hc => rfl
   case hd => rfl
 · have HA := Go.Lib.hid (HA0.out.trans ((actK_1 x _ q).trans (if_neg hn1)))
   have hn2 : ¬ 1 ≤ n := hn1
   clear HA0
   go_enter Tryz.func42, Tryz.ntmps42
   go_wp2_with fail
   rw [HW3.out, ← HO3.out, ← HR3.out, ← HA3.out]
   clear HW3 HO3 HR3 HA3
   refine HI.out.mono ?_
   rintro e w' ⟨rfl, rfl⟩
   have a0 := HAW.out.a 0
   have a1 := HAW.out.a 1
   have a2 := HAW.out.a 2
   have a3 := HAW.out.a 3
   have a4 := HAW.out.a 4
   have a5 := HAW.out.a 5
   have a6 := HAW.out.a 6
   have a7 := HAW.out.a 7
   have a8 := HAW.out.a 8
   have r0 := HAW.out.r 0
   have r1 := HAW.out.r 1
   have r2 := HAW.out.r 2
   have r3 := HAW.out.r 3
   have o0 := HAW.out.o 0
   have o1 := HAW.out.o 1
   have o2 := HAW.out.o 2
   have o3 := HAW.out.o 3
   have zr0 := HAW.out.fr 0
   have zr1 := HAW.out.fr 1
   have zr2 := HAW.out.fr 2
   have zr3 := HAW.out.fr 3
   have zo0 := HAW.out.fo 0
   have zo1 := HAW.out.fo 1
   have zo2 := HAW.out.fo 2
   have zo3 := HAW.out.fo 3
   simp only [ActV.cells, rplZ, List.getElem?_toArray, List.getElem?_cons_zero, List.getElem?_cons_succ] at a0 a1 a2 a3 a4 a5 a6 a7 a8 r0 r1 r2 r3 o0 o1 o2 o3
   have hRO : ¬ R = O := by have := HAW.out.sz; omega
   have hOR : ¬ O = R := fun e => hRO e.symm
   go_wp2_with fail
   refine bodyPost_ret (v := .agg #[.int .i64 2, .slice none 0 0, .int .i64 0, .slice none 0 0]) (by simp [results, Tryz.results42, go_sem, World.cell?_setCell_other, *]) rfl ?_
   rw [HA.out]
   apply act_fin HAW.out (Y := gapX X w W3)
   case hX => exact fun k h => .inl h
   case hYR =>
    have h9 := HAW.out.sz
    (try simp only [World.setCell, Array.size_modify] at h9)
    exact .inr (by omega)
   case hYO =>
    have h9 := HAW.out.sz
    (try simp only [World.setCell, Array.size_modify] at h9)
    exact .inr (by omega)
   case hn => exact HM3.out
   case hg => exact World.grownBy.refl _ _
   case hN => exact HNW.out
   case hs => simp [World.setCell]
   case ho => repeat rw [os_setCell']
   case ht => repeat rw [tape_setCell']
   case hu => repeat rw [output_setCell']
   case hk =>
    intro k _ h1 h2
    repeat rw [Below.heap_setCell _ _ _ _ (by first | exact h1 | exact h2)]
   case hp => exact SlF.nil _ _ _
   case hq => exact SlF.nil _ _ _
   case hc => rfl
   case hd => rfl
end Go.Proofs.YtbhbilenbbldnaaGreatDoor

namespace Go.Proofs.YtbhbilenbbldnaaGreatDoor
open Go Go.RowKit Go.Deep
set_option maxRecDepth 50000 in
set_option maxHeartbeats 2000000 in
theorem nact2_any {X : Nat → Prop} (N q : Nat) (b n m ad bt : Int) (key value : ByteArray) (x : Net) (w : World) (h : NetM X w N x) (hx : NetOk x) (hE : EnvN N w) (hc : (⟨2, q, b, n, m, ⟨ad, bt⟩, key, value⟩ : ActV).wf) (hia : isN (q : Int) = true) :
  Calls Tryz.prog 42 #[.pointer (some ⟨N, 0, none⟩), (⟨2, q, b, n, m, ⟨ad, bt⟩, key, value⟩ : ActV).agg] w (ActN X N (actS x ⟨2, q, b, n, m, ⟨ad, bt⟩, key, value⟩) w) := by
 have HM := Go.Lib.hid h
 have HNW := Go.Lib.hid h.lt
 have HX := Go.Lib.hid hx
 have HC := Go.Lib.hid hc
 obtain ⟨W3, A, R, O, hA3, hR3, hO3, hW3, haw⟩ := actW_ex w 2 q b n m ad bt key value
 have HA3 := Go.Lib.hid hA3
 have HR3 := Go.Lib.hid hR3
 have HO3 := Go.Lib.hid hO3
 have HW3 := Go.Lib.hid hW3
 have HAW := Go.Lib.hid haw
 have HI := Go.Lib.hid (nis_any (q : Int) W3 hia)
 have HM3 := Go.Lib.hid (h.gap haw.b)
 have HE3 := Go.Lib.hid (hE.below haw.b (Nat.le_of_lt h.lt))
 obtain ⟨ia0, ia1⟩ := (isN_iff (q : Int)).1 hia
 have hq : q < 12 := by omega
 have HQ := Go.Lib.hid hq
 have HA0 := Go.Lib.hid (act_go (x := x) (c := ⟨2, q, b, n, m, ⟨ad, bt⟩, key, value⟩) (show ¬ ((2 : Int) < 1 ∨ 10 < (2 : Int)) by decide) hia (a := q) (k := 2) rfl rfl)
 obtain ⟨wk, wa, wb, wn, wm, wad, wbt, wke, wva⟩ := HC.out
 unfold ActV.agg
 clear hA3 hR3 hO3 hW3 haw h hx hE hc hia
 have HA := Go.Lib.hid (HA0.out.trans (show _ = ((linkS x q b 0).1, ⟨(linkS x q b 0).2, [], 0, []⟩) from rfl))
 have HCALL := Go.Lib.hid (nlink_any N q b 0 x W3 HM3.out HQ.out)
 clear HA0
 go_enter Tryz.func42, Tryz.ntmps42
 go_wp2_with fail
 rw [HW3.out, ← HO3.out, ← HR3.out, ← HA3.out]
 clear HW3 HO3 HR3 HA3
 refine HI.out.mono ?_
 rintro e w' ⟨rfl, rfl⟩
 have a0 := HAW.out.a 0
 have a1 := HAW.out.a 1
 have a2 := HAW.out.a 2
 have a3 := HAW.out.a 3
 have a4 := HAW.out.a 4
 have a5 := HAW.out.a 5
 have a6 := HAW.out.a 6
 have a7 := HAW.out.a 7
 have a8 := HAW.out.a 8
 have r0 := HAW.out.r 0
 have r1 := HAW.out.r 1
 have r2 := HAW.out.r 2
 have r3 := HAW.out.r 3
 have o0 := HAW.out.o 0
 have o1 := HAW.out.o 1
 have o2 := HAW.out.o 2
 have o3 := HAW.out.o 3
 have zr0 := HAW.out.fr 0
 have zr1 := HAW.out.fr 1
 have zr2 := HAW.out.fr 2
 have zr3 := HAW.out.fr 3
 have zo0 := HAW.out.fo 0
 have zo1 := HAW.out.fo 1
 have zo2 := HAW.out.fo 2
 have zo3 := HAW.out.fo 3
 simp only [ActV.cells, rplZ, List.getElem?_toArray, List.getElem?_cons_zero, List.getElem?_cons_succ] at a0 a1 a2 a3 a4 a5 a6 a7 a8 r0 r1 r2 r3 o0 o1 o2 o3
 have hRO : ¬ R = O := by have := HAW.out.sz; omega
 have hOR : ¬ O = R := fun e => hRO e.symm
 go_wp2_with fail
 refine HCALL.out.mono ?_
 rintro e w4 ⟨rfl, hm4, hg4⟩
 have HM4 := Go.Lib.hid hm4
 have HG4 := Go.Lib.hid hg4
 clear a0 a1 a2 a3 a4 a5 a6 a7 a8 r0 r1 r2 r3 o0 o1 o2 o3 zr0 zr1 zr2 zr3 zo0 zo1 zo2 zo3
 obtain ⟨fa, fr, fo, fzr, fzo⟩ := HAW.out.grown hg4 HNW.out
 have a7 := fa 7
 have r0 := fr 0
 have r1 := fr 1
 have r2 := fr 2
 have r3 := fr 3
 have o0 := fo 0
 have o1 := fo 1
 have o2 := fo 2
 have o3 := fo 3
 have zr0 := fzr 0
 have zr1 := fzr 1
 have zr2 := fzr 2
 have zr3 := fzr 3
 have zo0 := fzo 0
 have zo1 := fzo 1
 have zo2 := fzo 2
 have zo3 := fzo 3
 simp only [ActV.cells, rplZ, List.getElem?_toArray, List.getElem?_cons_zero, List.getElem?_cons_succ] at a7 r0 r1 r2 r3 o0 o1 o2 o3
 clear fa fr fo fzr fzo
 clear hm4 hg4
 go_wp2_with fail
 refine bodyPost_ret (v := .agg #[.int .i64 (linkS x q b 0).2, .slice none 0 0, .int .i64 0, .slice none 0 0]) (by simp [results, Tryz.results42, go_sem, World.cell?_setCell_other, *]) rfl ?_
 rw [HA.out]
 apply act_fin HAW.out (Y := gapX X w W3)
 case hX => exact fun k h => .inl h
 case hYR =>
  have h9 := HAW.out.sz
  (try simp only [World.setCell, Array.size_modify] at h9)
  exact .inr (by omega)
 case hYO =>
  have h9 := HAW.out.sz
  (try simp only [World.setCell, Array.size_modify] at h9)
  exact .inr (by omega)
 case hn => exact HM4.out
 case hg => exact HG4.out
 case hN => exact HNW.out
 case hs => simp [World.setCell]
 case ho => repeat rw [os_setCell']
 case ht => repeat rw [tape_setCell']
 case hu => repeat rw [output_setCell']
 case hk =>
  intro k _ h1 h2
  repeat rw [Below.heap_setCell _ _ _ _ (by first | exact h1 | exact h2)]
 case hp => exact SlF.nil _ _ _
 case hq => exact SlF.nil _ _ _
 case hc => rfl
 case hd => rfl
end Go.Proofs.YtbhbilenbbldnaaGreatDoor

namespace Go.Proofs.YtbhbilenbbldnaaGreatDoor
open Go Go.RowKit Go.Deep
set_option maxRecDepth 50000 in
set_option maxHeartbeats 2000000 in
theorem nact3_any {X : Nat → Prop} (N q : Nat) (b n m ad bt : Int) (key value : ByteArray) (x : Net) (w : World) (h : NetM X w N x) (hx : NetOk x) (hE : EnvN N w) (hc : (⟨3, q, b, n, m, ⟨ad, bt⟩, key, value⟩ : ActV).wf) (hia : isN (q : Int) = true) :
  Calls Tryz.prog 42 #[.pointer (some ⟨N, 0, none⟩), (⟨3, q, b, n, m, ⟨ad, bt⟩, key, value⟩ : ActV).agg] w (ActN X N (actS x ⟨3, q, b, n, m, ⟨ad, bt⟩, key, value⟩) w) := by
 have HM := Go.Lib.hid h
 have HNW := Go.Lib.hid h.lt
 have HX := Go.Lib.hid hx
 have HC := Go.Lib.hid hc
 obtain ⟨W3, A, R, O, hA3, hR3, hO3, hW3, haw⟩ := actW_ex w 3 q b n m ad bt key value
 have HA3 := Go.Lib.hid hA3
 have HR3 := Go.Lib.hid hR3
 have HO3 := Go.Lib.hid hO3
 have HW3 := Go.Lib.hid hW3
 have HAW := Go.Lib.hid haw
 have HI := Go.Lib.hid (nis_any (q : Int) W3 hia)
 have HM3 := Go.Lib.hid (h.gap haw.b)
 have HE3 := Go.Lib.hid (hE.below haw.b (Nat.le_of_lt h.lt))
 obtain ⟨ia0, ia1⟩ := (isN_iff (q : Int)).1 hia
 have hq : q < 12 := by omega
 have HQ := Go.Lib.hid hq
 have HA0 := Go.Lib.hid (act_go (x := x) (c := ⟨3, q, b, n, m, ⟨ad, bt⟩, key, value⟩) (show ¬ ((3 : Int) < 1 ∨ 10 < (3 : Int)) by decide) hia (a := q) (k := 3) rfl rfl)
 obtain ⟨wk, wa, wb, wn, wm, wad, wbt, wke, wva⟩ := HC.out
 unfold ActV.agg
 clear hA3 hR3 hO3 hW3 haw h hx hE hc hia
 have f1 := (HM3.out.nd q HQ.out).dr
 have f2 := HM3.out.fz (q * 4 + 1)
 by_cases hn0 : n = 0
 · subst hn0
   have HA := Go.Lib.hid (HA0.out.trans ((actK_3 x _ q).trans (if_pos (.inl rfl))))
   have HM4 := Go.Lib.hid ((HM3.out.setDr HQ.out false).below (Below.refl _ _).drew)
   clear HA0
   go_enter Tryz.func42, Tryz.ntmps42
   go_wp2_with fail
   rw [HW3.out, ← HO3.out, ← HR3.out, ← HA3.out]
   clear HW3 HO3 HR3 HA3
   refine HI.out.mono ?_
   rintro e w' ⟨rfl, rfl⟩
   have a0 := HAW.out.a 0
   have a1 := HAW.out.a 1
   have a2 := HAW.out.a 2
   have a3 := HAW.out.a 3
   have a4 := HAW.out.a 4
   have a5 := HAW.out.a 5
   have a6 := HAW.out.a 6
   have a7 := HAW.out.a 7
   have a8 := HAW.out.a 8
   have r0 := HAW.out.r 0
   have r1 := HAW.out.r 1
   have r2 := HAW.out.r 2
   have r3 := HAW.out.r 3
   have o0 := HAW.out.o 0
   have o1 := HAW.out.o 1
   have o2 := HAW.out.o 2
   have o3 := HAW.out.o 3
   have zr0 := HAW.out.fr 0
   have zr1 := HAW.out.fr 1
   have zr2 := HAW.out.fr 2
   have zr3 := HAW.out.fr 3
   have zo0 := HAW.out.fo 0
   have zo1 := HAW.out.fo 1
   have zo2 := HAW.out.fo 2
   have zo3 := HAW.out.fo 3
   simp only [ActV.cells, rplZ, List.getElem?_toArray, List.getElem?_cons_zero, List.getElem?_cons_succ] at a0 a1 a2 a3 a4 a5 a6 a7 a8 r0 r1 r2 r3 o0 o1 o2 o3
   have hRO : ¬ R = O := by have := HAW.out.sz; omega
   have hOR : ¬ O = R := fun e => hRO e.symm
   go_wp2_with fail
   go_region_with (fail)
   all_goals
    have hg4 := (setCell_grown W3 N (q * 4 + 1) (.bool false)).trans (below_grownN N (Below.refl _ _).drew)
    obtain ⟨W4, hW4⟩ : ∃ x, x = (W3.setCell ⟨N, q * 4 + 1, none⟩ (.bool false)).drew := ⟨_, rfl⟩
    rw [← hW4] at HM4 hg4 ⊢
    clear hW4
    have HG4 := Go.Lib.hid hg4
    clear f1 f2
    clear a0 a1 a2 a3 a4 a5 a6 a7 a8 r0 r1 r2 r3 o0 o1 o2 o3 zr0 zr1 zr2 zr3 zo0 zo1 zo2 zo3
    obtain ⟨fa, fr, fo, fzr, fzo⟩ := HAW.out.grown hg4 HNW.out
    have a7 := fa 7
    have r0 := fr 0
    have r1 := fr 1
    have r2 := fr 2
    have r3 := fr 3
    have o0 := fo 0
    have o1 := fo 1
    have o2 := fo 2
    have o3 := fo 3
    have zr0 := fzr 0
    have zr1 := fzr 1
    have zr2 := fzr 2
    have zr3 := fzr 3
    have zo0 := fzo 0
    have zo1 := fzo 1
    have zo2 := fzo 2
    have zo3 := fzo 3
    simp only [ActV.cells, rplZ, List.getElem?_toArray, List.getElem?_cons_zero, List.getElem?_cons_succ] at a7 r0 r1 r2 r3 o0 o1 o2 o3
    clear fa fr fo fzr fzo
    clear hg4
    go_wp2_with fail
    refine bodyPost_ret (v := .agg #[.int .i64 0, .slice none 0 0, .int .i64 0, .slice none 0 0]) (by simp [results, Tryz.results42, go_sem, World.cell?_setCell_other, *]) rfl ?_
    rw [HA.out]
    apply act_fin HAW.out (Y := gapX X w W3)
    case hX => exact fun k h => .inl h
    case hYR =>
     have h9 := HAW.out.sz
     (try simp only [World.setCell, Array.size_modify] at h9)
     exact .inr (by omega)
    case hYO =>
     have h9 := HAW.out.sz
     (try simp only [World.setCell, Array.size_modify] at h9)
     exact .inr (by omega)
    case hn => exact HM4.out
    case hg => exact HG4.out
    case hN => exact HNW.out
    case hs => simp [World.setCell]
    case ho => repeat rw [os_setCell']
    case ht => repeat rw [tape_setCell']
    case hu => repeat rw [output_setCell']
    case hk =>
     intro k _ h1 h2
     repeat rw [Below.heap_setCell _ _ _ _ (by first | exact h1 | exact h2)]
    case hp => exact SlF.nil _ _ _
    case hq => exact SlF.nil _ _ _
    case hc => rfl
    case hd => rfl
 · by_cases hn1 : n = 1
   · subst hn1
     have HA := Go.Lib.hid (HA0.out.trans ((actK_3 x _ q).trans (if_pos (.inr rfl))))
     have HM4 := Go.Lib.hid ((HM3.out.setDr HQ.out true).below (Below.refl _ _).drew)
     clear HA0
     go_enter Tryz.func42, Tryz.ntmps42
     go_wp2_with fail
     rw [HW3.out, ← HO3.out, ← HR3.out, ← HA3.out]
     clear HW3 HO3 HR3 HA3
     refine HI.out.mono ?_
     rintro e w' ⟨rfl, rfl⟩
     have a0 := HAW.out.a 0
     have a1 := HAW.out.a 1
     have a2 := HAW.out.a 2
     have a3 := HAW.out.a 3
     have a4 := HAW.out.a 4
     have a5 := HAW.out.a 5
     have a6 := HAW.out.a 6
     have a7 := HAW.out.a 7
     have a8 := HAW.out.a 8
     have r0 := HAW.out.r 0
     have r1 := HAW.out.r 1
     have r2 := HAW.out.r 2
     have r3 := HAW.out.r 3
     have o0 := HAW.out.o 0
     have o1 := HAW.out.o 1
     have o2 := HAW.out.o 2
     have o3 := HAW.out.o 3
     have zr0 := HAW.out.fr 0
     have zr1 := HAW.out.fr 1
     have zr2 := HAW.out.fr 2
     have zr3 := HAW.out.fr 3
     have zo0 := HAW.out.fo 0
     have zo1 := HAW.out.fo 1
     have zo2 := HAW.out.fo 2
     have zo3 := HAW.out.fo 3
     simp only [ActV.cells, rplZ, List.getElem?_toArray, List.getElem?_cons_zero, List.getElem?_cons_succ] at a0 a1 a2 a3 a4 a5 a6 a7 a8 r0 r1 r2 r3 o0 o1 o2 o3
     have hRO : ¬ R = O := by have := HAW.out.sz; omega
     have hOR : ¬ O = R := fun e => hRO e.symm
     go_wp2_with fail
     go_region_with (fail)
     all_goals
      have hg4 := (setCell_grown W3 N (q * 4 + 1) (.bool true)).trans (below_grownN N (Below.refl _ _).drew)
      obtain ⟨W4, hW4⟩ : ∃ x, x = (W3.setCell ⟨N, q * 4 + 1, none⟩ (.bool true)).drew := ⟨_, rfl⟩
      rw [← hW4] at HM4 hg4 ⊢
      clear hW4
      have HG4 := Go.Lib.hid hg4
      clear f1 f2
      clear a0 a1 a2 a3 a4 a5 a6 a7 a8 r0 r1 r2 r3 o0 o1 o2 o3 zr0 zr1 zr2 zr3 zo0 zo1 zo2 zo3
      obtain ⟨fa, fr, fo, fzr, fzo⟩ := HAW.out.grown hg4 HNW.out
      have a7 := fa 7
      have r0 := fr 0
      have r1 := fr 1
      have r2 := fr 2
      have r3 := fr 3
      have o0 := fo 0
      have o1 := fo 1
      have o2 := fo 2
      have o3 := fo 3
      have zr0 := fzr 0
      have zr1 := fzr 1
      have zr2 := fzr 2
      have zr3 := fzr 3
      have zo0 := fzo 0
      have zo1 := fzo 1
      have zo2 := fzo 2
      have zo3 := fzo 3
      simp only [ActV.cells, rplZ, List.getElem?_toArray, List.getElem?_cons_zero, List.getElem?_cons_succ] at a7 r0 r1 r2 r3 o0 o1 o2 o3
      clear fa fr fo fzr fzo
      clear hg4
      go_wp2_with fail
      refine bodyPost_ret (v := .agg #[.int .i64 0, .slice none 0 0, .int .i64 0, .slice none 0 0]) (by simp [results, Tryz.results42, go_sem, World.cell?_setCell_other, *]) rfl ?_
      rw [HA.out]
      apply act_fin HAW.out (Y := gapX X w W3)
      case hX => exact fun k h => .inl h
      case hYR =>
       have h9 := HAW.out.sz
       (try simp only [World.setCell, Array.size_modify] at h9)
       exact .inr (by omega)
      case hYO =>
       have h9 := HAW.out.sz
       (try simp only [World.setCell, Array.size_modify] at h9)
       exact .inr (by omega)
      case hn => exact HM4.out
      case hg => exact HG4.out
      case hN => exact HNW.out
      case hs => simp [World.setCell]
      case ho => repeat rw [os_setCell']
      case ht => repeat rw [tape_setCell']
      case hu => repeat rw [output_setCell']
      case hk =>
       intro k _ h1 h2
       repeat rw [Below.heap_setCell _ _ _ _ (by first | exact h1 | exact h2)]
      case hp => exact SlF.nil _ _ _
      case hq => exact SlF.nil _ _ _
      case hc => rfl
      case hd => rfl
   · have HA := Go.Lib.hid (HA0.out.trans ((actK_3 x _ q).trans (if_neg (fun h => h.elim hn0 hn1))))
     have hb0 : (n != 0) = true := by simpa using hn0
     have hb1 : (n != 1) = true := by simpa using hn1
     clear HA0 f1 f2
     go_enter Tryz.func42, Tryz.ntmps42
     go_wp2_with fail
     rw [HW3.out, ← HO3.out, ← HR3.out, ← HA3.out]
     clear HW3 HO3 HR3 HA3
     refine HI.out.mono ?_
     rintro e w' ⟨rfl, rfl⟩
     have a0 := HAW.out.a 0
     have a1 := HAW.out.a 1
     have a2 := HAW.out.a 2
     have a3 := HAW.out.a 3
     have a4 := HAW.out.a 4
     have a5 := HAW.out.a 5
     have a6 := HAW.out.a 6
     have a7 := HAW.out.a 7
     have a8 := HAW.out.a 8
     have r0 := HAW.out.r 0
     have r1 := HAW.out.r 1
     have r2 := HAW.out.r 2
     have r3 := HAW.out.r 3
     have o0 := HAW.out.o 0
     have o1 := HAW.out.o 1
     have o2 := HAW.out.o 2
     have o3 := HAW.out.o 3
     have zr0 := HAW.out.fr 0
     have zr1 := HAW.out.fr 1
     have zr2 := HAW.out.fr 2
     have zr3 := HAW.out.fr 3
     have zo0 := HAW.out.fo 0
     have zo1 := HAW.out.fo 1
     have zo2 := HAW.out.fo 2
     have zo3 := HAW.out.fo 3
     simp only [ActV.cells, rplZ, List.getElem?_toArray, List.getElem?_cons_zero, List.getElem?_cons_succ] at a0 a1 a2 a3 a4 a5 a6 a7 a8 r0 r1 r2 r3 o0 o1 o2 o3
     have hRO : ¬ R = O := by have := HAW.out.sz; omega
     have hOR : ¬ O = R := fun e => hRO e.symm
     go_wp2_with fail
     refine bodyPost_ret (v := .agg #[.int .i64 2, .slice none 0 0, .int .i64 0, .slice none 0 0]) (by simp [results, Tryz.results42, go_sem, World.cell?_setCell_other, *]) rfl ?_
     rw [HA.out]
     apply act_fin HAW.out (Y := gapX X w W3)
     case hX => exact fun k h => .inl h
     case hYR =>
      have h9 := HAW.out.sz
      (try simp only [World.setCell, Array.size_modify] at h9)
      exact .inr (by omega)
     case hYO =>
      have h9 := HAW.out.sz
      (try simp only [World.setCell, Array.size_modify] at h9)
      exact .inr (by omega)
     case hn => exact HM3.out
     case hg => exact World.grownBy.refl _ _
     case hN => exact HNW.out
     case hs => simp [World.setCell]
     case ho => repeat rw [os_setCell']
     case ht => repeat rw [tape_setCell']
     case hu => repeat rw [output_setCell']
     case hk =>
      intro k _ h1 h2
      repeat rw [Below.heap_setCell _ _ _ _ (by first | exact h1 | exact h2)]
     case hp => exact SlF.nil _ _ _
     case hq => exact SlF.nil _ _ _
     case hc => rfl
     case hd => rfl
end Go.Proofs.YtbhbilenbbldnaaGreatDoor

namespace Go.Proofs.YtbhbilenbbldnaaGreatDoor
open Go Go.RowKit Go.Deep
set_option maxRecDepth 50000 in
set_option maxHeartbeats 2000000 in
theorem nact4_any {X : Nat → Prop} (N q : Nat) (b n m ad bt : Int) (key value : ByteArray) (x : Net) (w : World) (h : NetM X w N x) (hx : NetOk x) (hE : EnvN N w) (hc : (⟨4, q, b, n, m, ⟨ad, bt⟩, key, value⟩ : ActV).wf) (hia : isN (q : Int) = true) :
  Calls Tryz.prog 42 #[.pointer (some ⟨N, 0, none⟩), (⟨4, q, b, n, m, ⟨ad, bt⟩, key, value⟩ : ActV).agg] w (ActN X N (actS x ⟨4, q, b, n, m, ⟨ad, bt⟩, key, value⟩) w) := by
 have HM := Go.Lib.hid h
 have HNW := Go.Lib.hid h.lt
 have HX := Go.Lib.hid hx
 have HC := Go.Lib.hid hc
 obtain ⟨W3, A, R, O, hA3, hR3, hO3, hW3, haw⟩ := actW_ex w 4 q b n m ad bt key value
 have HA3 := Go.Lib.hid hA3
 have HR3 := Go.Lib.hid hR3
 have HO3 := Go.Lib.hid hO3
 have HW3 := Go.Lib.hid hW3
 have HAW := Go.Lib.hid haw
 have HI := Go.Lib.hid (nis_any (q : Int) W3 hia)
 have HM3 := Go.Lib.hid (h.gap haw.b)
 have HE3 := Go.Lib.hid (hE.below haw.b (Nat.le_of_lt h.lt))
 obtain ⟨ia0, ia1⟩ := (isN_iff (q : Int)).1 hia
 have hq : q < 12 := by omega
 have HQ := Go.Lib.hid hq
 have HA0 := Go.Lib.hid (act_go (x := x) (c := ⟨4, q, b, n, m, ⟨ad, bt⟩, key, value⟩) (show ¬ ((4 : Int) < 1 ∨ 10 < (4 : Int)) by decide) hia (a := q) (k := 4) rfl rfl)
 obtain ⟨wk, wa, wb, wn, wm, wad, wbt, wke, wva⟩ := HC.out
 unfold ActV.agg
 clear hA3 hR3 hO3 hW3 haw h hx hE hc hia
 have HA := Go.Lib.hid (HA0.out.trans (show _ = ((giveS x q ⟨ad, bt⟩).1, ⟨(giveS x q ⟨ad, bt⟩).2, [], 0, []⟩) from rfl))
 have HCALL := Go.Lib.hid (ngive_any N q ⟨ad, bt⟩ x W3 HM3.out HQ.out HX.out ⟨wad, wbt⟩)
 clear HA0
 go_enter Tryz.func42, Tryz.ntmps42
 go_wp2_with fail
 rw [HW3.out, ← HO3.out, ← HR3.out, ← HA3.out]
 clear HW3 HO3 HR3 HA3
 refine HI.out.mono ?_
 rintro e w' ⟨rfl, rfl⟩
 have a0 := HAW.out.a 0
 have a1 := HAW.out.a 1
 have a2 := HAW.out.a 2
 have a3 := HAW.out.a 3
 have a4 := HAW.out.a 4
 have a5 := HAW.out.a 5
 have a6 := HAW.out.a 6
 have a7 := HAW.out.a 7
 have a8 := HAW.out.a 8
 have r0 := HAW.out.r 0
 have r1 := HAW.out.r 1
 have r2 := HAW.out.r 2
 have r3 := HAW.out.r 3
 have o0 := HAW.out.o 0
 have o1 := HAW.out.o 1
 have o2 := HAW.out.o 2
 have o3 := HAW.out.o 3
 have zr0 := HAW.out.fr 0
 have zr1 := HAW.out.fr 1
 have zr2 := HAW.out.fr 2
 have zr3 := HAW.out.fr 3
 have zo0 := HAW.out.fo 0
 have zo1 := HAW.out.fo 1
 have zo2 := HAW.out.fo 2
 have zo3 := HAW.out.fo 3
 simp only [ActV.cells, rplZ, List.getElem?_toArray, List.getElem?_cons_zero, List.getElem?_cons_succ] at a0 a1 a2 a3 a4 a5 a6 a7 a8 r0 r1 r2 r3 o0 o1 o2 o3
 have hRO : ¬ R = O := by have := HAW.out.sz; omega
 have hOR : ¬ O = R := fun e => hRO e.symm
 go_wp2_with fail
 refine HCALL.out.mono ?_
 rintro e w4 ⟨rfl, hm4, hg4⟩
 have HM4 := Go.Lib.hid hm4
 have HG4 := Go.Lib.hid hg4
 clear a0 a1 a2 a3 a4 a5 a6 a7 a8 r0 r1 r2 r3 o0 o1 o2 o3 zr0 zr1 zr2 zr3 zo0 zo1 zo2 zo3
 obtain ⟨fa, fr, fo, fzr, fzo⟩ := HAW.out.grown hg4 HNW.out
 have a7 := fa 7
 have r0 := fr 0
 have r1 := fr 1
 have r2 := fr 2
 have r3 := fr 3
 have o0 := fo 0
 have o1 := fo 1
 have o2 := fo 2
 have o3 := fo 3
 have zr0 := fzr 0
 have zr1 := fzr 1
 have zr2 := fzr 2
 have zr3 := fzr 3
 have zo0 := fzo 0
 have zo1 := fzo 1
 have zo2 := fzo 2
 have zo3 := fzo 3
 simp only [ActV.cells, rplZ, List.getElem?_toArray, List.getElem?_cons_zero, List.getElem?_cons_succ] at a7 r0 r1 r2 r3 o0 o1 o2 o3
 clear fa fr fo fzr fzo
 clear hm4 hg4
 go_wp2_with fail
 refine bodyPost_ret (v := .agg #[.int .i64 (giveS x q ⟨ad, bt⟩).2, .slice none 0 0, .int .i64 0, .slice none 0 0]) (by simp [results, Tryz.results42, go_sem, World.cell?_setCell_other, *]) rfl ?_
 rw [HA.out]
 apply act_fin HAW.out (Y := gapX X w W3)
 case hX => exact fun k h => .inl h
 case hYR =>
  have h9 := HAW.out.sz
  (try simp only [World.setCell, Array.size_modify] at h9)
  exact .inr (by omega)
 case hYO =>
  have h9 := HAW.out.sz
  (try simp only [World.setCell, Array.size_modify] at h9)
  exact .inr (by omega)
 case hn => exact HM4.out
 case hg => exact HG4.out
 case hN => exact HNW.out
 case hs => simp [World.setCell]
 case ho => repeat rw [os_setCell']
 case ht => repeat rw [tape_setCell']
 case hu => repeat rw [output_setCell']
 case hk =>
  intro k _ h1 h2
  repeat rw [Below.heap_setCell _ _ _ _ (by first | exact h1 | exact h2)]
 case hp => exact SlF.nil _ _ _
 case hq => exact SlF.nil _ _ _
 case hc => rfl
 case hd => rfl
end Go.Proofs.YtbhbilenbbldnaaGreatDoor

namespace Go.Proofs.YtbhbilenbbldnaaGreatDoor
open Go Go.RowKit Go.Deep
set_option maxRecDepth 50000 in
set_option maxHeartbeats 2000000 in
theorem nact5_any {X : Nat → Prop} (N q : Nat) (b n m ad bt : Int) (key value : ByteArray) (x : Net) (w : World) (h : NetM X w N x) (hx : NetOk x) (hE : EnvN N w) (hc : (⟨5, q, b, n, m, ⟨ad, bt⟩, key, value⟩ : ActV).wf) (hia : isN (q : Int) = true) :
  Calls Tryz.prog 42 #[.pointer (some ⟨N, 0, none⟩), (⟨5, q, b, n, m, ⟨ad, bt⟩, key, value⟩ : ActV).agg] w (ActN X N (actS x ⟨5, q, b, n, m, ⟨ad, bt⟩, key, value⟩) w) := by
 have HM := Go.Lib.hid h
 have HNW := Go.Lib.hid h.lt
 have HX := Go.Lib.hid hx
 have HC := Go.Lib.hid hc
 obtain ⟨W3, A, R, O, hA3, hR3, hO3, hW3, haw⟩ := actW_ex w 5 q b n m ad bt key value
 have HA3 := Go.Lib.hid hA3
 have HR3 := Go.Lib.hid hR3
 have HO3 := Go.Lib.hid hO3
 have HW3 := Go.Lib.hid hW3
 have HAW := Go.Lib.hid haw
 have HI := Go.Lib.hid (nis_any (q : Int) W3 hia)
 have HM3 := Go.Lib.hid (h.gap haw.b)
 have HE3 := Go.Lib.hid (hE.below haw.b (Nat.le_of_lt h.lt))
 obtain ⟨ia0, ia1⟩ := (isN_iff (q : Int)).1 hia
 have hq : q < 12 := by omega
 have HQ := Go.Lib.hid hq
 have HA0 := Go.Lib.hid (act_go (x := x) (c := ⟨5, q, b, n, m, ⟨ad, bt⟩, key, value⟩) (show ¬ ((5 : Int) < 1 ∨ 10 < (5 : Int)) by decide) hia (a := q) (k := 5) rfl rfl)
 obtain ⟨wk, wa, wb, wn, wm, wad, wbt, wke, wva⟩ := HC.out
 unfold ActV.agg
 clear hA3 hR3 hO3 hW3 haw h hx hE hc hia
 have HA := Go.Lib.hid (HA0.out.trans (show _ = ((takeS x q ⟨ad, bt⟩).1, ⟨(takeS x q ⟨ad, bt⟩).2, [], 0, []⟩) from rfl))
 have HCALL := Go.Lib.hid (ntake_any N q ⟨ad, bt⟩ x W3 HM3.out HQ.out HX.out)
 clear HA0
 go_enter Tryz.func42, Tryz.ntmps42
 go_wp2_with fail
 rw [HW3.out, ← HO3.out, ← HR3.out, ← HA3.out]
 clear HW3 HO3 HR3 HA3
 refine HI.out.mono ?_
 rintro e w' ⟨rfl, rfl⟩
 have a0 := HAW.out.a 0
 have a1 := HAW.out.a 1
 have a2 := HAW.out.a 2
 have a3 := HAW.out.a 3
 have a4 := HAW.out.a 4
 have a5 := HAW.out.a 5
 have a6 := HAW.out.a 6
 have a7 := HAW.out.a 7
 have a8 := HAW.out.a 8
 have r0 := HAW.out.r 0
 have r1 := HAW.out.r 1
 have r2 := HAW.out.r 2
 have r3 := HAW.out.r 3
 have o0 := HAW.out.o 0
 have o1 := HAW.out.o 1
 have o2 := HAW.out.o 2
 have o3 := HAW.out.o 3
 have zr0 := HAW.out.fr 0
 have zr1 := HAW.out.fr 1
 have zr2 := HAW.out.fr 2
 have zr3 := HAW.out.fr 3
 have zo0 := HAW.out.fo 0
 have zo1 := HAW.out.fo 1
 have zo2 := HAW.out.fo 2
 have zo3 := HAW.out.fo 3
 simp only [ActV.cells, rplZ, List.getElem?_toArray, List.getElem?_cons_zero, List.getElem?_cons_succ] at a0 a1 a2 a3 a4 a5 a6 a7 a8 r0 r1 r2 r3 o0 o1 o2 o3
 have hRO : ¬ R = O := by have := HAW.out.sz; omega
 have hOR : ¬ O = R := fun e => hRO e.symm
 go_wp2_with fail
 refine HCALL.out.mono ?_
 rintro e w4 ⟨rfl, hm4, hg4⟩
 have HM4 := Go.Lib.hid hm4
 have HG4 := Go.Lib.hid hg4
 clear a0 a1 a2 a3 a4 a5 a6 a7 a8 r0 r1 r2 r3 o0 o1 o2 o3 zr0 zr1 zr2 zr3 zo0 zo1 zo2 zo3
 obtain ⟨fa, fr, fo, fzr, fzo⟩ := HAW.out.grown hg4 HNW.out
 have a7 := fa 7
 have r0 := fr 0
 have r1 := fr 1
 have r2 := fr 2
 have r3 := fr 3
 have o0 := fo 0
 have o1 := fo 1
 have o2 := fo 2
 have o3 := fo 3
 have zr0 := fzr 0
 have zr1 := fzr 1
 have zr2 := fzr 2
 have zr3 := fzr 3
 have zo0 := fzo 0
 have zo1 := fzo 1
 have zo2 := fzo 2
 have zo3 := fzo 3
 simp only [ActV.cells, rplZ, List.getElem?_toArray, List.getElem?_cons_zero, List.getElem?_cons_succ] at a7 r0 r1 r2 r3 o0 o1 o2 o3
 clear fa fr fo fzr fzo
 clear hm4 hg4
 go_wp2_with fail
 refine bodyPost_ret (v := .agg #[.int .i64 (takeS x q ⟨ad, bt⟩).2, .slice none 0 0, .int .i64 0, .slice none 0 0]) (by simp [results, Tryz.results42, go_sem, World.cell?_setCell_other, *]) rfl ?_
 rw [HA.out]
 apply act_fin HAW.out (Y := gapX X w W3)
 case hX => exact fun k h => .inl h
 case hYR =>
  have h9 := HAW.out.sz
  (try simp only [World.setCell, Array.size_modify] at h9)
  exact .inr (by omega)
 case hYO =>
  have h9 := HAW.out.sz
  (try simp only [World.setCell, Array.size_modify] at h9)
  exact .inr (by omega)
 case hn => exact HM4.out
 case hg => exact HG4.out
 case hN => exact HNW.out
 case hs => simp [World.setCell]
 case ho => repeat rw [os_setCell']
 case ht => repeat rw [tape_setCell']
 case hu => repeat rw [output_setCell']
 case hk =>
  intro k _ h1 h2
  repeat rw [Below.heap_setCell _ _ _ _ (by first | exact h1 | exact h2)]
 case hp => exact SlF.nil _ _ _
 case hq => exact SlF.nil _ _ _
 case hc => rfl
 case hd => rfl
end Go.Proofs.YtbhbilenbbldnaaGreatDoor

namespace Go.Proofs.YtbhbilenbbldnaaGreatDoor
open Go Go.RowKit Go.Deep
set_option maxRecDepth 50000 in
set_option maxHeartbeats 2000000 in
theorem nact6_any {X : Nat → Prop} (N q : Nat) (b n m ad bt : Int) (key value : ByteArray) (x : Net) (w : World) (h : NetM X w N x) (hx : NetOk x) (hE : EnvN N w) (hc : (⟨6, q, b, n, m, ⟨ad, bt⟩, key, value⟩ : ActV).wf) (hia : isN (q : Int) = true) :
  Calls Tryz.prog 42 #[.pointer (some ⟨N, 0, none⟩), (⟨6, q, b, n, m, ⟨ad, bt⟩, key, value⟩ : ActV).agg] w (ActN X N (actS x ⟨6, q, b, n, m, ⟨ad, bt⟩, key, value⟩) w) := by
 have HM := Go.Lib.hid h
 have HNW := Go.Lib.hid h.lt
 have HX := Go.Lib.hid hx
 have HC := Go.Lib.hid hc
 obtain ⟨W3, A, R, O, hA3, hR3, hO3, hW3, haw⟩ := actW_ex w 6 q b n m ad bt key value
 have HA3 := Go.Lib.hid hA3
 have HR3 := Go.Lib.hid hR3
 have HO3 := Go.Lib.hid hO3
 have HW3 := Go.Lib.hid hW3
 have HAW := Go.Lib.hid haw
 have HI := Go.Lib.hid (nis_any (q : Int) W3 hia)
 have HM3 := Go.Lib.hid (h.gap haw.b)
 have HE3 := Go.Lib.hid (hE.below haw.b (Nat.le_of_lt h.lt))
 obtain ⟨ia0, ia1⟩ := (isN_iff (q : Int)).1 hia
 have hq : q < 12 := by omega
 have HQ := Go.Lib.hid hq
 have HA0 := Go.Lib.hid (act_go (x := x) (c := ⟨6, q, b, n, m, ⟨ad, bt⟩, key, value⟩) (show ¬ ((6 : Int) < 1 ∨ 10 < (6 : Int)) by decide) hia (a := q) (k := 6) rfl rfl)
 obtain ⟨wk, wa, wb, wn, wm, wad, wbt, wke, wva⟩ := HC.out
 unfold ActV.agg
 clear hA3 hR3 hO3 hW3 haw h hx hE hc hia
 have HA := Go.Lib.hid (HA0.out.trans (show _ = ((tellS x q).1, ⟨(tellS x q).2.2, [], 0, (tellS x q).2.1⟩) from rfl))
 have HCALL := Go.Lib.hid (ntell_any N q x W3 HM3.out HQ.out HX.out HE3.out)
 obtain ⟨y, ks, cd, hts⟩ : ∃ y ks cd, tellS x q = (y, ks, cd) := ⟨_, _, _, rfl⟩
 rw [hts] at HA HCALL
 clear HA0 hts
 go_enter Tryz.func42, Tryz.ntmps42
 go_wp2_with fail
 rw [HW3.out, ← HO3.out, ← HR3.out, ← HA3.out]
 clear HW3 HO3 HR3 HA3
 refine HI.out.mono ?_
 rintro e w' ⟨rfl, rfl⟩
 have a0 := HAW.out.a 0
 have a1 := HAW.out.a 1
 have a2 := HAW.out.a 2
 have a3 := HAW.out.a 3
 have a4 := HAW.out.a 4
 have a5 := HAW.out.a 5
 have a6 := HAW.out.a 6
 have a7 := HAW.out.a 7
 have a8 := HAW.out.a 8
 have r0 := HAW.out.r 0
 have r1 := HAW.out.r 1
 have r2 := HAW.out.r 2
 have r3 := HAW.out.r 3
 have o0 := HAW.out.o 0
 have o1 := HAW.out.o 1
 have o2 := HAW.out.o 2
 have o3 := HAW.out.o 3
 have zr0 := HAW.out.fr 0
 have zr1 := HAW.out.fr 1
 have zr2 := HAW.out.fr 2
 have zr3 := HAW.out.fr 3
 have zo0 := HAW.out.fo 0
 have zo1 := HAW.out.fo 1
 have zo2 := HAW.out.fo 2
 have zo3 := HAW.out.fo 3
 simp only [ActV.cells, rplZ, List.getElem?_toArray, List.getElem?_cons_zero, List.getElem?_cons_succ] at a0 a1 a2 a3 a4 a5 a6 a7 a8 r0 r1 r2 r3 o0 o1 o2 o3
 have hRO : ¬ R = O := by have := HAW.out.sz; omega
 have hOR : ¬ O = R := fun e => hRO e.symm
 go_wp2_with fail
 refine HCALL.out.mono ?_
 rintro e w4 ⟨vk, rfl, hk4, hm4, hg4⟩
 have HM4 := Go.Lib.hid hm4
 have HG4 := Go.Lib.hid hg4
 have HK4 := Go.Lib.hid hk4
 obtain ⟨Ak, nk, ck, rfl⟩ : ∃ A n c, vk = .slice A n c := by obtain ⟨A, c, e, _⟩ := hk4; exact ⟨A, _, c, e⟩
 clear a0 a1 a2 a3 a4 a5 a6 a7 a8 r0 r1 r2 r3 o0 o1 o2 o3 zr0 zr1 zr2 zr3 zo0 zo1 zo2 zo3
 obtain ⟨fa, fr, fo, fzr, fzo⟩ := HAW.out.grown hg4 HNW.out
 have a7 := fa 7
 have r0 := fr 0
 have r1 := fr 1
 have r2 := fr 2
 have r3 := fr 3
 have o0 := fo 0
 have o1 := fo 1
 have o2 := fo 2
 have o3 := fo 3
 have zr0 := fzr 0
 have zr1 := fzr 1
 have zr2 := fzr 2
 have zr3 := fzr 3
 have zo0 := fzo 0
 have zo1 := fzo 1
 have zo2 := fzo 2
 have zo3 := fzo 3
 simp only [ActV.cells, rplZ, List.getElem?_toArray, List.getElem?_cons_zero, List.getElem?_cons_succ] at a7 r0 r1 r2 r3 o0 o1 o2 o3
 clear fa fr fo fzr fzo
 clear hm4 hg4 hk4
 go_wp2_with fail
 refine bodyPost_ret (v := .agg #[.int .i64 cd, .slice none 0 0, .int .i64 0, .slice Ak nk ck]) (by simp [results, Tryz.results42, go_sem, World.cell?_setCell_other, *]) rfl ?_
 rw [HA.out]
 apply act_fin HAW.out (Y := gapX X w W3)
 case hX => exact fun k h => .inl h
 case hYR =>
  have h9 := HAW.out.sz
  (try simp only [World.setCell, Array.size_modify] at h9)
  exact .inr (by omega)
 case hYO =>
  have h9 := HAW.out.sz
  (try simp only [World.setCell, Array.size_modify] at h9)
  exact .inr (by omega)
 case hn => exact HM4.out
 case hg => exact HG4.out
 case hN => exact HNW.out
 case hs => simp [World.setCell]
 case ho => repeat rw [os_setCell']
 case ht => repeat rw [tape_setCell']
 case hu => repeat rw [output_setCell']
 case hk =>
  intro k _ h1 h2
  repeat rw [Below.heap_setCell _ _ _ _ (by first | exact h1 | exact h2)]
 case hp => exact SlF.nil _ _ _
 case hq => exact HK4.out
 case hc => rfl
 case hd => rfl
end Go.Proofs.YtbhbilenbbldnaaGreatDoor

namespace Go.Proofs.YtbhbilenbbldnaaGreatDoor
open Go Go.RowKit Go.Deep
set_option maxRecDepth 50000 in
set_option maxHeartbeats 2000000 in
theorem nact7_any {X : Nat → Prop} (N q : Nat) (b n m ad bt : Int) (key value : ByteArray) (x : Net) (w : World) (h : NetM X w N x) (hx : NetOk x) (hE : EnvN N w) (hc : (⟨7, q, b, n, m, ⟨ad, bt⟩, key, value⟩ : ActV).wf) (hia : isN (q : Int) = true) :
  Calls Tryz.prog 42 #[.pointer (some ⟨N, 0, none⟩), (⟨7, q, b, n, m, ⟨ad, bt⟩, key, value⟩ : ActV).agg] w (ActN X N (actS x ⟨7, q, b, n, m, ⟨ad, bt⟩, key, value⟩) w) := by
 have HM := Go.Lib.hid h
 have HNW := Go.Lib.hid h.lt
 have HX := Go.Lib.hid hx
 have HC := Go.Lib.hid hc
 obtain ⟨W3, A, R, O, hA3, hR3, hO3, hW3, haw⟩ := actW_ex w 7 q b n m ad bt key value
 have HA3 := Go.Lib.hid hA3
 have HR3 := Go.Lib.hid hR3
 have HO3 := Go.Lib.hid hO3
 have HW3 := Go.Lib.hid hW3
 have HAW := Go.Lib.hid haw
 have HI := Go.Lib.hid (nis_any (q : Int) W3 hia)
 have HM3 := Go.Lib.hid (h.gap haw.b)
 have HE3 := Go.Lib.hid (hE.below haw.b (Nat.le_of_lt h.lt))
 obtain ⟨ia0, ia1⟩ := (isN_iff (q : Int)).1 hia
 have hq : q < 12 := by omega
 have HQ := Go.Lib.hid hq
 have HA0 := Go.Lib.hid (act_go (x := x) (c := ⟨7, q, b, n, m, ⟨ad, bt⟩, key, value⟩) (show ¬ ((7 : Int) < 1 ∨ 10 < (7 : Int)) by decide) hia (a := q) (k := 7) rfl rfl)
 obtain ⟨wk, wa, wb, wn, wm, wad, wbt, wke, wva⟩ := HC.out
 unfold ActV.agg
 clear hA3 hR3 hO3 hW3 haw h hx hE hc hia
 have HA := Go.Lib.hid (HA0.out.trans (show _ = ((sendS x q b n).1, ⟨(sendS x q b n).2.2, [], 0, (sendS x q b n).2.1⟩) from rfl))
 have HCALL := Go.Lib.hid (nsend_any N q b n x W3 HM3.out HQ.out HX.out wn)
 obtain ⟨y, ks, cd, hts⟩ : ∃ y ks cd, sendS x q b n = (y, ks, cd) := ⟨_, _, _, rfl⟩
 rw [hts] at HA HCALL
 clear HA0 hts
 go_enter Tryz.func42, Tryz.ntmps42
 go_wp2_with fail
 rw [HW3.out, ← HO3.out, ← HR3.out, ← HA3.out]
 clear HW3 HO3 HR3 HA3
 refine HI.out.mono ?_
 rintro e w' ⟨rfl, rfl⟩
 have a0 := HAW.out.a 0
 have a1 := HAW.out.a 1
 have a2 := HAW.out.a 2
 have a3 := HAW.out.a 3
 have a4 := HAW.out.a 4
 have a5 := HAW.out.a 5
 have a6 := HAW.out.a 6
 have a7 := HAW.out.a 7
 have a8 := HAW.out.a 8
 have r0 := HAW.out.r 0
 have r1 := HAW.out.r 1
 have r2 := HAW.out.r 2
 have r3 := HAW.out.r 3
 have o0 := HAW.out.o 0
 have o1 := HAW.out.o 1
 have o2 := HAW.out.o 2
 have o3 := HAW.out.o 3
 have zr0 := HAW.out.fr 0
 have zr1 := HAW.out.fr 1
 have zr2 := HAW.out.fr 2
 have zr3 := HAW.out.fr 3
 have zo0 := HAW.out.fo 0
 have zo1 := HAW.out.fo 1
 have zo2 := HAW.out.fo 2
 have zo3 := HAW.out.fo 3
 simp only [ActV.cells, rplZ, List.getElem?_toArray, List.getElem?_cons_zero, List.getElem?_cons_succ] at a0 a1 a2 a3 a4 a5 a6 a7 a8 r0 r1 r2 r3 o0 o1 o2 o3
 have hRO : ¬ R = O := by have := HAW.out.sz; omega
 have hOR : ¬ O = R := fun e => hRO e.symm
 go_wp2_with fail
 refine HCALL.out.mono ?_
 rintro e w4 ⟨vk, rfl, hk4, hm4, hg4⟩
 have HM4 := Go.Lib.hid hm4
 have HG4 := Go.Lib.hid hg4
 have HK4 := Go.Lib.hid hk4
 obtain ⟨Ak, nk, ck, rfl⟩ : ∃ A n c, vk = .slice A n c := by obtain ⟨A, c, e, _⟩ := hk4; exact ⟨A, _, c, e⟩
 clear a0 a1 a2 a3 a4 a5 a6 a7 a8 r0 r1 r2 r3 o0 o1 o2 o3 zr0 zr1 zr2 zr3 zo0 zo1 zo2 zo3
 obtain ⟨fa, fr, fo, fzr, fzo⟩ := HAW.out.grown hg4 HNW.out
 have a7 := fa 7
 have r0 := fr 0
 have r1 := fr 1
 have r2 := fr 2
 have r3 := fr 3
 have o0 := fo 0
 have o1 := fo 1
 have o2 := fo 2
 have o3 := fo 3
 have zr0 := fzr 0
 have zr1 := fzr 1
 have zr2 := fzr 2
 have zr3 := fzr 3
 have zo0 := fzo 0
 have zo1 := fzo 1
 have zo2 := fzo 2
 have zo3 := fzo 3
 simp only [ActV.cells, rplZ, List.getElem?_toArray, List.getElem?_cons_zero, List.getElem?_cons_succ] at a7 r0 r1 r2 r3 o0 o1 o2 o3
 clear fa fr fo fzr fzo
 clear hm4 hg4 hk4
 go_wp2_with fail
 refine bodyPost_ret (v := .agg #[.int .i64 cd, .slice none 0 0, .int .i64 0, .slice Ak nk ck]) (by simp [results, Tryz.results42, go_sem, World.cell?_setCell_other, *]) rfl ?_
 rw [HA.out]
 apply act_fin HAW.out (Y := gapX X w W3)
 case hX => exact fun k h => .inl h
 case hYR =>
  have h9 := HAW.out.sz
  (try simp only [World.setCell, Array.size_modify] at h9)
  exact .inr (by omega)
 case hYO =>
  have h9 := HAW.out.sz
  (try simp only [World.setCell, Array.size_modify] at h9)
  exact .inr (by omega)
 case hn => exact HM4.out
 case hg => exact HG4.out
 case hN => exact HNW.out
 case hs => simp [World.setCell]
 case ho => repeat rw [os_setCell']
 case ht => repeat rw [tape_setCell']
 case hu => repeat rw [output_setCell']
 case hk =>
  intro k _ h1 h2
  repeat rw [Below.heap_setCell _ _ _ _ (by first | exact h1 | exact h2)]
 case hp => exact SlF.nil _ _ _
 case hq => exact HK4.out
 case hc => rfl
 case hd => rfl
end Go.Proofs.YtbhbilenbbldnaaGreatDoor

namespace Go.Proofs.YtbhbilenbbldnaaGreatDoor
open Go Go.RowKit Go.Deep
theorem ActW.below {oz : Array Value} {w W W' : World} {A R O : Nat} {c : ActV} (h : ActW oz w W A R O c) (hb : Below W.heap.size W W') : ActW oz w W' A R O c := by
 obtain ⟨s1, s2, s3, s4⟩ := h.sz
 have hs := hb.size
 exact ⟨h.b.trans (hb.mono h.b.size), ⟨s1, s2, s3, by omega⟩, fun i => (hb.cell (p := ⟨A, i, none⟩) (by show A < _; omega)).trans (h.a i), fun i => (hb.cell (p := ⟨R, i, none⟩) (by show R < _; omega)).trans (h.r i), fun i => (hb.cell (p := ⟨O, i, none⟩) s4).trans (h.o i),
  fun i => (hb.frozen (p := ⟨R, i, none⟩) (by show R < _; omega)).trans (h.fr i), fun i => (hb.frozen (p := ⟨O, i, none⟩) s4).trans (h.fo i)⟩
theorem ActW.setCode {w W : World} {A R O : Nat} {c : ActV} (h : ActW rplZ w W A R O c) (n : Int) : ActW #[.int .i64 n, .slice none 0 0, .int .i64 0, .slice none 0 0] w (W.setCell ⟨O, 0, none⟩ (.int .i64 n)) A R O c := by
 obtain ⟨s1, s2, s3, s4⟩ := h.sz
 have hne : ∀ {B i : Nat}, B ≠ O → (W.setCell ⟨O, 0, none⟩ (.int .i64 n)).cell? ⟨B, i, none⟩ = W.cell? ⟨B, i, none⟩ := fun hB => World.cell?_setCell_other _ _ _ _ (by intro e; injection e with e _ _; exact hB e.symm)
 refine ⟨h.b.setCell (by show w.heap.size ≤ O; omega) _, ⟨s1, s2, s3, by simpa [World.setCell] using s4⟩, fun i => (hne (by omega)).trans (h.a i), fun i => (hne (by omega)).trans (h.r i), fun i => ?_, fun i => ?_, fun i => ?_⟩
 · by_cases e : i = 0
   · subst e
     exact World.cell?_setCell_same' _ _ _ (by rw [h.o 0]; rfl)
   · rw [World.cell?_setCell_other _ _ _ _ (by intro e2; injection e2 with _ e3 _; omega), h.o i]
     obtain ⟨j, rfl⟩ : ∃ j, i = j + 1 := ⟨i - 1, by omega⟩
     rfl
 · rw [World.frozen?_setCell]; exact h.fr i
 · rw [World.frozen?_setCell]; exact h.fo i
theorem act_fin2 {oz : Array Value} {N : Nat} {r : Net × Rpl} {w W W1 W2 : World} {A R O : Nat} {X Y : Nat → Prop} {c : ActV} (h : ActW oz w W A R O c) (hX : ∀ k, X k → Y k) (hYR : Y R) (hYO : Y O) (hn : NetM Y W1 N r.1) (hg : w.grownBy W1 (some N)) (hz : W.heap.size ≤ W1.heap.size) (hN : N < w.heap.size)
  (hs : W1.heap.size ≤ W2.heap.size) (ho : W2.os = W1.os) (ht : W2.tape = W1.tape) (hu : W2.output = W1.output) (hk : ∀ k, k < W1.heap.size → k ≠ R → k ≠ O → W2.heap[k]? = W1.heap[k]?) {vp vk : Value} (hp : SlF intR W.heap.size W1 vp r.2.path) (hq : SlF strR W.heap.size W1 vk r.2.keys) {code cost : Int} (hc : code = r.2.code) (hd : cost = r.2.cost) :
  ActN X N r w (.returned (.agg #[.int .i64 code, vp, .int .i64 cost, vk])) W2 := by
 obtain ⟨s1, s2, s3, s4⟩ := h.sz
 have hws := h.b.size
 subst hc hd
 refine ⟨vp, vk, rfl, ?_, ?_, ?_, ?_⟩
 · exact SlR.keep hp (fun k hk' => hk k hk'.1 (by have := hk'.2; omega) (by have := hk'.2; omega)) (fun k hk' => ⟨Nat.lt_of_lt_of_le hk'.1 hs, Nat.le_trans hws hk'.2⟩)
 · exact SlR.keep hq (fun k hk' => hk k hk'.1 (by have := hk'.2; omega) (by have := hk'.2; omega)) (fun k hk' => ⟨Nat.lt_of_lt_of_le hk'.1 hs, Nat.le_trans hws hk'.2⟩)
 · exact hn.keepB (fun k _ hz' => ⟨hz'.1, fun e => hz'.2 (hX k e)⟩) (hk N (by omega) (by omega) (by omega)) (fun k hk' hz' => hk k hk' (fun e => hz'.2 (e ▸ hYR)) (fun e => hz'.2 (e ▸ hYO))) hs (fun k hk' e => hn.top k (Nat.le_trans hs hk') (hX k e))
 · refine ⟨ho.trans hg.os, ht.trans hg.tape, hu.trans hg.output, by omega, fun k hk' hne => ?_⟩
   rw [hk k (by omega) (by omega) (by omega), hg.block k hk' hne]
theorem alloc_congr {w w' : World} {o : Obj} {k : Nat} (hs : w.heap.size = w'.heap.size) (hk : w.heap[k]? = w'.heap[k]?) : (w.alloc o).heap[k]? = (w'.alloc o).heap[k]? := by
 show (w.heap.push o)[k]? = (w'.heap.push o)[k]?
 rw [Array.getElem?_push, Array.getElem?_push, hs, hk]
theorem os_alloc' (w : World) (o : Obj) : (w.alloc o).os = w.os := rfl
theorem tape_alloc' (w : World) (o : Obj) : (w.alloc o).tape = w.tape := rfl
theorem output_alloc' (w : World) (o : Obj) : (w.alloc o).output = w.output := rfl
set_option maxRecDepth 50000 in
set_option maxHeartbeats 2000000 in
theorem nact8_any {X : Nat → Prop} (N q : Nat) (b n m ad bt : Int) (key value : ByteArray) (x : Net) (w : World) (h : NetM X w N x) (hx : NetOk x) (hE : EnvN N w) (hc : (⟨8, q, b, n, m, ⟨ad, bt⟩, key, value⟩ : ActV).wf) (hia : isN (q : Int) = true) :
  Calls Tryz.prog 42 #[.pointer (some ⟨N, 0, none⟩), (⟨8, q, b, n, m, ⟨ad, bt⟩, key, value⟩ : ActV).agg] w (ActN X N (actS x ⟨8, q, b, n, m, ⟨ad, bt⟩, key, value⟩) w) := by
 have HM := Go.Lib.hid h
 have HNW := Go.Lib.hid h.lt
 have HX := Go.Lib.hid hx
 have HC := Go.Lib.hid hc
 obtain ⟨W3, A, R, O, hA3, hR3, hO3, hW3, haw⟩ := actW_ex w 8 q b n m ad bt key value
 have HA3 := Go.Lib.hid hA3
 have HR3 := Go.Lib.hid hR3
 have HO3 := Go.Lib.hid hO3
 have HW3 := Go.Lib.hid hW3
 have HAW := Go.Lib.hid haw
 have HI := Go.Lib.hid (nis_any (q : Int) W3 hia)
 have HM3 := Go.Lib.hid (h.gap haw.b)
 have HE3 := Go.Lib.hid (hE.below haw.b (Nat.le_of_lt h.lt))
 obtain ⟨ia0, ia1⟩ := (isN_iff (q : Int)).1 hia
 have hq : q < 12 := by omega
 have HQ := Go.Lib.hid hq
 have HA0 := Go.Lib.hid (act_go (x := x) (c := ⟨8, q, b, n, m, ⟨ad, bt⟩, key, value⟩) (show ¬ ((8 : Int) < 1 ∨ 10 < (8 : Int)) by decide) hia (a := q) (k := 8) rfl rfl)
 obtain ⟨wk, wa, wb, wn, wm, wad, wbt, wke, wva⟩ := HC.out
 unfold ActV.agg
 clear hA3 hR3 hO3 hW3 haw h hx hE hc hia
 obtain ⟨v, c0, s0⟩ := (HM3.out.nd q HQ.out).st
 obtain ⟨st, hst⟩ : ∃ st, st = (x.nd q).st := ⟨_, rfl⟩
 rw [← hst] at s0
 obtain ⟨s2, n2, hs2⟩ : ∃ s2 n2, putS st (q : Int) key value = (s2, n2) := ⟨_, _, rfl⟩
 have hws : writeS x q key value = if n2 ≠ 0 then (x, [], n2) else (x.setN q { x.nd q with st := s2 }, [key], 0) := by
  unfold writeS; rw [← hst, hs2]
 have HA1 := Go.Lib.hid (HA0.out.trans (show _ = ((writeS x q key value).1, ⟨(writeS x q key value).2.2, [], 0, (writeS x q key value).2.1⟩) from rfl))
 obtain ⟨A1, n1, c1, rfl⟩ : ∃ A n c, v = .slice A n c := by obtain ⟨A, c, e, _⟩ := s0; exact ⟨A, _, c, e⟩
 have hpt := fun w' (hb : Below W3.heap.size W3 w') => put_any (.slice A1 n1 c1) st (q : Int) key value w' (Sl.below (SlN.sl s0) hb) wa wke wva
 unfold PutPost at hpt
 simp only [hs2] at hpt
 have HPT := Go.Lib.hid hpt
 have HKE := Go.Lib.hid wke
 have HWS := Go.Lib.hid hws
 clear s0 hst hs2 hws hpt HA0
 go_enter Tryz.func42, Tryz.ntmps42
 go_wp2_with fail
 rw [HW3.out, ← HO3.out, ← HR3.out, ← HA3.out]
 clear HW3 HO3 HR3 HA3
 refine HI.out.mono ?_
 rintro e w' ⟨rfl, rfl⟩
 have a0 := HAW.out.a 0
 have a1 := HAW.out.a 1
 have a2 := HAW.out.a 2
 have a3 := HAW.out.a 3
 have a4 := HAW.out.a 4
 have a5 := HAW.out.a 5
 have a6 := HAW.out.a 6
 have a7 := HAW.out.a 7
 have a8 := HAW.out.a 8
 have r0 := HAW.out.r 0
 have r1 := HAW.out.r 1
 have r2 := HAW.out.r 2
 have r3 := HAW.out.r 3
 have o0 := HAW.out.o 0
 have o1 := HAW.out.o 1
 have o2 := HAW.out.o 2
 have o3 := HAW.out.o 3
 have zr0 := HAW.out.fr 0
 have zr1 := HAW.out.fr 1
 have zr2 := HAW.out.fr 2
 have zr3 := HAW.out.fr 3
 have zo0 := HAW.out.fo 0
 have zo1 := HAW.out.fo 1
 have zo2 := HAW.out.fo 2
 have zo3 := HAW.out.fo 3
 simp only [ActV.cells, rplZ, List.getElem?_toArray, List.getElem?_cons_zero, List.getElem?_cons_succ] at a0 a1 a2 a3 a4 a5 a6 a7 a8 r0 r1 r2 r3 o0 o1 o2 o3
 have hRO : ¬ R = O := by have := HAW.out.sz; omega
 have hOR : ¬ O = R := fun e => hRO e.symm
 go_wp2_with fail
 have HKP := Go.Lib.hid (show ∀ w', Below W3.heap.size W3 w' → w'.cell? ⟨A, 1, none⟩ = some (.int .i64 (q : Int)) ∧ w'.cell? ⟨A, 7, none⟩ = some (.string key) ∧ w'.cell? ⟨A, 8, none⟩ = some (.string value) ∧ w'.cell? ⟨N, q * 4, none⟩ = some (.slice A1 n1 c1) from fun w' hb => ⟨cell_keep hb a1, cell_keep hb a7, cell_keep hb a8, cell_keep hb c0⟩)
 clear r0 r1 r2 r3 o0 o1 o2 o3 zr0 zr1 zr2 zr3 zo0 zo1 zo2 zo3
 go_region_held3 (fun w' => w'.cell? ⟨A, 1, none⟩ = some (.int .i64 (q : Int)) ∧ w'.cell? ⟨A, 7, none⟩ = some (.string key) ∧ w'.cell? ⟨A, 8, none⟩ = some (.string value) ∧ w'.cell? ⟨N, q * 4, none⟩ = some (.slice A1 n1 c1)) (first | go_keep | exact ⟨k1, k2, k3, k4⟩)
  (first
   | (go_at_call 70; refine (HPT.out _ (Below.refl _ _).drew).mono ?_; rintro e w4 ⟨v4, rfl, ho4, hb4⟩; obtain ⟨A4, n4, c4, rfl⟩ := ow_form ho4 (by decide); have HB4 := Go.Lib.hid ((Below.refl W3.heap.size W3).drew.trans hb4); have HO4 := Go.Lib.hid ho4; obtain ⟨k1, k2, k3, k4⟩ := HKP.out _ HB4.out; clear ho4 hb4))
 all_goals
  clear a0 a1 a2 a3 a4 a5 a6 a7 a8 c0 k1 k2 k3 k4
  have hA4 := HAW.out.below HB4.out
  have o0 := hA4.o 0
  have o1 := hA4.o 1
  have o2 := hA4.o 2
  have o3 := hA4.o 3
  have r0 := hA4.r 0
  have r1 := hA4.r 1
  have r2 := hA4.r 2
  have r3 := hA4.r 3
  have zr0 := hA4.fr 0
  have zr1 := hA4.fr 1
  have zr2 := hA4.fr 2
  have zr3 := hA4.fr 3
  have zo0 := hA4.fo 0
  simp only [rplZ, List.getElem?_toArray, List.getElem?_cons_zero, List.getElem?_cons_succ] at o0 o1 o2 o3 r0 r1 r2 r3
  have HM4 := Go.Lib.hid (HM3.out.below HB4.out)
  have HG4 := Go.Lib.hid (below_grownN N HB4.out)
  have HA5 := Go.Lib.hid (hA4.setCode n2)
  have HM5 := Go.Lib.hid (HM4.out.setGap (B := O) (o := 0) (u := .int .i64 n2) (by have := HAW.out.sz; have := HNW.out; omega) (.inr (by have := HAW.out.sz; omega)))
  have HG5 := Go.Lib.hid (grown_setN (u := .int .i64 n2) (o := 0) ((below_grownN N HAW.out.b).trans (below_grownN N HB4.out)) (show w.heap.size ≤ O by have := HAW.out.sz; omega))
  clear hA4
  by_cases hn2 : n2 = 0
  · subst hn2
    have HA := Go.Lib.hid (HA1.out.trans (by rw [HWS.out.trans (if_neg (by simp))] : _ = ((x.setN q { x.nd q with st := s2 }, ⟨0, [], 0, [key]⟩) : Net × Rpl)))
    have HZ5 := Go.Lib.hid (show W3.heap.size ≤ (w4.setCell ⟨O, 0, none⟩ (.int .i64 0)).heap.size by simpa [World.setCell] using HB4.out.size)
    have HS5 := Go.Lib.hid (show SlF entR W3.heap.size (w4.setCell ⟨O, 0, none⟩ (.int .i64 0)) (.slice A4 n4 c4) s2 from SlF.setLow (SlF.mono (HO4.out.slG (by decide) (fun _ _ _ _ h => flatEnt h)) (Nat.le_refl _)) (show O < W3.heap.size from HAW.out.sz.2.2.2))
    clear r0 r1 r2 r3 o1 o2 o3 zr0 zr1 zr2 zr3
    go_wp2_with fail
    obtain ⟨W5, hW5⟩ : ∃ x, x = w4.setCell ⟨O, 0, none⟩ (.int .i64 0) := ⟨_, rfl⟩
    rw [← hW5] at HA5 HM5 HG5 HZ5 HS5 ⊢
    clear hW5 o0 zo0
    have a1 := HA5.out.a 1
    simp only [ActV.cells, List.getElem?_toArray, List.getElem?_cons_zero, List.getElem?_cons_succ] at a1
    obtain ⟨vx, g1, gx⟩ := (HM5.out.nd q HQ.out).st
    have g2 := HM5.out.fz (q * 4)
    clear gx
    go_region_with (fail)
    all_goals
     have HM6 := Go.Lib.hid ((HM5.out.setSt HQ.out (HS5.out.toN (by have := HNW.out; have := HAW.out.b.size; omega) (fun k hk => HM3.out.top k hk))).below (Below.refl _ _).drew)
     have hg6 := (setCell_grown W5 N (q * 4) (.slice A4 n4 c4)).trans (below_grownN N (Below.refl _ _).drew)
     obtain ⟨W6, hW6⟩ : ∃ x, x = (W5.setCell ⟨N, q * 4, none⟩ (.slice A4 n4 c4)).drew := ⟨_, rfl⟩
     rw [← hW6] at HM6 hg6 ⊢
     have HG6 := Go.Lib.hid (HG5.out.trans hg6)
     have HZ6 := Go.Lib.hid (Nat.le_trans HZ5.out hg6.size)
     clear hW6 a1 g1 g2
     obtain ⟨fa, fr, fo, fzr, fzo⟩ := HA5.out.grown hg6 HNW.out
     have a7 := fa 7
     have r0 := fr 0
     have r1 := fr 1
     have r2 := fr 2
     have r3 := fr 3
     have o0 := fo 0
     have o1 := fo 1
     have o2 := fo 2
     have o3 := fo 3
     have zr0 := fzr 0
     have zr1 := fzr 1
     have zr2 := fzr 2
     have zr3 := fzr 3
     have zo3 := fzo 3
     simp only [ActV.cells, rplZ, List.getElem?_toArray, List.getElem?_cons_zero, List.getElem?_cons_succ] at a7 r0 r1 r2 r3 o0 o1 o2 o3
     have hal := (Below.refl W6.heap.size W6).alloc (Nat.le_refl _) (.cells #[.string key] 9)
     have HAL := Go.Lib.hid hal
     have r0 := cell_keep hal r0
     have r1 := cell_keep hal r1
     have r2 := cell_keep hal r2
     have r3 := cell_keep hal r3
     have o0 := cell_keep hal o0
     have o1 := cell_keep hal o1
     have o2 := cell_keep hal o2
     have o3 := cell_keep hal o3
     have hO6 : O < W6.heap.size := by have := HZ6.out; have := HAW.out.sz; omega
     have hR6 : R < W6.heap.size := by have := HZ6.out; have := HAW.out.sz; omega
     have zr0 := (hal.frozen (p := ⟨R, 0, none⟩) hR6).trans zr0
     have zr1 := (hal.frozen (p := ⟨R, 1, none⟩) hR6).trans zr1
     have zr2 := (hal.frozen (p := ⟨R, 2, none⟩) hR6).trans zr2
     have zr3 := (hal.frozen (p := ⟨R, 3, none⟩) hR6).trans zr3
     have zo3 := (hal.frozen (p := ⟨O, 3, none⟩) hO6).trans zo3
     have hO7 : ¬ O = W6.heap.size := by omega
     have hO8 : ¬ W6.heap.size = O := by omega
     have hR7 : ¬ R = W6.heap.size := by omega
     have hR8 : ¬ W6.heap.size = R := by omega
     have HKL := Go.Lib.hid (str_lit (w := W6) (base := W3.heap.size) (B := W6.heap.size) HKE.out HZ6.out rfl)
     clear fa fr fo fzr fzo hg6 hal
     go_wp2_with fail
     refine bodyPost_ret (v := .agg #[.int .i64 0, .slice none 0 0, .int .i64 0, .slice (some ⟨W6.heap.size, 0, none⟩) 1 1]) (by simp [results, Tryz.results42, go_sem, World.cell?_setCell_other, *]) rfl ?_
     rw [HA.out]
     apply act_fin2 HAW.out (Y := gapX X w W3) (W1 := W6.alloc (.cells #[.string key] 9))
     case hX => exact fun k h => .inl h
     case hYR => exact .inr (by have h9 := HAW.out.sz; omega)
     case hYO => exact .inr (by have h9 := HAW.out.sz; omega)
     case hn => exact HM6.out.below HAL.out
     case hg => exact HG6.out.trans (below_grownN N HAL.out)
     case hz => have := HZ6.out; rw [World.size_alloc]; omega
     case hN => exact HNW.out
     case hs => simp [World.setCell]
     case ho =>
      rw [os_alloc', os_alloc']
      repeat rw [os_setCell']
     case ht =>
      rw [tape_alloc', tape_alloc']
      repeat rw [tape_setCell']
     case hu =>
      rw [output_alloc', output_alloc']
      repeat rw [output_setCell']
     case hk =>
      intro k _ h1 h2
      refine alloc_congr (by simp [World.setCell]) ?_
      repeat rw [Below.heap_setCell _ _ _ _ (by first | exact h1 | exact h2)]
     case hp => exact SlF.nil _ _ _
     case hq => exact HKL.out.slG (by decide) (fun _ _ _ _ h => h)
     case hc => rfl
     case hd => rfl
  · have HA := Go.Lib.hid (HA1.out.trans (by rw [HWS.out.trans (if_pos hn2)] : _ = ((x, ⟨n2, [], 0, []⟩) : Net × Rpl)))
    have hnb : (n2 == 0) = false := by rw [beq_eq_false_iff_ne]; exact hn2
    clear HA1 HWS
    go_wp2_with fail
    refine bodyPost_ret (v := .agg #[.int .i64 n2, .slice none 0 0, .int .i64 0, .slice none 0 0]) (by simp [results, Tryz.results42, go_sem, World.cell?_setCell_other, *]) rfl ?_
    rw [HA.out]
    apply act_fin HAW.out (Y := gapX X w W3)
    case hX => exact fun k h => .inl h
    case hYR =>
     have h9 := HAW.out.sz
     (try simp only [World.setCell, Array.size_modify] at h9)
     exact .inr (by omega)
    case hYO =>
     have h9 := HAW.out.sz
     (try simp only [World.setCell, Array.size_modify] at h9)
     exact .inr (by omega)
    case hn => exact HM4.out
    case hg => exact HG4.out
    case hN => exact HNW.out
    case hs => simp [World.setCell]
    case ho => repeat rw [os_setCell']
    case ht => repeat rw [tape_setCell']
    case hu => repeat rw [output_setCell']
    case hk =>
     intro k _ h1 h2
     repeat rw [Below.heap_setCell _ _ _ _ (by first | exact h1 | exact h2)]
    case hp => exact SlF.nil _ _ _
    case hq => exact SlF.nil _ _ _
    case hc => rfl
    case hd => rfl
end Go.Proofs.YtbhbilenbbldnaaGreatDoor

namespace Go.Proofs.YtbhbilenbbldnaaGreatDoor
open Go Go.RowKit Go.Deep
set_option maxRecDepth 50000 in
set_option maxHeartbeats 2000000 in
theorem nact9_any {X : Nat → Prop} (N q : Nat) (b n m ad bt : Int) (key value : ByteArray) (x : Net) (w : World) (h : NetM X w N x) (hx : NetOk x) (hE : EnvN N w) (hc : (⟨9, q, b, n, m, ⟨ad, bt⟩, key, value⟩ : ActV).wf) (hia : isN (q : Int) = true) :
  Calls Tryz.prog 42 #[.pointer (some ⟨N, 0, none⟩), (⟨9, q, b, n, m, ⟨ad, bt⟩, key, value⟩ : ActV).agg] w (ActN X N (actS x ⟨9, q, b, n, m, ⟨ad, bt⟩, key, value⟩) w) := by
 have HM := Go.Lib.hid h
 have HNW := Go.Lib.hid h.lt
 have HX := Go.Lib.hid hx
 have HC := Go.Lib.hid hc
 obtain ⟨W3, A, R, O, hA3, hR3, hO3, hW3, haw⟩ := actW_ex w 9 q b n m ad bt key value
 have HA3 := Go.Lib.hid hA3
 have HR3 := Go.Lib.hid hR3
 have HO3 := Go.Lib.hid hO3
 have HW3 := Go.Lib.hid hW3
 have HAW := Go.Lib.hid haw
 have HI := Go.Lib.hid (nis_any (q : Int) W3 hia)
 have HM3 := Go.Lib.hid (h.gap haw.b)
 have HE3 := Go.Lib.hid (hE.below haw.b (Nat.le_of_lt h.lt))
 obtain ⟨ia0, ia1⟩ := (isN_iff (q : Int)).1 hia
 have hq : q < 12 := by omega
 have HQ := Go.Lib.hid hq
 have HA0 := Go.Lib.hid (act_go (x := x) (c := ⟨9, q, b, n, m, ⟨ad, bt⟩, key, value⟩) (show ¬ ((9 : Int) < 1 ∨ 10 < (9 : Int)) by decide) hia (a := q) (k := 9) rfl rfl)
 obtain ⟨wk, wa, wb, wn, wm, wad, wbt, wke, wva⟩ := HC.out
 unfold ActV.agg
 clear hA3 hR3 hO3 hW3 haw h hx hE hc hia
 have HA := Go.Lib.hid (HA0.out.trans (show _ = (decideS x q, rpl0) from rfl))
 have HCALL := Go.Lib.hid (ndecide_any N q x W3 HM3.out HQ.out HX.out HE3.out.env)
 clear HA0
 go_enter Tryz.func42, Tryz.ntmps42
 go_wp2_with fail
 rw [HW3.out, ← HO3.out, ← HR3.out, ← HA3.out]
 clear HW3 HO3 HR3 HA3
 refine HI.out.mono ?_
 rintro e w' ⟨rfl, rfl⟩
 have a0 := HAW.out.a 0
 have a1 := HAW.out.a 1
 have a2 := HAW.out.a 2
 have a3 := HAW.out.a 3
 have a4 := HAW.out.a 4
 have a5 := HAW.out.a 5
 have a6 := HAW.out.a 6
 have a7 := HAW.out.a 7
 have a8 := HAW.out.a 8
 have r0 := HAW.out.r 0
 have r1 := HAW.out.r 1
 have r2 := HAW.out.r 2
 have r3 := HAW.out.r 3
 have o0 := HAW.out.o 0
 have o1 := HAW.out.o 1
 have o2 := HAW.out.o 2
 have o3 := HAW.out.o 3
 have zr0 := HAW.out.fr 0
 have zr1 := HAW.out.fr 1
 have zr2 := HAW.out.fr 2
 have zr3 := HAW.out.fr 3
 have zo0 := HAW.out.fo 0
 have zo1 := HAW.out.fo 1
 have zo2 := HAW.out.fo 2
 have zo3 := HAW.out.fo 3
 simp only [ActV.cells, rplZ, List.getElem?_toArray, List.getElem?_cons_zero, List.getElem?_cons_succ] at a0 a1 a2 a3 a4 a5 a6 a7 a8 r0 r1 r2 r3 o0 o1 o2 o3
 have hRO : ¬ R = O := by have := HAW.out.sz; omega
 have hOR : ¬ O = R := fun e => hRO e.symm
 go_wp2_with fail
 refine HCALL.out.mono ?_
 rintro e w4 ⟨rfl, hm4, hg4⟩
 have HM4 := Go.Lib.hid hm4
 have HG4 := Go.Lib.hid hg4
 clear a0 a1 a2 a3 a4 a5 a6 a7 a8 r0 r1 r2 r3 o0 o1 o2 o3 zr0 zr1 zr2 zr3 zo0 zo1 zo2 zo3
 obtain ⟨fa, fr, fo, fzr, fzo⟩ := HAW.out.grown hg4 HNW.out
 have a7 := fa 7
 have r0 := fr 0
 have r1 := fr 1
 have r2 := fr 2
 have r3 := fr 3
 have o0 := fo 0
 have o1 := fo 1
 have o2 := fo 2
 have o3 := fo 3
 have zr0 := fzr 0
 have zr1 := fzr 1
 have zr2 := fzr 2
 have zr3 := fzr 3
 have zo0 := fzo 0
 have zo1 := fzo 1
 have zo2 := fzo 2
 have zo3 := fzo 3
 simp only [ActV.cells, rplZ, List.getElem?_toArray, List.getElem?_cons_zero, List.getElem?_cons_succ] at a7 r0 r1 r2 r3 o0 o1 o2 o3
 clear fa fr fo fzr fzo
 clear hm4 hg4
 go_wp2_with fail
 refine bodyPost_ret (v := .agg #[.int .i64 0, .slice none 0 0, .int .i64 0, .slice none 0 0]) (by simp [results, Tryz.results42, go_sem, World.cell?_setCell_other, *]) rfl ?_
 rw [HA.out]
 apply act_fin HAW.out (Y := gapX X w W3)
 case hX => exact fun k h => .inl h
 case hYR =>
  have h9 := HAW.out.sz
  (try simp only [World.setCell, Array.size_modify] at h9)
  exact .inr (by omega)
 case hYO =>
  have h9 := HAW.out.sz
  (try simp only [World.setCell, Array.size_modify] at h9)
  exact .inr (by omega)
 case hn => exact HM4.out
 case hg => exact HG4.out
 case hN => exact HNW.out
 case hs => simp [World.setCell]
 case ho => repeat rw [os_setCell']
 case ht => repeat rw [tape_setCell']
 case hu => repeat rw [output_setCell']
 case hk =>
  intro k _ h1 h2
  repeat rw [Below.heap_setCell _ _ _ _ (by first | exact h1 | exact h2)]
 case hp => exact SlF.nil _ _ _
 case hq => exact SlF.nil _ _ _
 case hc => rfl
 case hd => rfl
end Go.Proofs.YtbhbilenbbldnaaGreatDoor

namespace Go.Proofs.YtbhbilenbbldnaaGreatDoor
open Go Go.RowKit Go.Deep
set_option maxRecDepth 50000 in
set_option maxHeartbeats 2000000 in
theorem nact10_any {X : Nat → Prop} (N q : Nat) (b n m ad bt : Int) (key value : ByteArray) (x : Net) (w : World) (h : NetM X w N x) (hx : NetOk x) (hE : EnvN N w) (hc : (⟨10, q, b, n, m, ⟨ad, bt⟩, key, value⟩ : ActV).wf) (hia : isN (q : Int) = true) :
  Calls Tryz.prog 42 #[.pointer (some ⟨N, 0, none⟩), (⟨10, q, b, n, m, ⟨ad, bt⟩, key, value⟩ : ActV).agg] w (ActN X N (actS x ⟨10, q, b, n, m, ⟨ad, bt⟩, key, value⟩) w) := by
 have HM := Go.Lib.hid h
 have HNW := Go.Lib.hid h.lt
 have HX := Go.Lib.hid hx
 have HC := Go.Lib.hid hc
 obtain ⟨W3, A, R, O, hA3, hR3, hO3, hW3, haw⟩ := actW_ex w 10 q b n m ad bt key value
 have HA3 := Go.Lib.hid hA3
 have HR3 := Go.Lib.hid hR3
 have HO3 := Go.Lib.hid hO3
 have HW3 := Go.Lib.hid hW3
 have HAW := Go.Lib.hid haw
 have HI := Go.Lib.hid (nis_any (q : Int) W3 hia)
 have HM3 := Go.Lib.hid (h.gap haw.b)
 have HE3 := Go.Lib.hid (hE.below haw.b (Nat.le_of_lt h.lt))
 obtain ⟨ia0, ia1⟩ := (isN_iff (q : Int)).1 hia
 have hq : q < 12 := by omega
 have HQ := Go.Lib.hid hq
 have HA0 := Go.Lib.hid (act_go (x := x) (c := ⟨10, q, b, n, m, ⟨ad, bt⟩, key, value⟩) (show ¬ ((10 : Int) < 1 ∨ 10 < (10 : Int)) by decide) hia (a := q) (k := 10) rfl rfl)
 obtain ⟨wk, wa, wb, wn, wm, wad, wbt, wke, wva⟩ := HC.out
 unfold ActV.agg
 clear hA3 hR3 hO3 hW3 haw h hx hE hc hia
 have HA := Go.Lib.hid (HA0.out.trans (show _ = (x, ⟨(walkS x q n m).2.2, (walkS x q n m).1, (walkS x q n m).2.1, []⟩) from rfl))
 have HCALL := Go.Lib.hid (nwalk_any N q n m x W3 HM3.out HQ.out HX.out wn wm)
 obtain ⟨pp, cc, cd, hts⟩ : ∃ pp cc cd, walkS x q n m = (pp, cc, cd) := ⟨_, _, _, rfl⟩
 rw [hts] at HA HCALL
 clear HA0 hts
 go_enter Tryz.func42, Tryz.ntmps42
 go_wp2_with fail
 rw [HW3.out, ← HO3.out, ← HR3.out, ← HA3.out]
 clear HW3 HO3 HR3 HA3
 refine HI.out.mono ?_
 rintro e w' ⟨rfl, rfl⟩
 have a0 := HAW.out.a 0
 have a1 := HAW.out.a 1
 have a2 := HAW.out.a 2
 have a3 := HAW.out.a 3
 have a4 := HAW.out.a 4
 have a5 := HAW.out.a 5
 have a6 := HAW.out.a 6
 have a7 := HAW.out.a 7
 have a8 := HAW.out.a 8
 have r0 := HAW.out.r 0
 have r1 := HAW.out.r 1
 have r2 := HAW.out.r 2
 have r3 := HAW.out.r 3
 have o0 := HAW.out.o 0
 have o1 := HAW.out.o 1
 have o2 := HAW.out.o 2
 have o3 := HAW.out.o 3
 have zr0 := HAW.out.fr 0
 have zr1 := HAW.out.fr 1
 have zr2 := HAW.out.fr 2
 have zr3 := HAW.out.fr 3
 have zo0 := HAW.out.fo 0
 have zo1 := HAW.out.fo 1
 have zo2 := HAW.out.fo 2
 have zo3 := HAW.out.fo 3
 simp only [ActV.cells, rplZ, List.getElem?_toArray, List.getElem?_cons_zero, List.getElem?_cons_succ] at a0 a1 a2 a3 a4 a5 a6 a7 a8 r0 r1 r2 r3 o0 o1 o2 o3
 have hRO : ¬ R = O := by have := HAW.out.sz; omega
 have hOR : ¬ O = R := fun e => hRO e.symm
 go_wp2_with fail
 refine HCALL.out.mono ?_
 rintro e w4 ⟨vp, rfl, hp4, hm4, hb4⟩
 have hg4 := below_grownN N hb4
 have HM4 := Go.Lib.hid hm4
 have HG4 := Go.Lib.hid hg4
 have HP4 := Go.Lib.hid hp4
 obtain ⟨Ak, nk, ck, rfl⟩ : ∃ A n c, vp = .slice A n c := by obtain ⟨A, c, e, _⟩ := hp4; exact ⟨A, _, c, e⟩
 clear a0 a1 a2 a3 a4 a5 a6 a7 a8 r0 r1 r2 r3 o0 o1 o2 o3 zr0 zr1 zr2 zr3 zo0 zo1 zo2 zo3
 obtain ⟨fa, fr, fo, fzr, fzo⟩ := HAW.out.grown hg4 HNW.out
 have a7 := fa 7
 have r0 := fr 0
 have r1 := fr 1
 have r2 := fr 2
 have r3 := fr 3
 have o0 := fo 0
 have o1 := fo 1
 have o2 := fo 2
 have o3 := fo 3
 have zr0 := fzr 0
 have zr1 := fzr 1
 have zr2 := fzr 2
 have zr3 := fzr 3
 have zo0 := fzo 0
 have zo1 := fzo 1
 have zo2 := fzo 2
 have zo3 := fzo 3
 simp only [ActV.cells, rplZ, List.getElem?_toArray, List.getElem?_cons_zero, List.getElem?_cons_succ] at a7 r0 r1 r2 r3 o0 o1 o2 o3
 clear fa fr fo fzr fzo
 clear hm4 hg4 hp4 hb4
 go_wp2_with fail
 refine bodyPost_ret (v := .agg #[.int .i64 cd, .slice Ak nk ck, .int .i64 cc, .slice none 0 0]) (by simp [results, Tryz.results42, go_sem, World.cell?_setCell_other, *]) rfl ?_
 rw [HA.out]
 apply act_fin HAW.out (Y := gapX X w W3)
 case hX => exact fun k h => .inl h
 case hYR =>
  have h9 := HAW.out.sz
  (try simp only [World.setCell, Array.size_modify] at h9)
  exact .inr (by omega)
 case hYO =>
  have h9 := HAW.out.sz
  (try simp only [World.setCell, Array.size_modify] at h9)
  exact .inr (by omega)
 case hn => exact HM4.out
 case hg => exact HG4.out
 case hN => exact HNW.out
 case hs => simp [World.setCell]
 case ho => repeat rw [os_setCell']
 case ht => repeat rw [tape_setCell']
 case hu => repeat rw [output_setCell']
 case hk =>
  intro k _ h1 h2
  repeat rw [Below.heap_setCell _ _ _ _ (by first | exact h1 | exact h2)]
 case hp => exact HP4.out
 case hq => exact SlF.nil _ _ _
 case hc => rfl
 case hd => rfl
end Go.Proofs.YtbhbilenbbldnaaGreatDoor

namespace Go.Proofs.YtbhbilenbbldnaaGreatDoor
open Go Go.RowKit Go.Deep
set_option maxRecDepth 50000 in
set_option maxHeartbeats 2000000 in
theorem nact_any {X : Nat → Prop} (N : Nat) (c : ActV) (x : Net) (w : World) (h : NetM X w N x) (hx : NetOk x) (hE : EnvN N w) (hc : c.wf) :
  Calls Tryz.prog 42 #[.pointer (some ⟨N, 0, none⟩), c.agg] w (ActN X N (actS x c) w) := by
 obtain ⟨kd, a, b, n, m, ⟨ad, bt⟩, key, value⟩ := c
 have HM := Go.Lib.hid h
 by_cases hk : kd < 1 ∨ 10 < kd
 · have HA := Go.Lib.hid (act_kind (x := x) (c := ⟨kd, a, b, n, m, ⟨ad, bt⟩, key, value⟩) hk)
   have hk2 : kd < 1 ∨ (¬ kd < 1 ∧ 10 < kd) := by omega
   unfold ActV.agg
   rcases hk2 with hd | ⟨hd, hd2⟩
   · clear h hk hx hE hc
     go_enter Tryz.func42, Tryz.ntmps42
     go_wp2_with fail
     refine bodyPost_ret (v := .agg #[.int .i64 3, .slice none 0 0, .int .i64 0, .slice none 0 0]) (by simp [results, Tryz.results42, go_sem]) rfl ?_
     exact act_low HM.out HA.out (below3 _ _ _ _)
   · clear h hk hx hE hc
     go_enter Tryz.func42, Tryz.ntmps42
     go_wp2_with fail
     refine bodyPost_ret (v := .agg #[.int .i64 3, .slice none 0 0, .int .i64 0, .slice none 0 0]) (by simp [results, Tryz.results42, go_sem]) rfl ?_
     exact act_low HM.out HA.out (below3 _ _ _ _)
 · have hk4 : ¬ kd < 1 := by omega
   have hk5 : ¬ 10 < kd := by omega
   cases hia : isN a with
   | false =>
     have HA := Go.Lib.hid (act_node (x := x) (c := ⟨kd, a, b, n, m, ⟨ad, bt⟩, key, value⟩) hk hia)
     have HI := Go.Lib.hid (fun w => nis_any a w hia)
     unfold ActV.agg
     clear h hk hia hx hE hc
     go_enter Tryz.func42, Tryz.ntmps42
     go_wp2_with (go_at_call 64; refine (HI.out _).mono ?_; rintro e w' ⟨rfl, rfl⟩)
     refine bodyPost_ret (v := .agg #[.int .i64 2, .slice none 0 0, .int .i64 0, .slice none 0 0]) (by simp [results, Tryz.results42, go_sem]) rfl ?_
     exact act_low HM.out HA.out (below3 _ _ _ _)
   | true =>
     obtain ⟨ia0, ia1⟩ := (isN_iff a).1 hia
     obtain ⟨q, rfl⟩ : ∃ q : Nat, a = q := ⟨a.toNat, by omega⟩
     have hkd : kd = 1 ∨ kd = 2 ∨ kd = 3 ∨ kd = 4 ∨ kd = 5 ∨ kd = 6 ∨ kd = 7 ∨ kd = 8 ∨ kd = 9 ∨ kd = 10 := by omega
     rcases hkd with rfl | rfl | rfl | rfl | rfl | rfl | rfl | rfl | rfl | rfl
     · exact nact1_any N q b n m ad bt key value x w h hx hE hc hia
     · exact nact2_any N q b n m ad bt key value x w h hx hE hc hia
     · exact nact3_any N q b n m ad bt key value x w h hx hE hc hia
     · exact nact4_any N q b n m ad bt key value x w h hx hE hc hia
     · exact nact5_any N q b n m ad bt key value x w h hx hE hc hia
     · exact nact6_any N q b n m ad bt key value x w h hx hE hc hia
     · exact nact7_any N q b n m ad bt key value x w h hx hE hc hia
     · exact nact8_any N q b n m ad bt key value x w h hx hE hc hia
     · exact nact9_any N q b n m ad bt key value x w h hx hE hc hia
     · exact nact10_any N q b n m ad bt key value x w h hx hE hc hia
end Go.Proofs.YtbhbilenbbldnaaGreatDoor

namespace Go.Proofs.YtbhbilenbbldnaaGreatDoor
open Go Go.RowKit Go.Deep
def zero192 : List Value := (List.replicate 12 [Value.slice none 0 0, .bool false, .slice none 0 0, .slice none 0 0]).flatten ++ List.replicate 144 (.int .i64 0)
theorem zero_netN : Tryz.zeroCells91.toList = zero192 := by kernel_rfl
theorem net_zero (w : World) (T : TypeId) (v : Value) (hv : v.ownBlock = none) : NetM (fun k => v.ownBlock = some k) (w.alloc (.cells Tryz.zeroCells91 T)) w.heap.size net0 := by
 have hc : ∀ i, (w.alloc (.cells Tryz.zeroCells91 T)).cell? ⟨w.heap.size, i, none⟩ = zero192[i]? := fun i => by
  rw [World.cell?_alloc_at _ _ _ _ rfl, ← Array.getElem?_toList, zero_netN]
 refine ⟨fun k _ e => by (rw [hv] at e; cases e), fun a ha => ?_, fun a b ha hb => ?_, fun i => World.frozen?_alloc_at _ _ _ _ rfl, by simp⟩
 · have h4 : ∀ j, j < 4 → zero192[a * 4 + j]? = ([Value.slice none 0 0, .bool false, .slice none 0 0, .slice none 0 0] : List Value)[j]? := by
    intro j hj
    have h1 : a = 0 ∨ a = 1 ∨ a = 2 ∨ a = 3 ∨ a = 4 ∨ a = 5 ∨ a = 6 ∨ a = 7 ∨ a = 8 ∨ a = 9 ∨ a = 10 ∨ a = 11 := by omega
    have h2 : j = 0 ∨ j = 1 ∨ j = 2 ∨ j = 3 := by omega
    rcases h1 with rfl | rfl | rfl | rfl | rfl | rfl | rfl | rfl | rfl | rfl | rfl | rfl <;> rcases h2 with rfl | rfl | rfl | rfl <;> rfl
   exact ⟨⟨.slice none 0 0, by rw [hc]; exact h4 0 (by decide), SlN.nil _ _ _ _⟩, by rw [hc]; exact h4 1 (by decide), ⟨.slice none 0 0, by rw [hc]; exact h4 2 (by decide), SlN.nil _ _ _ _⟩, ⟨.slice none 0 0, by rw [hc]; exact h4 3 (by decide), SlN.nil _ _ _ _⟩⟩
 · rw [hc]
   unfold zero192
   rw [List.getElem?_append_right (by show 48 ≤ _; omega)]
   show (List.replicate 144 (Value.int .i64 0))[48 + a * 12 + b - 48]? = _
   rw [List.getElem?_replicate, if_pos (by omega)]
   rfl
theorem NetM.grow {X X' : Nat → Prop} {w w' : World} {N : Nat} {x : Net} {row : Option Nat} (h : NetM X w N x) (hX : ∀ k, row = some k → X k) (hg : w.grownBy w' row) (hX' : ∀ k, X' k → X k ∨ w.heap.size ≤ k) (hN : row ≠ some N) (hlt : ∀ k, X' k → k < w'.heap.size) : NetM X' w' N x :=
 h.keepB (fun k hk hz => ⟨hz.1, fun e => (hX' k e).elim hz.2 (fun e => by omega)⟩) (hg.block N h.lt (fun e => hN e.symm)) (fun k hk hz => hg.block k hk (fun e => hz.2 (hX k e.symm))) hg.size (fun k hk e => by have := hlt k e; omega)
theorem EnvN.low {N : Nat} {w w' : World} (h : EnvN N w) (hb : Below N w w') : EnvN N w' := by
 obtain ⟨w0, h1, h2, h3⟩ := h
 exact ⟨w0, h1, h2, h3.trans (hb.mono h2)⟩
def RunP (acts : List ActV) (w : World) (e : Ending) (w' : World) : Prop :=
 ∃ vr vs, e = .returned (.tuple #[vr, vs, .int .i64 0]) ∧ Sl rplR w' vr (runS net0 acts).2 ∧ Sl (slR entR) w' vs ((List.range 12).map fun i => ((runS net0 acts).1.nd i).st) ∧ Below w.heap.size w w'
theorem run_take {acts : List ActV} {k : Nat} (hk : k < acts.length) : runS net0 (acts.take (k + 1)) = ((actS (runS net0 (acts.take k)).1 acts[k]).1, (runS net0 (acts.take k)).2 ++ [(actS (runS net0 (acts.take k)).1 acts[k]).2]) := by
 rw [List.take_succ_eq_append_getElem hk, runS_snoc]
set_option maxRecDepth 50000 in
set_option maxHeartbeats 2000000 in
theorem nrun_any (v : Value) (acts : List ActV) (w : World) (h : Sl actR w v acts) (hl : acts.length ≤ 400) (hE : Env w) :
  Calls Tryz.prog 12 #[v] w (RunP acts w) := by
 obtain ⟨A, c, rfl⟩ := h.form
 have H := Go.Lib.hid h
 have hn1 : ¬ (400 : Int) < (acts.length : Int) := by omega
 have HNZ := Go.Lib.hid (net_zero w 91 (.slice none 0 0) rfl)
 have hal := (Below.refl w.heap.size w).alloc (Nat.le_refl _) (.cells Tryz.zeroCells91 91)
 have HAL := Go.Lib.hid hal
 have HE := Go.Lib.hid (show EnvN w.heap.size (w.alloc (.cells Tryz.zeroCells91 91)) from ⟨w, hE, Nat.le_refl _, hal⟩)
 have HEW := Go.Lib.hid hE
 clear h hal hE
 go_enter Tryz.func12, Tryz.ntmps12
 go_wp2_with fail
 obtain ⟨N, hN⟩ : ∃ N, N = w.heap.size := ⟨_, rfl⟩
 obtain ⟨W, hW⟩ : ∃ x, x = w.alloc (.cells Tryz.zeroCells91 91) := ⟨_, rfl⟩
 have HWZ := Go.Lib.hid (show W.heap.size = N + 1 by rw [hW, hN]; simp)
 rw [← hW] at HNZ HAL HE ⊢
 rw [← hN] at HNZ HAL HE ⊢
 have HN := Go.Lib.hid hN
 clear hN hW
 go_loopw [6, 18] (fun o i wr => ∃ k : Nat, k ≤ acts.length ∧ i = .int .i64 k ∧ OwR (zR rplR (N + 1)) 44 (N + 1) wr o (runS net0 (acts.take k)).2 ∧ NetM (fun q => o.ownBlock = some q) wr N (runS net0 (acts.take k)).1 ∧ Below N w wr ∧ EnvN N wr) (fun _ i _ => acts.length - (intOf i).toNat)
 case atStart => exact ⟨0, Nat.zero_le _, rfl, OwR.nil _ _ (by rw [HWZ.out]; exact Nat.le_refl _), HNZ.out, HAL.out, HE.out⟩
 case round =>
  obtain ⟨k, hk, rfl, ho, hm, hb, hev⟩ := hrel
  have HO := Go.Lib.hid ho
  have HM := Go.Lib.hid hm
  have HB := Go.Lib.hid hb
  have HEV := Go.Lib.hid hev
  have hsl : Sl actR wr (.slice A acts.length c) acts := Sl.below H.out (by rw [← HN.out]; exact hb)
  clear ho hm hb hev HNZ HAL HE
  by_cases hlt : k < acts.length
  · have hki : (k : Int) < (acts.length : Int) := by omega
    have hk0 : (0 : Int) ≤ (k : Int) := Int.natCast_nonneg k
    obtain ⟨bk, off, rfl, hbk⟩ := hsl.at_ hlt
    obtain ⟨f0, f1, f2, f3, f4, f5, f6, f7, f8, hwf⟩ := hsl.act hlt
    have HRT := Go.Lib.hid (run_take hlt)
    obtain ⟨ca, hca⟩ : ∃ ca, ca = acts[k] := ⟨_, rfl⟩
    rw [← hca] at f0 f1 f2 f3 f4 f5 f6 f7 f8 hwf HRT
    have hrl : (runS net0 (acts.take k)).2.length ≤ 400 := by rw [runS_len, List.length_take]; omega
    have HOK := Go.Lib.hid (run_ok (acts.take k) net0_ok)
    obtain ⟨x, hx⟩ : ∃ x, x = (runS net0 (acts.take k)).1 := ⟨_, rfl⟩
    obtain ⟨rs, hrs⟩ : ∃ rs, rs = (runS net0 (acts.take k)).2 := ⟨_, rfl⟩
    rw [← hx] at HM HRT HOK
    rw [← hrs] at HO HRT hrl
    have hal := (Below.refl wr.heap.size wr).alloc (Nat.le_refl _) (.cells #[.int .i64 ca.kind, .int .i64 ca.a, .int .i64 ca.b, .int .i64 ca.n, .int .i64 ca.m, .int .i64 ca.pre.addr, .int .i64 ca.pre.bits, .string ca.key, .string ca.value] 34)
    have HCA := Go.Lib.hid (nact_any N ca x _ (HM.out.below hal) HOK.out (HEV.out.below hal (Nat.le_of_lt HM.out.lt)) hwf)
    unfold ActV.agg at HCA
    have HO1 := Go.Lib.hid (HO.out.keep hal)
    have HAL := Go.Lib.hid hal
    have HRL := Go.Lib.hid hrl
    clear hx hrs hca hwf hrl hsl hal
    go_wp2_with fail
    refine HCA.out.mono ?_
    rintro e w4 ⟨vp, vk, rfl, hp4, hk4, hm4, hg4⟩
    have HM4 := Go.Lib.hid hm4
    have hbig : N + 1 ≤ wr.heap.size := HO.out.choose_spec.2.2.2
    have HO4 := Go.Lib.hid (HO1.out.keptZ hg4 (Nat.lt_succ_self N))
    have HOB := Go.Lib.hid (show ∀ k, u6.ownBlock = some k → k < wr.heap.size from fun k e => (HO.out.base_le k e).2)
    have HB4 := Go.Lib.hid (show Below N w w4 from HB.out.trans ((HAL.out.mono (by omega)).trans (grown_below hg4 (by simp; omega))))
    have HEV4 := Go.Lib.hid ((HEV.out.below HAL.out (by omega)).grown hg4 (by simp; omega))
    have HH := Go.Lib.hid (show (zR rplR (N + 1)).holds w4 (fun k => k < w4.heap.size ∧ wr.heap.size ≤ k) [.int .i64 (actS x ca).2.code, vp, .int .i64 (actS x ca).2.cost, vk] (actS x ca).2 from
     ⟨vp, vk, rfl, SlR.keep hp4 (fun _ _ => rfl) (fun k hk => ⟨⟨hk.1, by have := hk.2; simp at this; omega⟩, by have := hk.2; simp at this; omega⟩), SlR.keep hk4 (fun _ _ => rfl) (fun k hk => ⟨⟨hk.1, by have := hk.2; simp at this; omega⟩, by have := hk.2; simp at this; omega⟩)⟩)
    obtain ⟨Ap, np, cp, rfl⟩ : ∃ A n c, vp = .slice A n c := by obtain ⟨A, c, e, _⟩ := hp4; exact ⟨A, _, c, e⟩
    obtain ⟨Ak, nk, ck, rfl⟩ : ∃ A n c, vk = .slice A n c := by obtain ⟨A, c, e, _⟩ := hk4; exact ⟨A, _, c, e⟩
    clear hp4 hk4 hm4 hg4 f0 f1 f2 f3 f4 f5 f6 f7 f8
    go_wp2_with (at_builtin; refine wpList_oneR (r := zR rplR (N + 1)) (base := N + 1) (y := (actS x ca).2) (cs := [.int .i64 (actS x ca).2.code, .slice Ap np cp, .int .i64 (actS x ca).2.cost, .slice Ak nk ck]) (S := fun k => k < w4.heap.size ∧ wr.heap.size ≤ k) elt_rpl rfl (.tmp 22) (.tmp 26) rfl HO4.out HH.out (fun k hk => ⟨hk.1, fun e => by have h1 := HOB.out k e; have h2 : wr.heap.size ≤ k := hk.2; omega⟩) rfl rfl (by first | rfl | simp) (by have := HRL.out; omega) (by decide) ?_; intro v5 w5 ho5 hg5)
    have hal4 := (Below.refl w4.heap.size w4).alloc (Nat.le_refl _) (.cells #[.int .i64 (actS x ca).2.code, .slice Ap np cp, .int .i64 (actS x ca).2.cost, .slice Ak nk ck] 44)
    have hz4 : N + 1 ≤ w4.heap.size := HO4.out.choose_spec.2.2.2
    have HB5 := Go.Lib.hid (show Below (N + 1) w4 w5 from (ow_alloc HO4.out _).below_grown ((Below.refl (N + 1) w4).alloc hz4 _) hg5.grown)
    have HM5 := Go.Lib.hid ((HM4.out.below hal4).grow (X' := fun q => v5.ownBlock = some q) (fun k e => e) hg5.grown (fun k e => hg5.own k e) (fun e => by have := (HO4.out.base_le _ e).1; omega) (fun k e => (ho5.base_le k e).2))
    have HO5 := Go.Lib.hid ho5
    clear ho5 hg5 hal4
    go_roundw
    case rel => exact ⟨k + 1, by omega, by go_num, by rw [HRT.out]; exact HO5.out, by rw [HRT.out]; exact HM5.out, HB4.out.trans (HB5.out.mono (by omega)), HEV4.out.low (HB5.out.mono (by omega))⟩
    case measure => simp [intOf]; omega
  · obtain rfl : k = acts.length := by omega
    rw [List.take_length] at HO HM
    have hki : ¬ (acts.length : Int) < (acts.length : Int) := by omega
    have HOK := Go.Lib.hid (run_ok acts net0_ok)
    have HP := Go.Lib.hid (show ∀ w', RunP acts w w' = RunP acts w w' from fun _ => rfl)
    obtain ⟨z, hz⟩ : ∃ z, z = (runS net0 acts).1 := ⟨_, rfl⟩
    have HZ := Go.Lib.hid hz
    rw [← hz] at HM HOK
    clear hz hsl hk hlt HEV HP
    obtain ⟨WR, rfl⟩ : ∃ m, m = wr := ⟨wr, rfl⟩
    go_wp2_with fail
    go_loopw [9, 29] (fun o i wq => ∃ k : Nat, k ≤ 12 ∧ i = .int .i64 k ∧ OwR (slR entR) 37 WR.heap.size wq o ((List.range k).map fun i => (z.nd i).st) ∧ Below WR.heap.size WR wq) (fun _ i _ => 12 - (intOf i).toNat)
    case atStart => exact ⟨0, Nat.zero_le _, rfl, OwR.nil _ _ (Nat.le_refl _), Below.refl _ _⟩
    case round =>
     obtain ⟨k, hk, rfl, ho, hb⟩ := hrel
     have HO2 := Go.Lib.hid ho
     have HB2 := Go.Lib.hid hb
     clear ho hb
     by_cases hlt : k < 12
     · have hki : (k : Int) < 12 := by omega
       have hk0 : (0 : Int) ≤ (k : Int) := Int.natCast_nonneg k
       obtain ⟨v0, c0, s0⟩ := (HM.out.nd k hlt).st
       have c1 := cell_keep HB2.out c0
       have hol := (HOK.out.nd k hlt).st.len
       have HCL := Go.Lib.hid (cloneE_any v0 (z.nd k).st wr (Sl.below (SlN.sl s0) HB2.out) (by omega))
       obtain ⟨A0, n0, k0, rfl⟩ : ∃ A n c, v0 = .slice A n c := by obtain ⟨A, c, e, _⟩ := s0; exact ⟨A, _, c, e⟩
       have HRG := Go.Lib.hid (show (List.range (k + 1)).map (fun i => (z.nd i).st) = (List.range k).map (fun i => (z.nd i).st) ++ [(z.nd k).st] by rw [List.range_succ, List.map_append]; rfl)
       have HLE := Go.Lib.hid (show ((List.range k).map fun i => (z.nd i).st).length ≤ 1000000 by simp; omega)
       clear c0 s0 hol
       go_wp2_with fail
       refine HCL.out.mono ?_
       rintro e w1 ⟨v1, rfl, ho1, hb1⟩
       have hs1 := ho1.slG (by decide) (fun _ _ _ _ h => flatEnt h)
       obtain ⟨A1, n1, k1, rfl⟩ := ow_form ho1 (by decide)
       have HO3 := Go.Lib.hid (HO2.out.keep hb1)
       have HB3 := Go.Lib.hid (HB2.out.trans (hb1.mono HB2.out.size))
       have HOB := Go.Lib.hid (show ∀ q, u9.ownBlock = some q → q < wr.heap.size from fun q e => (HO2.out.base_le q e).2)
       have HH := Go.Lib.hid (show (slR entR).holds w1 (fun q => q < w1.heap.size ∧ wr.heap.size ≤ q) [.slice A1 n1 k1] (z.nd k).st from ⟨_, rfl, hs1⟩)
       have hz3 : WR.heap.size ≤ w1.heap.size := HB3.out.size
       clear hs1 ho1 hb1 c1
       go_wp2_with (at_builtin; refine wpList_oneR (r := slR entR) (base := WR.heap.size) (y := (z.nd k).st) (cs := [.slice A1 n1 k1]) (S := fun q => q < w1.heap.size ∧ wr.heap.size ≤ q) elt_store rfl (.tmp 32) (.tmp 41) rfl HO3.out HH.out (fun q hq => ⟨hq.1, fun e => by have h1 := HOB.out q e; have h2 : wr.heap.size ≤ q := hq.2; omega⟩) rfl rfl (by first | rfl | simp) HLE.out (by decide) ?_; intro v5 w5 ho5 hg5)
       have HB5 := Go.Lib.hid ((ow_alloc HO3.out _).below_grown (HB3.out.alloc hz3 _) hg5.grown)
       go_roundw
       case rel => exact ⟨k + 1, by omega, by go_num, by rw [HRG.out]; exact ho5, HB5.out⟩
       case measure => simp [intOf]; omega
     · obtain rfl : k = 12 := by omega
       have hs1 : Sl (slR entR) wr u9 ((List.range 12).map fun i => (z.nd i).st) := HO2.out.sl (by decide)
       have hs2 : Sl rplR wr u6 (runS net0 acts).2 := Sl.below (Sl.unzR (HO.out.sl (by show 0 < 4; decide))) HB2.out
       have HS1 := Go.Lib.hid hs1
       have HS2 := Go.Lib.hid hs2
       have HB9 := Go.Lib.hid (show Below w.heap.size w wr from by
        have h1 := HB.out
        rw [HN.out] at h1
        exact h1.trans (HB2.out.mono h1.size))
       clear hs1 hs2
       go_wp2_with fail
       go_ret3
       exact ⟨_, _, rfl, HS2.out, by rw [← HZ.out]; exact HS1.out, HB9.out⟩
end Go.Proofs.YtbhbilenbbldnaaGreatDoor

namespace Go.Proofs.YtbhbilenbbldnaaGreatDoor
open Go Go.RowKit Go.Deep
structure RawAct (nodes : Nat) (c : ActV) : Prop where
 k : 1 ≤ c.kind ∧ c.kind ≤ 10
 a : 0 ≤ c.a ∧ c.a < nodes
 b : 0 ≤ c.b ∧ c.b < nodes
 wf : c.wf
def ActsPost (most nodes : Nat) (w : World) (e : Ending) (w' : World) : Prop :=
 ∃ v' acts, e = .returned v' ∧ acts.length ≤ most ∧ (∀ c ∈ acts, RawAct nodes c) ∧ OwR actR 34 w.heap.size w' v' acts ∧ Below w.heap.size w w'
theorem emptyB : (⟨#[]⟩ : ByteArray).size ≤ maxLen := by decide
theorem rawAct_of {nodes : Nat} {k n m ad bt : Int} {p q : Nat} {key value : ByteArray} (hk : 1 ≤ k ∧ k ≤ 10) (hp : p < nodes) (hq : q < nodes) (hn : nodes ≤ 12) (h1 : inR n) (h2 : inR m) (h3 : inR ad) (h4 : inR bt) (h5 : key.size ≤ maxLen) (h6 : value.size ≤ maxLen) : RawAct nodes ⟨k, p, q, n, m, ⟨ad, bt⟩, key, value⟩ :=
 ⟨hk, ⟨by show (0 : Int) ≤ (p : Int); omega, by show (p : Int) < _; omega⟩, ⟨by show (0 : Int) ≤ (q : Int); omega, by show (q : Int) < _; omega⟩, ⟨by unfold inR; show _ ≤ k ∧ k ≤ _; omega, by unfold inR; show _ ≤ (p : Int) ∧ (p : Int) ≤ _; omega, by unfold inR; show _ ≤ (q : Int) ∧ (q : Int) ≤ _; omega, h1, h2, h3, h4, h5, h6⟩⟩
theorem field0_run (a b : ByteArray) (n m : Int) (w : World) : (Instr.field 40 (.agg #[.string a, .int .i64 n, .int .i64 m, .string b]) 0).run Tryz.prog w = .ok (.string a) w := by
 simp [Instr.field, asAgg, go_sem, Tryz.underlying40]
theorem field3_run (a b : ByteArray) (n m : Int) (w : World) : (Instr.field 40 (.agg #[.string a, .int .i64 n, .int .i64 m, .string b]) 3).run Tryz.prog w = .ok (.string b) w := by
 simp [Instr.field, asAgg, go_sem, Tryz.underlying40]
theorem set3_cells {W : World} {A x y z : Nat} {u v s : Value} {arr : Array Value} (h : ∀ i, W.cell? ⟨A, i, none⟩ = arr[i]?) (h0 : arr[x]?.isSome = true) (h3 : arr[y]?.isSome = true) (h4 : arr[z]?.isSome = true) (hxy : x ≠ y) (hxz : x ≠ z) (hyz : y ≠ z) :
  ∀ i, ((((W.setCell ⟨A, x, none⟩ u).setCell ⟨A, y, none⟩ v).setCell ⟨A, z, none⟩ s).drew).cell? ⟨A, i, none⟩ = if i = z then some s else if i = y then some v else if i = x then some u else arr[i]? := by
 intro i
 rw [World.cell?_drew]
 by_cases e4 : i = z
 · subst e4
   rw [if_pos rfl]
   exact World.cell?_setCell_same' _ _ _ (by rw [World.cell?_setCell_other _ _ _ _ (by intro e; injection e with _ e _; omega), World.cell?_setCell_other _ _ _ _ (by intro e; injection e with _ e _; omega), h]; exact h4)
 · rw [if_neg e4, World.cell?_setCell_other _ _ _ _ (by intro e; injection e with _ e _; omega)]
   by_cases e3 : i = y
   · subst e3
     rw [if_pos rfl]
     exact World.cell?_setCell_same' _ _ _ (by rw [World.cell?_setCell_other _ _ _ _ (by intro e; injection e with _ e _; omega), h]; exact h3)
   · rw [if_neg e3, World.cell?_setCell_other _ _ _ _ (by intro e; injection e with _ e _; omega)]
     by_cases e0 : i = x
     · subst e0
       rw [if_pos rfl]
       exact World.cell?_setCell_same' _ _ _ (by rw [h]; exact h0)
     · rw [if_neg e0, World.cell?_setCell_other _ _ _ _ (by intro e; injection e with _ e _; omega)]
       exact h i
theorem grown3 (W : World) (A x y z : Nat) (u v s : Value) : W.grownBy ((((W.setCell ⟨A, x, none⟩ u).setCell ⟨A, y, none⟩ v).setCell ⟨A, z, none⟩ s).drew) (some A) :=
 (((setCell_grown W A x u).trans (setCell_grown _ A y v)).trans (setCell_grown _ A z s)).trans (below_grownN A (Below.refl _ _).drew)
set_option maxRecDepth 50000 in
set_option maxHeartbeats 2000000 in
theorem acts_any (v : Value) (xs : List Raw) (most nodes : Nat) (w : World) (h : Sl rawR w v xs) (hm : most ≤ 1000) (hn : 1 ≤ nodes ∧ nodes ≤ 12) :
  Calls Tryz.prog 11 #[v, .int .i64 (most : Nat), .int .i64 (nodes : Nat)] w (ActsPost most nodes w) := by
 have hlen := h.len_le
 obtain ⟨A, c, rfl⟩ := h.form
 have H := Go.Lib.hid h
 have HN := Go.Lib.hid hn
 clear h
 go_enter Tryz.func11, Tryz.ntmps11
 go_wp2_with fail
 go_loopw [7, 8] (fun o i wr => ∃ (k : Nat) (acts : List ActV), k ≤ xs.length ∧ k ≤ most ∧ i = .int .i64 k ∧ acts.length = k ∧ (∀ c ∈ acts, RawAct nodes c) ∧ OwR actR 34 w.heap.size wr o acts ∧ Below w.heap.size w wr) (fun _ i _ => most - (intOf i).toNat)
 case atStart => exact ⟨0, [], Nat.zero_le _, Nat.zero_le _, rfl, rfl, fun c hc => (by cases hc), OwR.nil _ _ (Nat.le_refl _), Below.refl _ _⟩
 case round =>
  obtain ⟨k, acts, hk, hkm, rfl, hal, hra, ho, hb⟩ := hrel
  have HO := Go.Lib.hid ho
  have HB := Go.Lib.hid hb
  have HRA := Go.Lib.hid hra
  have HAL := Go.Lib.hid hal
  have hol := ho.base_le
  have HOB := Go.Lib.hid (show ∀ q, u7.ownBlock = some q → q < wr.heap.size from fun q e => (ho.base_le q e).2)
  clear ho hb hra hal hol
  by_cases hlt : k < xs.length
  · by_cases hlm : k < most
    · have hki : (k : Int) < (xs.length : Int) := by omega
      have hkj : (k : Int) < (most : Int) := by omega
      have hk0 : (0 : Int) ≤ (k : Int) := Int.natCast_nonneg k
      obtain ⟨bk, off, rfl, hbk⟩ := H.out.at_ hlt
      obtain ⟨f0, f1, f2, f3, g0, g1, g2, g3⟩ := (H.out.below HB.out).raw hlt
      obtain ⟨rk, ra, rb, rc, hr⟩ : ∃ rk ra rb rc, (⟨rk, ra, rb, rc⟩ : Raw) = xs[k] := ⟨_, _, _, _, rfl⟩
      rw [← hr] at f0 f1 f2 f3 g0 g1 g2 g3
      simp only at f0 f1 f2 f3 g0 g1 g2 g3
      have hal := (Below.refl wr.heap.size wr).alloc (Nat.le_refl _) (.cells #[.int .i64 rk, .int .i64 ra, .int .i64 rb, .int .i64 rc] 81)
      have b0 : (wr.alloc (.cells #[.int .i64 rk, .int .i64 ra, .int .i64 rb, .int .i64 rc] 81)).cell? ⟨wr.heap.size, 0, none⟩ = some (.int .i64 rk) := by rw [World.cell?_alloc_at _ _ _ _ rfl]; rfl
      have b1 : (wr.alloc (.cells #[.int .i64 rk, .int .i64 ra, .int .i64 rb, .int .i64 rc] 81)).cell? ⟨wr.heap.size, 1, none⟩ = some (.int .i64 ra) := by rw [World.cell?_alloc_at _ _ _ _ rfl]; rfl
      have b2 : (wr.alloc (.cells #[.int .i64 rk, .int .i64 ra, .int .i64 rb, .int .i64 rc] 81)).cell? ⟨wr.heap.size, 2, none⟩ = some (.int .i64 rb) := by rw [World.cell?_alloc_at _ _ _ _ rfl]; rfl
      have b3 : (wr.alloc (.cells #[.int .i64 rk, .int .i64 ra, .int .i64 rb, .int .i64 rc] 81)).cell? ⟨wr.heap.size, 3, none⟩ = some (.int .i64 rc) := by rw [World.cell?_alloc_at _ _ _ _ rfl]; rfl
      have HA1 := Go.Lib.hid hal
      obtain ⟨p, hp⟩ : ∃ p, p = pickN ra nodes := ⟨_, rfl⟩
      obtain ⟨q, hq⟩ : ∃ q, q = pickN rb nodes := ⟨_, rfl⟩
      have HPA := Go.Lib.hid (fun w => picked_any ra nodes w g1 (by omega) (by omega))
      have HPB := Go.Lib.hid (fun w => picked_any rb nodes w g2 (by omega) (by omega))
      rw [← hp] at HPA
      rw [← hq] at HPB
      have HP12 := Go.Lib.hid (show p < nodes by rw [hp]; exact pickN_lt _ _ (by omega))
      have HQ12 := Go.Lib.hid (show q < nodes by rw [hq]; exact pickN_lt _ _ (by omega))
      have HG0 := Go.Lib.hid g0
      have HG1 := Go.Lib.hid g1
      have HG2 := Go.Lib.hid g2
      have HG3 := Go.Lib.hid g3
      obtain ⟨W1, hW1⟩ : ∃ x, x = wr.alloc (.cells #[.int .i64 rk, .int .i64 ra, .int .i64 rb, .int .i64 rc] 81) := ⟨_, rfl⟩
      rw [← hW1] at b0 b1 b2 b3 HA1
      have HW1 := Go.Lib.hid hW1
      have HZ1 := Go.Lib.hid (show W1.heap.size = wr.heap.size + 1 by rw [hW1]; simp)
      clear hp hq hW1 hal hr g0 g1 g2 g3
      go_wp2_with fail
      rw [← HW1.out]
      clear HW1 f0 f1 f2 f3
      obtain ⟨B, hB⟩ : ∃ B, B = wr.heap.size := ⟨_, rfl⟩
      rw [← hB] at b0 b1 b2 b3 ⊢
      have HBB := Go.Lib.hid hB
      clear hB
      go_region_held3 (fun w' => w'.cell? ⟨B, 1, none⟩ = some (.int .i64 ra) ∧ w'.cell? ⟨B, 2, none⟩ = some (.int .i64 rb)) (first | go_keep | exact ⟨b1, b2⟩)
       (first
        | (go_at_call 14; with_reducible refine (HPA.out _).mono ?_; rintro e w' ⟨rfl, rfl⟩)
        | (go_at_call 14; with_reducible refine (HPB.out _).mono ?_; rintro e w' ⟨rfl, rfl⟩))
      all_goals
       have hal2 := (Below.refl W1.heap.size W1).alloc (Nat.le_refl _) (.cells #[.int .i64 0, .int .i64 (p : Int), .int .i64 (q : Int), .int .i64 (-1), .int .i64 0, .int .i64 0, .int .i64 0, .string ⟨#[]⟩, .string ⟨#[]⟩] 34)
       have HA2 := Go.Lib.hid hal2.drew
       have hc : ∀ i, ((W1.alloc (.cells #[.int .i64 0, .int .i64 (p : Int), .int .i64 (q : Int), .int .i64 (-1), .int .i64 0, .int .i64 0, .int .i64 0, .string ⟨#[]⟩, .string ⟨#[]⟩] 34)).drew).cell? ⟨W1.heap.size, i, none⟩ = (#[.int .i64 0, .int .i64 (p : Int), .int .i64 (q : Int), .int .i64 (-1), .int .i64 0, .int .i64 0, .int .i64 0, .string ⟨#[]⟩, .string ⟨#[]⟩] : Array Value)[i]? := fun i => by
        rw [World.cell?_drew]; exact World.cell?_alloc_at _ _ _ _ rfl
       have hf : ∀ i, ((W1.alloc (.cells #[.int .i64 0, .int .i64 (p : Int), .int .i64 (q : Int), .int .i64 (-1), .int .i64 0, .int .i64 0, .int .i64 0, .string ⟨#[]⟩, .string ⟨#[]⟩] 34)).drew).frozen? ⟨W1.heap.size, i, none⟩ = false := fun i => World.frozen?_alloc_at _ _ _ _ rfl
       obtain ⟨W2, hW2⟩ : ∃ x, x = (W1.alloc (.cells #[.int .i64 0, .int .i64 (p : Int), .int .i64 (q : Int), .int .i64 (-1), .int .i64 0, .int .i64 0, .int .i64 0, .string ⟨#[]⟩, .string ⟨#[]⟩] 34)).drew := ⟨_, rfl⟩
       have HW2Z := Go.Lib.hid (show W1.heap.size < W2.heap.size by rw [hW2]; show _ < (W1.alloc _).heap.size; simp)
       rw [← hW2] at hc hf HA2 ⊢
       clear hW2 hal2
       have b0 := cell_keep HA2.out b0
       have b2 := cell_keep HA2.out b2
       have b3 := cell_keep HA2.out b3
       have b1 := cell_keep HA2.out b1
       obtain ⟨AB, hAB⟩ : ∃ B, B = W1.heap.size := ⟨_, rfl⟩
       rw [← hAB] at hc hf HW2Z ⊢
       have HAB := Go.Lib.hid hAB
       clear hAB
       have hBA : ¬ B = AB := by have := HAB.out; have := HZ1.out; have := HBB.out; omega
       have hAB2 : ¬ AB = B := fun e => hBA e.symm
       have HC := Go.Lib.hid hc
       have HF := Go.Lib.hid hf
       have HO1 := Go.Lib.hid (HO.out.keep HA1.out)
       have HO2 := Go.Lib.hid (HO1.out.keep HA2.out)
       have hbw : w.heap.size ≤ wr.heap.size := HB.out.size
       have HB2 := Go.Lib.hid (HB.out.trans ((HA1.out.mono hbw).trans (HA2.out.mono (by have := HZ1.out; omega))))
       have HFW := Go.Lib.hid (show ∀ W', W2.grownBy W' (some AB) → OwR actR 34 w.heap.size W' u7 acts ∧ Below w.heap.size w W' from fun W' G =>
        ⟨HO2.out.kept G (by
         rcases e : u7.ownBlock with _ | y
         · exact .inl rfl
         · right; intro e2; injection e2 with e2; have := HOB.out y e; have := HAB.out; have := HZ1.out; omega) (fun _ _ h => h), HB2.out.grown G HB2.out.size (fun y e => by injection e with e; have := HAB.out; have := HZ1.out; omega)⟩)
       have HLN := Go.Lib.hid (show acts.length ≤ 1000000 by have := HAL.out; omega)
       clear hc hf hbw
       have a0 := HC.out 0
       have a1 := HC.out 1
       have a2 := HC.out 2
       have a3 := HC.out 3
       have a4 := HC.out 4
       have a5 := HC.out 5
       have a6 := HC.out 6
       have a7 := HC.out 7
       have a8 := HC.out 8
       have za0 := HF.out 0
       have za3 := HF.out 3
       have za4 := HF.out 4
       have za5 := HF.out 5
       have za6 := HF.out 6
       have za7 := HF.out 7
       have za8 := HF.out 8
       simp only [List.getElem?_toArray, List.getElem?_cons_zero, List.getElem?_cons_succ] at a0 a1 a2 a3 a4 a5 a6 a7 a8
       obtain ⟨kq, hkq⟩ : ∃ kq, kq = pickN rk 24 := ⟨_, rfl⟩
       have HPK := Go.Lib.hid (fun w => picked_any rk 24 w HG0.out (by omega) (by omega))
       rw [← hkq] at HPK
       have hk24 : kq < 24 := by rw [hkq]; exact pickN_lt _ _ (by omega)
       have hkq0 : (0 : Int) ≤ (kq : Int) := Int.natCast_nonneg kq
       have HNN := Go.Lib.hid (show nodes ≤ 12 from HN.out.2)
       clear hkq
       go_wp2_with fail
       refine (HPK.out _).mono ?_
       rintro e w' ⟨rfl, rfl⟩
       by_cases c1 : kq < 6
       · have d1 : (kq : Int) < 6 := by omega
         obtain ⟨nn, hnn⟩ : ∃ nn, nn = pickN rc 5 := ⟨_, rfl⟩
         have HPC := Go.Lib.hid (fun w => picked_any rc 5 w HG3.out (by omega) (by omega))
         rw [← hnn] at HPC
         have hn5 : nn < 5 := by rw [hnn]; exact pickN_lt _ _ (by omega)
         have hnn0 : (0 : Int) ≤ (nn : Int) := Int.natCast_nonneg nn
         clear hnn
         go_wp2_with fail
         refine (HPC.out _).mono ?_
         rintro e w' ⟨rfl, rfl⟩
         have HRX := Go.Lib.hid (rawAct_of (nodes := nodes) (k := 1) (n := 1 + (nn : Int)) (m := 0) (ad := 0) (bt := 0) (p := p) (q := q) (key := ⟨#[]⟩) (value := ⟨#[]⟩) (by decide) HP12.out HQ12.out HNN.out (by unfold inR; omega) (by unfold inR; decide) (by unfold inR; decide) (by unfold inR; decide) emptyB emptyB)
         go_wp2_with (at_builtin; refine wpList_oneR (r := actR) (base := w.heap.size) (y := ⟨1, (p : Nat), (q : Nat), 1 + (nn : Int), 0, ⟨0, 0⟩, ⟨#[]⟩, ⟨#[]⟩⟩) (S := fun _ => False) elt_actA rfl (.tmp 117) (.tmp 119) rfl (HFW.out _ (by repeat (first | (with_reducible exact World.grownBy.refl _ _) | (with_reducible refine World.grownBy.trans ?_ (setCell_grown _ _ _ _)) | (with_reducible exact HGA.out) | (with_reducible refine World.grownBy.trans ?_ (below_grownN _ (Below.refl _ _).drew))))).1 ⟨rfl, HRX.out.wf⟩ (fun _ h => h.elim) rfl rfl (by first | rfl | simp) HLN.out (by decide) ?_; intro v5 w5 ho5 hg5; have HO5 := Go.Lib.hid ho5; have HG5 := Go.Lib.hid hg5; clear ho5 hg5)
         have HB5 := Go.Lib.hid ((ow_alloc (HFW.out _ (by repeat (first | (with_reducible exact World.grownBy.refl _ _) | (with_reducible refine World.grownBy.trans ?_ (setCell_grown _ _ _ _)) | (with_reducible exact HGA.out) | (with_reducible refine World.grownBy.trans ?_ (below_grownN _ (Below.refl _ _).drew))))).1 _).below_grown ((HFW.out _ (by repeat (first | (with_reducible exact World.grownBy.refl _ _) | (with_reducible refine World.grownBy.trans ?_ (setCell_grown _ _ _ _)) | (with_reducible exact HGA.out) | (with_reducible refine World.grownBy.trans ?_ (below_grownN _ (Below.refl _ _).drew))))).2.alloc (HFW.out _ (by repeat (first | (with_reducible exact World.grownBy.refl _ _) | (with_reducible refine World.grownBy.trans ?_ (setCell_grown _ _ _ _)) | (with_reducible exact HGA.out) | (with_reducible refine World.grownBy.trans ?_ (below_grownN _ (Below.refl _ _).drew))))).1.choose_spec.2.2.2 _) HG5.out.grown)
         go_roundw
         case rel => exact ⟨k + 1, acts ++ [⟨1, (p : Nat), (q : Nat), 1 + (nn : Int), 0, ⟨0, 0⟩, ⟨#[]⟩, ⟨#[]⟩⟩], by omega, by omega, by go_num, by rw [List.length_append, HAL.out]; rfl, fun c hc => (List.mem_append.1 hc).elim (HRA.out c) (fun h => by rw [List.mem_singleton] at h; rw [h]; exact HRX.out), HO5.out, HB5.out⟩
         case measure => simp [intOf]; omega
       · have d1 : ¬ (kq : Int) < 6 := by omega
         by_cases c18 : kq = 6
         · have e6 : ((kq : Int) == 6) = true := by rw [beq_iff_eq]; omega
           have HRX := Go.Lib.hid (rawAct_of (nodes := nodes) (k := 2) (n := -1) (m := 0) (ad := 0) (bt := 0) (p := p) (q := q) (key := ⟨#[]⟩) (value := ⟨#[]⟩) (by decide) HP12.out HQ12.out HNN.out (by unfold inR; decide) (by unfold inR; decide) (by unfold inR; decide) (by unfold inR; decide) emptyB emptyB)
           go_wp2_with (at_builtin; refine wpList_oneR (r := actR) (base := w.heap.size) (y := ⟨2, (p : Nat), (q : Nat), -1, 0, ⟨0, 0⟩, ⟨#[]⟩, ⟨#[]⟩⟩) (S := fun _ => False) elt_actA rfl (.tmp 117) (.tmp 119) rfl (HFW.out _ (by repeat (first | (with_reducible exact World.grownBy.refl _ _) | (with_reducible refine World.grownBy.trans ?_ (setCell_grown _ _ _ _)) | (with_reducible exact HGA.out) | (with_reducible refine World.grownBy.trans ?_ (below_grownN _ (Below.refl _ _).drew))))).1 ⟨rfl, HRX.out.wf⟩ (fun _ h => h.elim) rfl rfl (by first | rfl | simp) HLN.out (by decide) ?_; intro v5 w5 ho5 hg5; have HO5 := Go.Lib.hid ho5; have HG5 := Go.Lib.hid hg5; clear ho5 hg5)
           have HB5 := Go.Lib.hid ((ow_alloc (HFW.out _ (by repeat (first | (with_reducible exact World.grownBy.refl _ _) | (with_reducible refine World.grownBy.trans ?_ (setCell_grown _ _ _ _)) | (with_reducible exact HGA.out) | (with_reducible refine World.grownBy.trans ?_ (below_grownN _ (Below.refl _ _).drew))))).1 _).below_grown ((HFW.out _ (by repeat (first | (with_reducible exact World.grownBy.refl _ _) | (with_reducible refine World.grownBy.trans ?_ (setCell_grown _ _ _ _)) | (with_reducible exact HGA.out) | (with_reducible refine World.grownBy.trans ?_ (below_grownN _ (Below.refl _ _).drew))))).2.alloc (HFW.out _ (by repeat (first | (with_reducible exact World.grownBy.refl _ _) | (with_reducible refine World.grownBy.trans ?_ (setCell_grown _ _ _ _)) | (with_reducible exact HGA.out) | (with_reducible refine World.grownBy.trans ?_ (below_grownN _ (Below.refl _ _).drew))))).1.choose_spec.2.2.2 _) HG5.out.grown)
           go_roundw
           case rel => exact ⟨k + 1, acts ++ [⟨2, (p : Nat), (q : Nat), -1, 0, ⟨0, 0⟩, ⟨#[]⟩, ⟨#[]⟩⟩], by omega, by omega, by go_num, by rw [List.length_append, HAL.out]; rfl, fun c hc => (List.mem_append.1 hc).elim (HRA.out c) (fun h => by rw [List.mem_singleton] at h; rw [h]; exact HRX.out), HO5.out, HB5.out⟩
           case measure => simp [intOf]; omega
         · have e6 : ((kq : Int) == 6) = false := by rw [beq_eq_false_iff_ne]; omega
           by_cases c17 : kq = 7
           · have e7 : ((kq : Int) == 7) = true := by rw [beq_iff_eq]; omega
             obtain ⟨nn, hnn⟩ : ∃ y, y = pickN rc 2 := ⟨_, rfl⟩
             have HPC := Go.Lib.hid (fun w => picked_any rc 2 w HG3.out (by omega) (by omega))
             rw [← hnn] at HPC
             have lnn : nn < 2 := by rw [hnn]; exact pickN_lt _ _ (by omega)
             have znn : (0 : Int) ≤ (nn : Int) := Int.natCast_nonneg nn
             clear hnn
             go_wp2_with fail
             refine (HPC.out _).mono ?_
             rintro e w' ⟨rfl, rfl⟩
             have HRX := Go.Lib.hid (rawAct_of (nodes := nodes) (k := 3) (n := (nn : Int)) (m := 0) (ad := 0) (bt := 0) (p := p) (q := q) (key := ⟨#[]⟩) (value := ⟨#[]⟩) (by decide) HP12.out HQ12.out HNN.out (by unfold inR; omega) (by unfold inR; decide) (by unfold inR; decide) (by unfold inR; decide) emptyB emptyB)
             go_wp2_with (at_builtin; refine wpList_oneR (r := actR) (base := w.heap.size) (y := ⟨3, (p : Nat), (q : Nat), (nn : Int), 0, ⟨0, 0⟩, ⟨#[]⟩, ⟨#[]⟩⟩) (S := fun _ => False) elt_actA rfl (.tmp 117) (.tmp 119) rfl (HFW.out _ (by repeat (first | (with_reducible exact World.grownBy.refl _ _) | (with_reducible refine World.grownBy.trans ?_ (setCell_grown _ _ _ _)) | (with_reducible exact HGA.out) | (with_reducible refine World.grownBy.trans ?_ (below_grownN _ (Below.refl _ _).drew))))).1 ⟨rfl, HRX.out.wf⟩ (fun _ h => h.elim) rfl rfl (by first | rfl | simp) HLN.out (by decide) ?_; intro v5 w5 ho5 hg5; have HO5 := Go.Lib.hid ho5; have HG5 := Go.Lib.hid hg5; clear ho5 hg5)
             have HB5 := Go.Lib.hid ((ow_alloc (HFW.out _ (by repeat (first | (with_reducible exact World.grownBy.refl _ _) | (with_reducible refine World.grownBy.trans ?_ (setCell_grown _ _ _ _)) | (with_reducible exact HGA.out) | (with_reducible refine World.grownBy.trans ?_ (below_grownN _ (Below.refl _ _).drew))))).1 _).below_grown ((HFW.out _ (by repeat (first | (with_reducible exact World.grownBy.refl _ _) | (with_reducible refine World.grownBy.trans ?_ (setCell_grown _ _ _ _)) | (with_reducible exact HGA.out) | (with_reducible refine World.grownBy.trans ?_ (below_grownN _ (Below.refl _ _).drew))))).2.alloc (HFW.out _ (by repeat (first | (with_reducible exact World.grownBy.refl _ _) | (with_reducible refine World.grownBy.trans ?_ (setCell_grown _ _ _ _)) | (with_reducible exact HGA.out) | (with_reducible refine World.grownBy.trans ?_ (below_grownN _ (Below.refl _ _).drew))))).1.choose_spec.2.2.2 _) HG5.out.grown)
             go_roundw
             case rel => exact ⟨k + 1, acts ++ [⟨3, (p : Nat), (q : Nat), (nn : Int), 0, ⟨0, 0⟩, ⟨#[]⟩, ⟨#[]⟩⟩], by omega, by omega, by go_num, by rw [List.length_append, HAL.out]; rfl, fun c hc => (List.mem_append.1 hc).elim (HRA.out c) (fun h => by rw [List.mem_singleton] at h; rw [h]; exact HRX.out), HO5.out, HB5.out⟩
             case measure => simp [intOf]; omega
           · have e7 : ((kq : Int) == 7) = false := by rw [beq_eq_false_iff_ne]; omega
             by_cases c16 : kq < 10
             · have d10 :  (kq : Int) < 10 := by omega
               have hrp := rawP_in rc
               have HPX := Go.Lib.hid (prefixK_any rc W2 HG3.out)
               obtain ⟨px, hpx⟩ : ∃ px, px = rawP rc := ⟨_, rfl⟩
               rw [← hpx] at hrp HPX
               clear hpx
               go_wp2_with fail
               refine HPX.out.mono ?_
               rintro e w3 ⟨rfl, hb3⟩
               have a0 := cell_keep hb3 a0
               have a1 := cell_keep hb3 a1
               have a2 := cell_keep hb3 a2
               have a3 := cell_keep hb3 a3
               have a4 := cell_keep hb3 a4
               have a5 := cell_keep hb3 a5
               have a6 := cell_keep hb3 a6
               have a7 := cell_keep hb3 a7
               have a8 := cell_keep hb3 a8
               have za0 := (hb3.frozen (p := ⟨AB, 0, none⟩) HW2Z.out).trans za0
               have za5 := (hb3.frozen (p := ⟨AB, 5, none⟩) HW2Z.out).trans za5
               have za6 := (hb3.frozen (p := ⟨AB, 6, none⟩) HW2Z.out).trans za6
               have HGA := Go.Lib.hid (below_grownN AB hb3)
               clear hb3
               have HRX := Go.Lib.hid (rawAct_of (nodes := nodes) (k := 4) (n := -1) (m := 0) (ad := px.addr) (bt := px.bits) (p := p) (q := q) (key := ⟨#[]⟩) (value := ⟨#[]⟩) (by decide) HP12.out HQ12.out HNN.out (by unfold inR; decide) (by unfold inR; decide) hrp.1 hrp.2 emptyB emptyB)
               go_wp2_with (at_builtin; refine wpList_oneR (r := actR) (base := w.heap.size) (y := ⟨4, (p : Nat), (q : Nat), -1, 0, ⟨px.addr, px.bits⟩, ⟨#[]⟩, ⟨#[]⟩⟩) (S := fun _ => False) elt_actA rfl (.tmp 117) (.tmp 119) rfl (HFW.out _ (by repeat (first | (with_reducible exact World.grownBy.refl _ _) | (with_reducible refine World.grownBy.trans ?_ (setCell_grown _ _ _ _)) | (with_reducible exact HGA.out) | (with_reducible refine World.grownBy.trans ?_ (below_grownN _ (Below.refl _ _).drew))))).1 ⟨rfl, HRX.out.wf⟩ (fun _ h => h.elim) rfl rfl (by first | rfl | simp) HLN.out (by decide) ?_; intro v5 w5 ho5 hg5; have HO5 := Go.Lib.hid ho5; have HG5 := Go.Lib.hid hg5; clear ho5 hg5)
               have HB5 := Go.Lib.hid ((ow_alloc (HFW.out _ (by repeat (first | (with_reducible exact World.grownBy.refl _ _) | (with_reducible refine World.grownBy.trans ?_ (setCell_grown _ _ _ _)) | (with_reducible exact HGA.out) | (with_reducible refine World.grownBy.trans ?_ (below_grownN _ (Below.refl _ _).drew))))).1 _).below_grown ((HFW.out _ (by repeat (first | (with_reducible exact World.grownBy.refl _ _) | (with_reducible refine World.grownBy.trans ?_ (setCell_grown _ _ _ _)) | (with_reducible exact HGA.out) | (with_reducible refine World.grownBy.trans ?_ (below_grownN _ (Below.refl _ _).drew))))).2.alloc (HFW.out _ (by repeat (first | (with_reducible exact World.grownBy.refl _ _) | (with_reducible refine World.grownBy.trans ?_ (setCell_grown _ _ _ _)) | (with_reducible exact HGA.out) | (with_reducible refine World.grownBy.trans ?_ (below_grownN _ (Below.refl _ _).drew))))).1.choose_spec.2.2.2 _) HG5.out.grown)
               go_roundw
               case rel => exact ⟨k + 1, acts ++ [⟨4, (p : Nat), (q : Nat), -1, 0, ⟨px.addr, px.bits⟩, ⟨#[]⟩, ⟨#[]⟩⟩], by omega, by omega, by go_num, by rw [List.length_append, HAL.out]; rfl, fun c hc => (List.mem_append.1 hc).elim (HRA.out c) (fun h => by rw [List.mem_singleton] at h; rw [h]; exact HRX.out), HO5.out, HB5.out⟩
               case measure => simp [intOf]; omega
             · have d10 : ¬ (kq : Int) < 10 := by omega
               by_cases c15 : kq = 10
               · have e10 : ((kq : Int) == 10) = true := by rw [beq_iff_eq]; omega
                 have hrp := rawP_in rc
                 have HPX := Go.Lib.hid (prefixK_any rc W2 HG3.out)
                 obtain ⟨px, hpx⟩ : ∃ px, px = rawP rc := ⟨_, rfl⟩
                 rw [← hpx] at hrp HPX
                 clear hpx
                 go_wp2_with fail
                 refine HPX.out.mono ?_
                 rintro e w3 ⟨rfl, hb3⟩
                 have a0 := cell_keep hb3 a0
                 have a1 := cell_keep hb3 a1
                 have a2 := cell_keep hb3 a2
                 have a3 := cell_keep hb3 a3
                 have a4 := cell_keep hb3 a4
                 have a5 := cell_keep hb3 a5
                 have a6 := cell_keep hb3 a6
                 have a7 := cell_keep hb3 a7
                 have a8 := cell_keep hb3 a8
                 have za0 := (hb3.frozen (p := ⟨AB, 0, none⟩) HW2Z.out).trans za0
                 have za5 := (hb3.frozen (p := ⟨AB, 5, none⟩) HW2Z.out).trans za5
                 have za6 := (hb3.frozen (p := ⟨AB, 6, none⟩) HW2Z.out).trans za6
                 have HGA := Go.Lib.hid (below_grownN AB hb3)
                 clear hb3
                 have HRX := Go.Lib.hid (rawAct_of (nodes := nodes) (k := 5) (n := -1) (m := 0) (ad := px.addr) (bt := px.bits) (p := p) (q := q) (key := ⟨#[]⟩) (value := ⟨#[]⟩) (by decide) HP12.out HQ12.out HNN.out (by unfold inR; decide) (by unfold inR; decide) hrp.1 hrp.2 emptyB emptyB)
                 go_wp2_with (at_builtin; refine wpList_oneR (r := actR) (base := w.heap.size) (y := ⟨5, (p : Nat), (q : Nat), -1, 0, ⟨px.addr, px.bits⟩, ⟨#[]⟩, ⟨#[]⟩⟩) (S := fun _ => False) elt_actA rfl (.tmp 117) (.tmp 119) rfl (HFW.out _ (by repeat (first | (with_reducible exact World.grownBy.refl _ _) | (with_reducible refine World.grownBy.trans ?_ (setCell_grown _ _ _ _)) | (with_reducible exact HGA.out) | (with_reducible refine World.grownBy.trans ?_ (below_grownN _ (Below.refl _ _).drew))))).1 ⟨rfl, HRX.out.wf⟩ (fun _ h => h.elim) rfl rfl (by first | rfl | simp) HLN.out (by decide) ?_; intro v5 w5 ho5 hg5; have HO5 := Go.Lib.hid ho5; have HG5 := Go.Lib.hid hg5; clear ho5 hg5)
                 have HB5 := Go.Lib.hid ((ow_alloc (HFW.out _ (by repeat (first | (with_reducible exact World.grownBy.refl _ _) | (with_reducible refine World.grownBy.trans ?_ (setCell_grown _ _ _ _)) | (with_reducible exact HGA.out) | (with_reducible refine World.grownBy.trans ?_ (below_grownN _ (Below.refl _ _).drew))))).1 _).below_grown ((HFW.out _ (by repeat (first | (with_reducible exact World.grownBy.refl _ _) | (with_reducible refine World.grownBy.trans ?_ (setCell_grown _ _ _ _)) | (with_reducible exact HGA.out) | (with_reducible refine World.grownBy.trans ?_ (below_grownN _ (Below.refl _ _).drew))))).2.alloc (HFW.out _ (by repeat (first | (with_reducible exact World.grownBy.refl _ _) | (with_reducible refine World.grownBy.trans ?_ (setCell_grown _ _ _ _)) | (with_reducible exact HGA.out) | (with_reducible refine World.grownBy.trans ?_ (below_grownN _ (Below.refl _ _).drew))))).1.choose_spec.2.2.2 _) HG5.out.grown)
                 go_roundw
                 case rel => exact ⟨k + 1, acts ++ [⟨5, (p : Nat), (q : Nat), -1, 0, ⟨px.addr, px.bits⟩, ⟨#[]⟩, ⟨#[]⟩⟩], by omega, by omega, by go_num, by rw [List.length_append, HAL.out]; rfl, fun c hc => (List.mem_append.1 hc).elim (HRA.out c) (fun h => by rw [List.mem_singleton] at h; rw [h]; exact HRX.out), HO5.out, HB5.out⟩
                 case measure => simp [intOf]; omega
               · have e10 : ((kq : Int) == 10) = false := by rw [beq_eq_false_iff_ne]; omega
                 by_cases c14 : kq < 14
                 · have d14 :  (kq : Int) < 14 := by omega
                   have HRX := Go.Lib.hid (rawAct_of (nodes := nodes) (k := 6) (n := -1) (m := 0) (ad := 0) (bt := 0) (p := p) (q := q) (key := ⟨#[]⟩) (value := ⟨#[]⟩) (by decide) HP12.out HQ12.out HNN.out (by unfold inR; decide) (by unfold inR; decide) (by unfold inR; decide) (by unfold inR; decide) emptyB emptyB)
                   go_wp2_with (at_builtin; refine wpList_oneR (r := actR) (base := w.heap.size) (y := ⟨6, (p : Nat), (q : Nat), -1, 0, ⟨0, 0⟩, ⟨#[]⟩, ⟨#[]⟩⟩) (S := fun _ => False) elt_actA rfl (.tmp 117) (.tmp 119) rfl (HFW.out _ (by repeat (first | (with_reducible exact World.grownBy.refl _ _) | (with_reducible refine World.grownBy.trans ?_ (setCell_grown _ _ _ _)) | (with_reducible exact HGA.out) | (with_reducible refine World.grownBy.trans ?_ (below_grownN _ (Below.refl _ _).drew))))).1 ⟨rfl, HRX.out.wf⟩ (fun _ h => h.elim) rfl rfl (by first | rfl | simp) HLN.out (by decide) ?_; intro v5 w5 ho5 hg5; have HO5 := Go.Lib.hid ho5; have HG5 := Go.Lib.hid hg5; clear ho5 hg5)
                   have HB5 := Go.Lib.hid ((ow_alloc (HFW.out _ (by repeat (first | (with_reducible exact World.grownBy.refl _ _) | (with_reducible refine World.grownBy.trans ?_ (setCell_grown _ _ _ _)) | (with_reducible exact HGA.out) | (with_reducible refine World.grownBy.trans ?_ (below_grownN _ (Below.refl _ _).drew))))).1 _).below_grown ((HFW.out _ (by repeat (first | (with_reducible exact World.grownBy.refl _ _) | (with_reducible refine World.grownBy.trans ?_ (setCell_grown _ _ _ _)) | (with_reducible exact HGA.out) | (with_reducible refine World.grownBy.trans ?_ (below_grownN _ (Below.refl _ _).drew))))).2.alloc (HFW.out _ (by repeat (first | (with_reducible exact World.grownBy.refl _ _) | (with_reducible refine World.grownBy.trans ?_ (setCell_grown _ _ _ _)) | (with_reducible exact HGA.out) | (with_reducible refine World.grownBy.trans ?_ (below_grownN _ (Below.refl _ _).drew))))).1.choose_spec.2.2.2 _) HG5.out.grown)
                   go_roundw
                   case rel => exact ⟨k + 1, acts ++ [⟨6, (p : Nat), (q : Nat), -1, 0, ⟨0, 0⟩, ⟨#[]⟩, ⟨#[]⟩⟩], by omega, by omega, by go_num, by rw [List.length_append, HAL.out]; rfl, fun c hc => (List.mem_append.1 hc).elim (HRA.out c) (fun h => by rw [List.mem_singleton] at h; rw [h]; exact HRX.out), HO5.out, HB5.out⟩
                   case measure => simp [intOf]; omega
                 · have d14 : ¬ (kq : Int) < 14 := by omega
                   by_cases c13 : kq < 19
                   · have d19 :  (kq : Int) < 19 := by omega
                     obtain ⟨n8, hn8⟩ : ∃ y, y = pickN rc 8 := ⟨_, rfl⟩
                     have HP8 := Go.Lib.hid (fun w => picked_any rc 8 w HG3.out (by omega) (by omega))
                     rw [← hn8] at HP8
                     have ln8 : n8 < 8 := by rw [hn8]; exact pickN_lt _ _ (by omega)
                     have zn8 : (0 : Int) ≤ (n8 : Int) := Int.natCast_nonneg n8
                     clear hn8
                     obtain ⟨nn, hnn⟩ : ∃ y, y = pickN rc 100 := ⟨_, rfl⟩
                     have HPC := Go.Lib.hid (fun w => picked_any rc 100 w HG3.out (by omega) (by omega))
                     rw [← hnn] at HPC
                     have lnn : nn < 100 := by rw [hnn]; exact pickN_lt _ _ (by omega)
                     have znn : (0 : Int) ≤ (nn : Int) := Int.natCast_nonneg nn
                     clear hnn
                     go_wp2_with fail
                     refine (HP8.out _).mono ?_
                     rintro e w' ⟨rfl, rfl⟩
                     by_cases h8 : n8 = 0
                     · have e8 : ((n8 : Int) == 0) = true := by rw [beq_iff_eq]; omega
                       go_wp2_with fail
                       refine (HPC.out _).mono ?_
                       rintro e w' ⟨rfl, rfl⟩
                       have HRX := Go.Lib.hid (rawAct_of (nodes := nodes) (k := 7) (n := (nn : Int)) (m := 0) (ad := 0) (bt := 0) (p := p) (q := q) (key := ⟨#[]⟩) (value := ⟨#[]⟩) (by decide) HP12.out HQ12.out HNN.out (by unfold inR; omega) (by unfold inR; decide) (by unfold inR; decide) (by unfold inR; decide) emptyB emptyB)
                       go_wp2_with (at_builtin; refine wpList_oneR (r := actR) (base := w.heap.size) (y := ⟨7, (p : Nat), (q : Nat), (nn : Int), 0, ⟨0, 0⟩, ⟨#[]⟩, ⟨#[]⟩⟩) (S := fun _ => False) elt_actA rfl (.tmp 117) (.tmp 119) rfl (HFW.out _ (by repeat (first | (with_reducible exact World.grownBy.refl _ _) | (with_reducible refine World.grownBy.trans ?_ (setCell_grown _ _ _ _)) | (with_reducible exact HGA.out) | (with_reducible refine World.grownBy.trans ?_ (below_grownN _ (Below.refl _ _).drew))))).1 ⟨rfl, HRX.out.wf⟩ (fun _ h => h.elim) rfl rfl (by first | rfl | simp) HLN.out (by decide) ?_; intro v5 w5 ho5 hg5; have HO5 := Go.Lib.hid ho5; have HG5 := Go.Lib.hid hg5; clear ho5 hg5)
                       have HB5 := Go.Lib.hid ((ow_alloc (HFW.out _ (by repeat (first | (with_reducible exact World.grownBy.refl _ _) | (with_reducible refine World.grownBy.trans ?_ (setCell_grown _ _ _ _)) | (with_reducible exact HGA.out) | (with_reducible refine World.grownBy.trans ?_ (below_grownN _ (Below.refl _ _).drew))))).1 _).below_grown ((HFW.out _ (by repeat (first | (with_reducible exact World.grownBy.refl _ _) | (with_reducible refine World.grownBy.trans ?_ (setCell_grown _ _ _ _)) | (with_reducible exact HGA.out) | (with_reducible refine World.grownBy.trans ?_ (below_grownN _ (Below.refl _ _).drew))))).2.alloc (HFW.out _ (by repeat (first | (with_reducible exact World.grownBy.refl _ _) | (with_reducible refine World.grownBy.trans ?_ (setCell_grown _ _ _ _)) | (with_reducible exact HGA.out) | (with_reducible refine World.grownBy.trans ?_ (below_grownN _ (Below.refl _ _).drew))))).1.choose_spec.2.2.2 _) HG5.out.grown)
                       go_roundw
                       case rel => exact ⟨k + 1, acts ++ [⟨7, (p : Nat), (q : Nat), (nn : Int), 0, ⟨0, 0⟩, ⟨#[]⟩, ⟨#[]⟩⟩], by omega, by omega, by go_num, by rw [List.length_append, HAL.out]; rfl, fun c hc => (List.mem_append.1 hc).elim (HRA.out c) (fun h => by rw [List.mem_singleton] at h; rw [h]; exact HRX.out), HO5.out, HB5.out⟩
                       case measure => simp [intOf]; omega
                     · have e8 : ((n8 : Int) == 0) = false := by rw [beq_eq_false_iff_ne]; omega
                       have HRX := Go.Lib.hid (rawAct_of (nodes := nodes) (k := 7) (n := -1) (m := 0) (ad := 0) (bt := 0) (p := p) (q := q) (key := ⟨#[]⟩) (value := ⟨#[]⟩) (by decide) HP12.out HQ12.out HNN.out (by unfold inR; decide) (by unfold inR; decide) (by unfold inR; decide) (by unfold inR; decide) emptyB emptyB)
                       go_wp2_with (at_builtin; refine wpList_oneR (r := actR) (base := w.heap.size) (y := ⟨7, (p : Nat), (q : Nat), -1, 0, ⟨0, 0⟩, ⟨#[]⟩, ⟨#[]⟩⟩) (S := fun _ => False) elt_actA rfl (.tmp 117) (.tmp 119) rfl (HFW.out _ (by repeat (first | (with_reducible exact World.grownBy.refl _ _) | (with_reducible refine World.grownBy.trans ?_ (setCell_grown _ _ _ _)) | (with_reducible exact HGA.out) | (with_reducible refine World.grownBy.trans ?_ (below_grownN _ (Below.refl _ _).drew))))).1 ⟨rfl, HRX.out.wf⟩ (fun _ h => h.elim) rfl rfl (by first | rfl | simp) HLN.out (by decide) ?_; intro v5 w5 ho5 hg5; have HO5 := Go.Lib.hid ho5; have HG5 := Go.Lib.hid hg5; clear ho5 hg5)
                       have HB5 := Go.Lib.hid ((ow_alloc (HFW.out _ (by repeat (first | (with_reducible exact World.grownBy.refl _ _) | (with_reducible refine World.grownBy.trans ?_ (setCell_grown _ _ _ _)) | (with_reducible exact HGA.out) | (with_reducible refine World.grownBy.trans ?_ (below_grownN _ (Below.refl _ _).drew))))).1 _).below_grown ((HFW.out _ (by repeat (first | (with_reducible exact World.grownBy.refl _ _) | (with_reducible refine World.grownBy.trans ?_ (setCell_grown _ _ _ _)) | (with_reducible exact HGA.out) | (with_reducible refine World.grownBy.trans ?_ (below_grownN _ (Below.refl _ _).drew))))).2.alloc (HFW.out _ (by repeat (first | (with_reducible exact World.grownBy.refl _ _) | (with_reducible refine World.grownBy.trans ?_ (setCell_grown _ _ _ _)) | (with_reducible exact HGA.out) | (with_reducible refine World.grownBy.trans ?_ (below_grownN _ (Below.refl _ _).drew))))).1.choose_spec.2.2.2 _) HG5.out.grown)
                       go_roundw
                       case rel => exact ⟨k + 1, acts ++ [⟨7, (p : Nat), (q : Nat), -1, 0, ⟨0, 0⟩, ⟨#[]⟩, ⟨#[]⟩⟩], by omega, by omega, by go_num, by rw [List.length_append, HAL.out]; rfl, fun c hc => (List.mem_append.1 hc).elim (HRA.out c) (fun h => by rw [List.mem_singleton] at h; rw [h]; exact HRX.out), HO5.out, HB5.out⟩
                       case measure => simp [intOf]; omega
                   · have d19 : ¬ (kq : Int) < 19 := by omega
                     by_cases c12 : kq = 19
                     · have e19 : ((kq : Int) == 19) = true := by rw [beq_iff_eq]; omega
                       have HRQ := Go.Lib.hid (rawE_wf ⟨rk, ra, rb, rc⟩)
                       obtain ⟨EK, EN, EM, EV, hEE⟩ : ∃ a b c d, (⟨a, b, c, d⟩ : Entry) = rawE ⟨rk, ra, rb, rc⟩ := ⟨_, _, _, _, rfl⟩
                       have HPE := Go.Lib.hid (show ∀ w, Calls Tryz.prog 41 #[.agg #[.int .i64 rk, .int .i64 ra, .int .i64 rb, .int .i64 rc]] w fun e w' => e = .returned (rawE ⟨rk, ra, rb, rc⟩).val ∧ Below w.heap.size w w' from fun w => entryE_any ⟨rk, ra, rb, rc⟩ w HG0.out HG1.out HG2.out HG3.out)
                       rw [← hEE] at HPE HRQ
                       change Go.RowKit.Hid (∀ w, Calls Tryz.prog 41 #[.agg #[.int .i64 rk, .int .i64 ra, .int .i64 rb, .int .i64 rc]] w fun e w' => e = .returned (.agg #[.string EK, .int .i64 EN, .int .i64 EM, .string EV]) ∧ Below w.heap.size w w') at HPE
                       have HRX := Go.Lib.hid (rawAct_of (nodes := nodes) (k := 8) (n := -1) (m := 0) (ad := 0) (bt := 0) (p := p) (q := q) (key := EK) (value := EV) (by decide) HP12.out HQ12.out HNN.out (by unfold inR; decide) (by unfold inR; decide) (by unfold inR; decide) (by unfold inR; decide) HRQ.out.1 HRQ.out.2.2.2)
                       have HB0 := Go.Lib.hid (Below.refl W2.heap.size W2).drew
                       have HCL := Go.Lib.hid (show ∀ w', Below W2.heap.size W2 w' → ((w'.cell? ⟨B, 0, none⟩ = some (.int .i64 rk) ∧ w'.cell? ⟨B, 1, none⟩ = some (.int .i64 ra) ∧ w'.cell? ⟨B, 2, none⟩ = some (.int .i64 rb) ∧ w'.cell? ⟨B, 3, none⟩ = some (.int .i64 rc)) ∧ (∀ i, w'.cell? ⟨AB, i, none⟩ = (#[.int .i64 0, .int .i64 (p : Int), .int .i64 (q : Int), .int .i64 (-1), .int .i64 0, .int .i64 0, .int .i64 0, .string ⟨#[]⟩, .string ⟨#[]⟩] : Array Value)[i]?) ∧ (∀ i, w'.frozen? ⟨AB, i, none⟩ = false) ∧ W2.heap.size ≤ w'.heap.size) from fun w' hb' =>
                        ⟨⟨cell_keep hb' b0, cell_keep hb' b1, cell_keep hb' b2, cell_keep hb' b3⟩, fun i => (hb'.cell (p := ⟨AB, i, none⟩) HW2Z.out).trans (HC.out i), fun i => (hb'.frozen (p := ⟨AB, i, none⟩) HW2Z.out).trans (HF.out i), hb'.size⟩)
                       clear hEE a0 a1 a2 a3 a4 a5 a6 a7 a8 za0 za3 za4 za5 za6 za7 za8
                       have hfd0 := fun w => field0_run EK EV EN EM w
                       have hfd3 := fun w => field3_run EK EV EN EM w
                       have k0 := b0
                       have k1 := b1
                       have k2 := b2
                       have k3 := b3
                       clear b0 b1 b2 b3
                       go_wp2_with fail
                       go_region_held3 (fun w' => w'.cell? ⟨B, 0, none⟩ = some (.int .i64 rk) ∧ w'.cell? ⟨B, 1, none⟩ = some (.int .i64 ra) ∧ w'.cell? ⟨B, 2, none⟩ = some (.int .i64 rb) ∧ w'.cell? ⟨B, 3, none⟩ = some (.int .i64 rc)) (first | go_keep | exact ⟨k0, k1, k2, k3⟩ | (simp [World.cell?_setCell_other, hAB2, hBA, k0, k1, k2, k3]))
                        (first
                        | (go_at_call 41; with_reducible refine (HPE.out _).mono ?_; rintro e w2 ⟨rfl, hb2⟩; have HBB := Go.Lib.hid (Below.trans (by first | exact HBB.out | exact HB0.out) (hb2.mono (HCL.out _ (by first | exact HBB.out | exact HB0.out)).2.2.2)); clear hb2; obtain ⟨⟨k0, k1, k2, k3⟩, _⟩ := HCL.out _ HBB.out))
                       all_goals
                        obtain ⟨hc0, hf0, _⟩ := (HCL.out _ HBB.out).2
                        obtain ⟨W3, hW3⟩ : ∃ x, x = ((((w2.setCell ⟨AB, 0, none⟩ (.int .i64 8)).setCell ⟨AB, 7, none⟩ (.string EK)).setCell ⟨AB, 8, none⟩ (.string EV))) := ⟨_, rfl⟩
                        have hq := set3_cells (u := .int .i64 8) (v := .string EK) (s := .string EV) (x := 0) (y := 7) (z := 8) hc0 rfl rfl rfl (by decide) (by decide) (by decide)
                        have hg := (below_grownN AB HBB.out).trans (((setCell_grown w2 AB 0 (.int .i64 8)).trans (setCell_grown _ AB 7 (.string EK))).trans (setCell_grown _ AB 8 (.string EV)))
                        rw [← hW3] at hq hg ⊢
                        simp only [World.cell?_drew] at hq
                        have HGA := Go.Lib.hid hg
                        clear hg hW3 hc0 hf0 k0 k1 k2 k3
                        have a0 := hq 0
                        have a1 := hq 1
                        have a2 := hq 2
                        have a3 := hq 3
                        have a4 := hq 4
                        have a5 := hq 5
                        have a6 := hq 6
                        have a7 := hq 7
                        have a8 := hq 8
                        simp [-World.cell?_drew] at a0 a1 a2 a3 a4 a5 a6 a7 a8
                        clear hq hfd0 hfd3
                        go_wp2_with (at_builtin; refine wpList_oneR (r := actR) (base := w.heap.size) (y := ⟨8, (p : Nat), (q : Nat), -1, 0, ⟨0, 0⟩, EK, EV⟩) (S := fun _ => False) elt_actA rfl (.tmp 117) (.tmp 119) rfl (HFW.out _ (by repeat (first | (with_reducible exact World.grownBy.refl _ _) | (with_reducible refine World.grownBy.trans ?_ (setCell_grown _ _ _ _)) | (with_reducible exact HGA.out) | (with_reducible refine World.grownBy.trans ?_ (below_grownN _ (Below.refl _ _).drew))))).1 ⟨rfl, HRX.out.wf⟩ (fun _ h => h.elim) rfl rfl (by first | rfl | simp) HLN.out (by decide) ?_; intro v5 w5 ho5 hg5; have HO5 := Go.Lib.hid ho5; have HG5 := Go.Lib.hid hg5; clear ho5 hg5)
                        have HB5 := Go.Lib.hid ((ow_alloc (HFW.out _ (by repeat (first | (with_reducible exact World.grownBy.refl _ _) | (with_reducible refine World.grownBy.trans ?_ (setCell_grown _ _ _ _)) | (with_reducible exact HGA.out) | (with_reducible refine World.grownBy.trans ?_ (below_grownN _ (Below.refl _ _).drew))))).1 _).below_grown ((HFW.out _ (by repeat (first | (with_reducible exact World.grownBy.refl _ _) | (with_reducible refine World.grownBy.trans ?_ (setCell_grown _ _ _ _)) | (with_reducible exact HGA.out) | (with_reducible refine World.grownBy.trans ?_ (below_grownN _ (Below.refl _ _).drew))))).2.alloc (HFW.out _ (by repeat (first | (with_reducible exact World.grownBy.refl _ _) | (with_reducible refine World.grownBy.trans ?_ (setCell_grown _ _ _ _)) | (with_reducible exact HGA.out) | (with_reducible refine World.grownBy.trans ?_ (below_grownN _ (Below.refl _ _).drew))))).1.choose_spec.2.2.2 _) HG5.out.grown)
                        go_roundw
                        case rel => exact ⟨k + 1, acts ++ [⟨8, (p : Nat), (q : Nat), -1, 0, ⟨0, 0⟩, EK, EV⟩], by omega, by omega, by go_num, by rw [List.length_append, HAL.out]; rfl, fun c hc => (List.mem_append.1 hc).elim (HRA.out c) (fun h => by rw [List.mem_singleton] at h; rw [h]; exact HRX.out), HO5.out, HB5.out⟩
                        case measure => simp [intOf]; omega
                     · have e19 : ((kq : Int) == 19) = false := by rw [beq_eq_false_iff_ne]; omega
                       by_cases c11 : kq < 22
                       · have d22 :  (kq : Int) < 22 := by omega
                         have HRX := Go.Lib.hid (rawAct_of (nodes := nodes) (k := 9) (n := -1) (m := 0) (ad := 0) (bt := 0) (p := p) (q := q) (key := ⟨#[]⟩) (value := ⟨#[]⟩) (by decide) HP12.out HQ12.out HNN.out (by unfold inR; decide) (by unfold inR; decide) (by unfold inR; decide) (by unfold inR; decide) emptyB emptyB)
                         go_wp2_with (at_builtin; refine wpList_oneR (r := actR) (base := w.heap.size) (y := ⟨9, (p : Nat), (q : Nat), -1, 0, ⟨0, 0⟩, ⟨#[]⟩, ⟨#[]⟩⟩) (S := fun _ => False) elt_actA rfl (.tmp 117) (.tmp 119) rfl (HFW.out _ (by repeat (first | (with_reducible exact World.grownBy.refl _ _) | (with_reducible refine World.grownBy.trans ?_ (setCell_grown _ _ _ _)) | (with_reducible exact HGA.out) | (with_reducible refine World.grownBy.trans ?_ (below_grownN _ (Below.refl _ _).drew))))).1 ⟨rfl, HRX.out.wf⟩ (fun _ h => h.elim) rfl rfl (by first | rfl | simp) HLN.out (by decide) ?_; intro v5 w5 ho5 hg5; have HO5 := Go.Lib.hid ho5; have HG5 := Go.Lib.hid hg5; clear ho5 hg5)
                         have HB5 := Go.Lib.hid ((ow_alloc (HFW.out _ (by repeat (first | (with_reducible exact World.grownBy.refl _ _) | (with_reducible refine World.grownBy.trans ?_ (setCell_grown _ _ _ _)) | (with_reducible exact HGA.out) | (with_reducible refine World.grownBy.trans ?_ (below_grownN _ (Below.refl _ _).drew))))).1 _).below_grown ((HFW.out _ (by repeat (first | (with_reducible exact World.grownBy.refl _ _) | (with_reducible refine World.grownBy.trans ?_ (setCell_grown _ _ _ _)) | (with_reducible exact HGA.out) | (with_reducible refine World.grownBy.trans ?_ (below_grownN _ (Below.refl _ _).drew))))).2.alloc (HFW.out _ (by repeat (first | (with_reducible exact World.grownBy.refl _ _) | (with_reducible refine World.grownBy.trans ?_ (setCell_grown _ _ _ _)) | (with_reducible exact HGA.out) | (with_reducible refine World.grownBy.trans ?_ (below_grownN _ (Below.refl _ _).drew))))).1.choose_spec.2.2.2 _) HG5.out.grown)
                         go_roundw
                         case rel => exact ⟨k + 1, acts ++ [⟨9, (p : Nat), (q : Nat), -1, 0, ⟨0, 0⟩, ⟨#[]⟩, ⟨#[]⟩⟩], by omega, by omega, by go_num, by rw [List.length_append, HAL.out]; rfl, fun c hc => (List.mem_append.1 hc).elim (HRA.out c) (fun h => by rw [List.mem_singleton] at h; rw [h]; exact HRX.out), HO5.out, HB5.out⟩
                         case measure => simp [intOf]; omega
                       · have d22 : ¬ (kq : Int) < 22 := by omega
                         obtain ⟨n1, hn1⟩ : ∃ y, y = pickN rc 256 := ⟨_, rfl⟩
                         have HP1 := Go.Lib.hid (show ∀ w, Calls Tryz.prog 14 #[.int .i64 rc, .int .i64 256] w fun e w' => e = .returned (.int .i64 (pickN rc 256 : Nat)) ∧ w = w' from fun w => picked_any rc 256 w HG3.out (by omega) (by omega))
                         rw [← hn1] at HP1
                         have ln1 : n1 < 256 := by rw [hn1]; exact pickN_lt _ _ (by omega)
                         have zn1 : (0 : Int) ≤ (n1 : Int) := Int.natCast_nonneg n1
                         clear hn1
                         obtain ⟨n2, hn2⟩ : ∃ y, y = pickN rb 4 := ⟨_, rfl⟩
                         have HP2 := Go.Lib.hid (show ∀ w, Calls Tryz.prog 14 #[.int .i64 rb, .int .i64 4] w fun e w' => e = .returned (.int .i64 (pickN rb 4 : Nat)) ∧ w = w' from fun w => picked_any rb 4 w HG2.out (by omega) (by omega))
                         rw [← hn2] at HP2
                         have ln2 : n2 < 4 := by rw [hn2]; exact pickN_lt _ _ (by omega)
                         have zn2 : (0 : Int) ≤ (n2 : Int) := Int.natCast_nonneg n2
                         clear hn2
                         have HRX := Go.Lib.hid (rawAct_of (nodes := nodes) (k := 10) (n := (n1 : Int)) (m := (n2 : Int)) (ad := 0) (bt := 0) (p := p) (q := q) (key := ⟨#[]⟩) (value := ⟨#[]⟩) (by decide) HP12.out HQ12.out HNN.out (by unfold inR; omega) (by unfold inR; omega) (by unfold inR; decide) (by unfold inR; decide) emptyB emptyB)
                         go_wp2_with fail
                         go_region_held3 (fun w' => w'.cell? ⟨B, 2, none⟩ = some (.int .i64 rb) ∧ w'.cell? ⟨B, 3, none⟩ = some (.int .i64 rc)) (first | go_keep | exact ⟨b2, b3⟩ | (simp [World.cell?_setCell_other, hAB2, hBA, b2, b3]))
                          (first
                          | (go_at_call 14; with_reducible refine (HP1.out _).mono ?_; rintro e w' ⟨rfl, rfl⟩)
                          | (go_at_call 14; with_reducible refine (HP2.out _).mono ?_; rintro e w' ⟨rfl, rfl⟩))
                         all_goals
                          have hq := set3_cells (u := .int .i64 10) (v := .int .i64 (n1 : Int)) (s := .int .i64 (n2 : Int)) (x := 0) (y := 3) (z := 4) HC.out rfl rfl rfl (by decide) (by decide) (by decide)
                          have hg := grown3 W2 AB 0 3 4 (.int .i64 10) (.int .i64 (n1 : Int)) (.int .i64 (n2 : Int))
                          obtain ⟨W4, hW4⟩ : ∃ x, x = ((((W2.setCell ⟨AB, 0, none⟩ (.int .i64 10)).setCell ⟨AB, 3, none⟩ (.int .i64 (n1 : Int))).setCell ⟨AB, 4, none⟩ (.int .i64 (n2 : Int))).drew) := ⟨_, rfl⟩
                          rw [← hW4] at hq hg ⊢
                          have HGA := Go.Lib.hid hg
                          clear hg hW4 a0 a1 a2 a3 a4 a5 a6 a7 a8 za0 za3 za4 za5 za6 za7 za8
                          have a0 := hq 0
                          have a1 := hq 1
                          have a2 := hq 2
                          have a3 := hq 3
                          have a4 := hq 4
                          have a5 := hq 5
                          have a6 := hq 6
                          have a7 := hq 7
                          have a8 := hq 8
                          simp [-World.cell?_drew] at a0 a1 a2 a3 a4 a5 a6 a7 a8
                          clear hq
                          go_wp2_with (at_builtin; refine wpList_oneR (r := actR) (base := w.heap.size) (y := ⟨10, (p : Nat), (q : Nat), (n1 : Int), (n2 : Int), ⟨0, 0⟩, ⟨#[]⟩, ⟨#[]⟩⟩) (S := fun _ => False) elt_actA rfl (.tmp 117) (.tmp 119) rfl (HFW.out _ (by repeat (first | (with_reducible exact World.grownBy.refl _ _) | (with_reducible refine World.grownBy.trans ?_ (setCell_grown _ _ _ _)) | (with_reducible exact HGA.out) | (with_reducible refine World.grownBy.trans ?_ (below_grownN _ (Below.refl _ _).drew))))).1 ⟨rfl, HRX.out.wf⟩ (fun _ h => h.elim) rfl rfl (by first | rfl | simp) HLN.out (by decide) ?_; intro v5 w5 ho5 hg5; have HO5 := Go.Lib.hid ho5; have HG5 := Go.Lib.hid hg5; clear ho5 hg5)
                          have HB5 := Go.Lib.hid ((ow_alloc (HFW.out _ (by repeat (first | (with_reducible exact World.grownBy.refl _ _) | (with_reducible refine World.grownBy.trans ?_ (setCell_grown _ _ _ _)) | (with_reducible exact HGA.out) | (with_reducible refine World.grownBy.trans ?_ (below_grownN _ (Below.refl _ _).drew))))).1 _).below_grown ((HFW.out _ (by repeat (first | (with_reducible exact World.grownBy.refl _ _) | (with_reducible refine World.grownBy.trans ?_ (setCell_grown _ _ _ _)) | (with_reducible exact HGA.out) | (with_reducible refine World.grownBy.trans ?_ (below_grownN _ (Below.refl _ _).drew))))).2.alloc (HFW.out _ (by repeat (first | (with_reducible exact World.grownBy.refl _ _) | (with_reducible refine World.grownBy.trans ?_ (setCell_grown _ _ _ _)) | (with_reducible exact HGA.out) | (with_reducible refine World.grownBy.trans ?_ (below_grownN _ (Below.refl _ _).drew))))).1.choose_spec.2.2.2 _) HG5.out.grown)
                          go_roundw
                          case rel => exact ⟨k + 1, acts ++ [⟨10, (p : Nat), (q : Nat), (n1 : Int), (n2 : Int), ⟨0, 0⟩, ⟨#[]⟩, ⟨#[]⟩⟩], by omega, by omega, by go_num, by rw [List.length_append, HAL.out]; rfl, fun c hc => (List.mem_append.1 hc).elim (HRA.out c) (fun h => by rw [List.mem_singleton] at h; rw [h]; exact HRX.out), HO5.out, HB5.out⟩
                          case measure => simp [intOf]; omega
    · have hki : (k : Int) < (xs.length : Int) := by omega
      have hkj : ¬ (k : Int) < (most : Int) := by omega
      go_wp2_with fail
      go_ret
      exact ⟨_, acts, rfl, by have := HAL.out; omega, HRA.out, HO.out, HB.out⟩
  · have hki : ¬ (k : Int) < (xs.length : Int) := by omega
    go_wp2_with fail
    go_ret
    exact ⟨_, acts, rfl, by have := HAL.out; omega, HRA.out, HO.out, HB.out⟩
end Go.Proofs.YtbhbilenbbldnaaGreatDoor

namespace Go.Proofs.YtbhbilenbbldnaaGreatDoor
open Go Go.RowKit Go.Deep
end Go.Proofs.YtbhbilenbbldnaaGreatDoor

namespace Go.Proofs.YtbhbilenbbldnaaGreatDoor
open Go Go.RowKit Go.Deep
theorem Sl.store {w : World} {b off c n : Nat} {xs : List (List Entry)} (h : Sl (slR entR) w (.slice (some ⟨b, off, none⟩) n c) xs) {k : Nat} (hk : k < xs.length) :
  ∃ v, w.cell? ⟨b, off + k, none⟩ = some v ∧ Sl entR w v xs[k] := by
 obtain ⟨cs, ⟨v, rfl, h1⟩, hc⟩ := h.cell hk
 exact ⟨v, by simpa [slR] using hc 0 _ rfl, h1⟩
theorem Sl.rcode {w : World} {b off c n : Nat} {xs : List Rpl} (h : Sl rplR w (.slice (some ⟨b, off, none⟩) n c) xs) {k : Nat} (hk : k < xs.length) : w.cell? ⟨b, off + k * 4, none⟩ = some (.int .i64 xs[k].code) := by
 obtain ⟨_, _, g, _⟩ := h.rpl hk; exact g
theorem two_acts {w : World} {x y : ActV} (hx : x.wf) (hy : y.wf) :
  SlR actR (w.alloc (.cells (x.cells ++ y.cells).toArray 34)) (fun k => k = w.heap.size) (.slice (some ⟨w.heap.size, 0, none⟩) 2 2) [x, y] := by
 refine ⟨some ⟨w.heap.size, 0, none⟩, 2, rfl, Nat.le_refl _, by decide, fun i z hz => ?_⟩
 match i, hz with
 | 0, hz =>
   simp at hz; subst hz
   refine ⟨w.heap.size, 0, x.cells, rfl, rfl, by simp, ⟨rfl, hx⟩, fun j u hu => ?_⟩
   rw [World.cell?_alloc_at _ _ _ _ rfl, List.getElem?_toArray]
   have hj : j < x.cells.length := by
    rcases Nat.lt_or_ge j x.cells.length with h | h
    · exact h
    · rw [List.getElem?_eq_none h] at hu; cases hu
   rw [show 0 + 0 * actR.size + j = j by omega, List.getElem?_append_left hj]
   exact hu
 | 1, hz =>
   simp at hz; subst hz
   refine ⟨w.heap.size, 0, y.cells, rfl, rfl, by simp, ⟨rfl, hy⟩, fun j u hu => ?_⟩
   rw [World.cell?_alloc_at _ _ _ _ rfl, List.getElem?_toArray]
   rw [show 0 + 1 * actR.size + j = x.cells.length + j by show 0 + 1 * 9 + j = 9 + j; omega, List.getElem?_append_right (by omega)]
   rw [show x.cells.length + j - x.cells.length = j by omega]
   exact hu
 | i + 2, hz => simp at hz
theorem wpList_two {ops : Array Oper} {rest : List Oper} {o : Oper} {a : Act} {Q : Exit → Act → World → Prop} {w : World} {base : Nat} (hgd : o.guard = none) (s x : Operand)
  (ho : o.op = .call { callee := .builtin .append, args := #[s, x], argTypes := #[23, 23] }) {v : Value} {xs : List ActV} {y z : ActV}
  (hown : OwR actR 34 base w v xs) (hy : y.wf) (hz : z.wf) (hs : a.eval s = v)
  {B : Nat} (hx : a.eval x = .slice (some ⟨B, 0, none⟩) 2 2) (hB : B = w.heap.size) (hb : xs.length ≤ 100000)
  (h : ∀ v' w', OwR actR 34 base w' v' (xs ++ [y, z]) → (w.alloc (.cells (y.cells ++ z.cells).toArray 34)).grownBy w' v.ownBlock → wpList Tryz.prog ops Q rest (a.put o.dst v') w') :
  wpList Tryz.prog ops Q (o :: rest) a (w.alloc (.cells (y.cells ++ z.cells).toArray 34)) := by
 subst hB
 exact wpList_own_append hgd s x ho elt_actA (ow_alloc hown _) (two_acts hy hz) hs hx (fun cs y h => actR.keep h (fun _ _ => rfl) (fun k hk => by
  subst hk; exact ⟨by simp, fun e => by have := (hown.base_le _ e).2; omega⟩)) (by unfold maxLen; simp; omega) (by simp; omega) (fun v' w' h1 h2 _ => h v' w' h1 h2)
def litA (k a b n m : Int) : ActV := ⟨k, a, b, n, m, ⟨0, 0⟩, ⟨#[]⟩, ⟨#[]⟩⟩
theorem lit_wf {k a b n m : Int} (hk : -1000000 ≤ k ∧ k ≤ 1000000) (ha : -1000000 ≤ a ∧ a ≤ 1000000) (hb : -1000000 ≤ b ∧ b ≤ 1000000) (hn : -1000000 ≤ n ∧ n ≤ 1000000) (hm : -1000000 ≤ m ∧ m ≤ 1000000) : (litA k a b n m).wf := by
 refine ⟨?_, ?_, ?_, ?_, ?_, ?_, ?_, emptyB, emptyB⟩
 · show inR k; unfold inR; omega
 · show inR a; unfold inR; omega
 · show inR b; unfold inR; omega
 · show inR n; unfold inR; omega
 · show inR m; unfold inR; omega
 · show inR 0; unfold inR; omega
 · show inR 0; unfold inR; omega
theorem runS_len0 (acts : List ActV) : (runS net0 acts).2.length = acts.length := runS_len acts net0
theorem stores_len (acts : List ActV) : ((List.range 12).map fun i => ((runS net0 acts).1.nd i).st).length = 12 := by simp
theorem stores_at (acts : List ActV) (k : Nat) (h : k < ((List.range 12).map fun i => ((runS net0 acts).1.nd i).st).length) : ((List.range 12).map fun i => ((runS net0 acts).1.nd i).st)[k] = ((runS net0 acts).1.nd k).st := by simp
end Go.Proofs.YtbhbilenbbldnaaGreatDoor
