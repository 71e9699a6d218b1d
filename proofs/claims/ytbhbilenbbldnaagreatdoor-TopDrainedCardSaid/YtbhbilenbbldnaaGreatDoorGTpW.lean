/-
  
-/
import Derived.Test.YtbhbilenbbldnaaGreatDoorGTpA
import Derived.Test.YtbhbilenbbldnaaGreatDoorGTbB
set_option linter.unusedVariables false
set_option linter.unusedSimpArgs false
set_option maxHeartbeats 16000000
namespace Go.Proofs.YtbhbilenbbldnaaGreatDoor
section
open Go Go.RowKit Go.Deep Go.Sort
set_option maxRecDepth 100000 in
theorem growA_any (n : Nat) (w : World) (hn : n <= 1000000) :
  Calls Tryz.prog 50 #[.slice none 0 0, .int .i64 (n : Nat)] w fun e w' => ∃ v, e = .returned v /\ OwR actR 34 w.heap.size w' v [] /\ Below w.heap.size w w' := by
 by_cases h0 : n = 0
 · subst h0
   go_enter Tryz.func50, Tryz.ntmps50
   go_wp2_with fail
   go_ret
   exact ⟨_, rfl, OwR.nil _ _ (zab _), zad _ _⟩
 · obtain ⟨ii, z, q1, q2, q3, q4, q5⟩ := elt_actA.info
   have hpos : (0 : Int) < (n : Int) := by omega
   have hnn : ¬ ((n : Int) < 0) := by omega
   obtain ⟨G, hG⟩ : ∃ G, G = grownCap w n 0 34 := ⟨_, rfl⟩
   obtain ⟨ROW, hROW⟩ : ∃ ROW : Array Value, ROW = Builtin.zeroCells z.cells n ++ Builtin.zeroCells z.cells (G - n) := ⟨_, rfl⟩
   have hGn : n <= G := by rw [hG]; exact grownCap_ge w _ _ _
   have hGm : G <= maxLen := by rw [hG]; exact grownCap_le_maxLen w _ _ _ (by unfold maxLen; omega)
   have hrz : ∀ ty, (Builtin.append_ #[23, 3] ty #[.slice none 0 0, .int .i64 (n : Nat)]).run Tryz.prog w = .ok (.slice (some ⟨w.heap.size, 0, none⟩) n G) (w.drew.alloc (.cells ROW 34)) := fun ty => by
    have h := Lib.run_append_nil_zeros (P := Tryz.prog) w 23 3 ty 34 ii z .i64 .i64 Tryz.underlying23 Tryz.underlying3 q1 q2 n (by omega) (by omega) (by omega) (by rw [q4]; omega)
    rw [<- hG, <- hROW] at h
    exact h
   have hRl : ROW.size = G * 9 := by
    rw [hROW]
    simp only [zci, size_zeroCells, q5, q3]
    rw [<- Nat.add_mul]
    congr 1
    omega
   have hown : OwR actR 34 w.heap.size (w.drew.alloc (.cells ROW 34)) (.slice (some ⟨w.heap.size, 0, none⟩) 0 G) [] :=
    OwR.of_css (css := []) rfl (fun i cs x hc _ => by simp at hc) (OwR.of_raw (xs := []) ⟨by simp, .inr ⟨w.heap.size, G, ROW, rfl, zab _, heap_alloc_new w.drew _, zam _, hGm, by rw [hRl]; rfl, by simp⟩⟩ (fun x hx => by cases hx) (by simp))
   have HOWN := zaa hown
   have HB := zaa (((zad w.heap.size w).drew).alloc (zab _) (.cells ROW 34))
   clear hown hRl hROW hG q1 q2 q3 q4 q5
   go_enter Tryz.func50, Tryz.ntmps50
   go_wp2_with (at_builtin; refine Lib.wpList_append_run _ rfl _ _ _ _ rfl _ _ rfl rfl _ _ (hrz _) ?_)
   go_ret
   exact ⟨_, rfl, HOWN.out, HB.out⟩
def cat3 (xs ys zs : List ActV) : Nat -> List ActV
 | 0 => []
 | 1 => xs
 | 2 => xs ++ ys
 | _ => xs ++ ys ++ zs
set_option maxRecDepth 100000 in
theorem concatA_any (v1 v2 v3 : Value) (xs ys zs : List ActV) (B : Nat) (w : World) (h1 : Sl actR w v1 xs) (h2 : Sl actR w v2 ys) (h3 : Sl actR w v3 zs) (c1 : w.cell? ⟨B, 0, none⟩ = some v1) (c2 : w.cell? ⟨B, 1, none⟩ = some v2) (c3 : w.cell? ⟨B, 2, none⟩ = some v3) (hl1 : xs.length <= 1000) (hl2 : ys.length <= 1000) (hl3 : zs.length <= 1000) :
  Calls Tryz.prog 28 #[.slice (some ⟨B, 0, none⟩) 3 3] w fun e w' => ∃ v, e = .returned v /\ OwR actR 34 w.heap.size w' v (xs ++ ys ++ zs) /\ Below w.heap.size w w' := by
 obtain ⟨A1, k1, rfl⟩ := h1.form
 obtain ⟨A2, k2, rfl⟩ := h2.form
 obtain ⟨A3, k3, rfl⟩ := h3.form
 have H1 := zaa h1
 have H2 := zaa h2
 have H3 := zaa h3
 have C1 := zaa c1
 have C2 := zaa c2
 have C3 := zaa c3
 have hx9 : (xs.length : Int) <= 1000 := by omega
 have hy9 : (ys.length : Int) <= 1000 := by omega
 have hz9 : (zs.length : Int) <= 1000 := by omega
 have hx0 : (0 : Int) <= (xs.length : Int) := zae _
 have hy0 : (0 : Int) <= (ys.length : Int) := zae _
 have hz0 : (0 : Int) <= (zs.length : Int) := zae _
 clear h1 h2 h3
 go_enter Tryz.func28, Tryz.ntmps28
 go_wp2_with fail
 go_loopw [3, 11] (fun s i wr => ∃ (k : Nat) (n : Nat), k <= 3 /\ i = .int .i64 k /\ n = (cat3 xs ys zs k).length /\ s = .int .i64 (n : Nat) /\ wr = w) (fun _ i _ => 3 - (intOf i).toNat)
 case atStart => exact ⟨0, 0, zam _, rfl, rfl, rfl, rfl⟩
 case round =>
  obtain ⟨k, n, hk, rfl, hn, rfl, rfl⟩ := hrel
  have hcase : k = 0 ∨ k = 1 ∨ k = 2 ∨ k = 3 := by omega
  rcases hcase with rfl | rfl | rfl | rfl
  · obtain rfl : n = 0 := hn
    go_wp2_with fail
    go_roundw
    case rel => exact ⟨1, xs.length, by omega, by first | rfl | go_num, rfl, by first | rfl | go_num, by first | rfl | trivial⟩
    case measure => simp [intOf]
  · have hn2 : n = xs.length := hn
    have hnb : (n : Int) <= 1000 := by omega
    have hn0 : (0 : Int) <= (n : Int) := zae _
    have HN := zaa hn2
    clear hn hn2
    go_wp2_with fail
    go_roundw
    case rel => exact ⟨2, n + ys.length, by omega, by first | rfl | go_num, by rw [HN.out]; exact (zag ..).symm, by first | rfl | go_num, by first | rfl | trivial⟩
    case measure => simp [intOf]
  · have hn2 : n = xs.length + ys.length := by rw [hn]; exact zag ..
    have hnb : (n : Int) <= 2000 := by omega
    have hn0 : (0 : Int) <= (n : Int) := zae _
    have HN := zaa hn2
    clear hn hn2
    go_wp2_with fail
    go_roundw
    case rel => exact ⟨3, n + zs.length, by omega, by first | rfl | go_num, by rw [HN.out]; show _ = (xs ++ ys ++ zs).length; rw [zag, zag], by first | rfl | go_num, by first | rfl | trivial⟩
    case measure => simp [intOf]
  · obtain ⟨W, hW⟩ : ∃ x, x = wr := ⟨_, rfl⟩
    subst hW
    have hn2 : n = xs.length + ys.length + zs.length := by rw [hn]; show (xs ++ ys ++ zs).length = _; rw [zag, zag]
    have HG := zaa (growA_any n W (by omega))
    clear hn hn2
    go_wp2_with (go_at_call 50; refine HG.out.mono ?_; rintro e w1 ⟨v1, rfl, ho1, hb1⟩)
    have HO1 := zaa ho1
    have HB1 := zaa hb1
    clear ho1 hb1 c1 c2 c3
    go_loopw [6, 27] (fun o i wr => ∃ k : Nat, k <= 3 /\ i = .int .i64 k /\ OwR actR 34 W.heap.size wr o (cat3 xs ys zs k) /\ Below W.heap.size W wr) (fun _ i _ => 3 - (intOf i).toNat)
    case atStart => exact ⟨0, zam _, rfl, HO1.out, HB1.out⟩
    case round =>
     obtain ⟨k, hk, rfl, ho, hb⟩ := hrel
     have HO := zaa ho
     have HB := zaa hb
     have c1 := cell_keep hb C1.out
     have c2 := cell_keep hb C2.out
     have c3 := cell_keep hb C3.out
     clear ho hb HO1 HB1
     have hcase : k = 0 ∨ k = 1 ∨ k = 2 ∨ k = 3 := by omega
     rcases hcase with rfl | rfl | rfl | rfl
     · go_wp2_with (at_builtin; refine wpList_gen (base := W.heap.size) elt_actA rfl _ _ rfl HO.out (H1.out.below HB.out) (fun _ _ h => h) rfl rfl (by show 0 + xs.length <= _; omega) (by decide) ?_; intro v5 w5 ho5 hg5)
       go_roundw
       case rel => exact ⟨1, by omega, by first | rfl | go_num, by simpa [cat3] using ho5, HO.out.below_grown HB.out hg5.grown⟩
       case measure => simp [intOf]
     · go_wp2_with (at_builtin; refine wpList_gen (base := W.heap.size) elt_actA rfl _ _ rfl HO.out (H2.out.below HB.out) (fun _ _ h => h) rfl rfl (by show xs.length + ys.length <= _; omega) (by decide) ?_; intro v5 w5 ho5 hg5)
       go_roundw
       case rel => exact ⟨2, by omega, by first | rfl | go_num, by simpa [cat3] using ho5, HO.out.below_grown HB.out hg5.grown⟩
       case measure => simp [intOf]
     · go_wp2_with (at_builtin; refine wpList_gen (base := W.heap.size) elt_actA rfl _ _ rfl HO.out (H3.out.below HB.out) (fun _ _ h => h) rfl rfl (by show (xs ++ ys).length + zs.length <= _; rw [zag]; omega) (by decide) ?_; intro v5 w5 ho5 hg5)
       go_roundw
       case rel => exact ⟨3, by omega, by first | rfl | go_num, by simpa [cat3] using ho5, HO.out.below_grown HB.out hg5.grown⟩
       case measure => simp [intOf]
     · go_wp2_with fail
       go_ret
       exact ⟨_, rfl, HO.out, HB.out⟩
end
section
open Go Go.RowKit Go.Deep
theorem walk_wf {a : Nat} {q p : Int} (ha : a < 5) (hq : 0 <= q /\ q <= 255) (hp : 0 <= p /\ p <= 9) : (walkA a q p).wf := lit_wf (by omega) (by omega) (by omega) (by omega) (by omega)
theorem concatW_any (v1 v3 : Value) (acts : List ActV) (a : Nat) (q p : Int) (w : World) (h1 : Sl actR w v1 acts) (h3 : Sl actR w v3 settleL) (hl : acts.length <= 1000) (hwf : (walkA a q p).wf) (B C : Nat) (hB : B = w.heap.size) (hC : C = w.heap.size + 1) :
  Calls Tryz.prog 28 #[.slice (some ⟨C, 0, none⟩) 3 3] ((w.alloc (.cells (walkA a q p).cells.toArray 34)).alloc (.cells #[v1, v3, .slice (some ⟨B, 0, none⟩) 1 1] 23)) fun e w' =>
   ∃ v, e = .returned v /\ OwR actR 34 w.heap.size w' v (acts ++ settleL ++ [walkA a q p]) /\ Below w.heap.size w w' := by
 subst hB hC
 have hal1 := (zad w.heap.size w).alloc (zab _) (.cells (walkA a q p).cells.toArray 34)
 have hal2 := hal1.alloc (by simp) (.cells #[v1, v3, .slice (some ⟨w.heap.size, 0, none⟩) 1 1] 23)
 have hz : (w.alloc (.cells (walkA a q p).cells.toArray 34)).heap.size = w.heap.size + 1 := by simp
 have hone : Sl actR (w.alloc (.cells (walkA a q p).cells.toArray 34)) (.slice (some ⟨w.heap.size, 0, none⟩) 1 1) [walkA a q p] :=
  SlR.keep (one_flat (r := actR) (cs := (walkA a q p).cells) (x := walkA a q p) rfl ⟨rfl, hwf⟩) (fun _ _ => rfl) (fun k hk => by rw [hz]; exact hk)
 have hc : ∀ i, ((w.alloc (.cells (walkA a q p).cells.toArray 34)).alloc (.cells #[v1, v3, .slice (some ⟨w.heap.size, 0, none⟩) 1 1] 23)).cell? ⟨w.heap.size + 1, i, none⟩ = (#[v1, v3, .slice (some ⟨w.heap.size, 0, none⟩) 1 1] : Array Value)[i]? := fun i => zaf _ _ _ _ hz.symm
 refine (concatA_any v1 v3 _ acts settleL [walkA a q p] (w.heap.size + 1) _ (h1.below hal2) (h3.below hal2) (hone.below ((zad _ _).alloc (zab _) _)) (by rw [hc]; rfl) (by rw [hc]; rfl) (by rw [hc]; rfl) hl (by rw [settle_len]; omega) (by simp)).mono ?_
 rintro e w' ⟨v, rfl, ho, hb⟩
 have hge : w.heap.size <= ((w.alloc (.cells (walkA a q p).cells.toArray 34)).alloc (.cells #[v1, v3, .slice (some ⟨w.heap.size, 0, none⟩) 1 1] 23)).heap.size := by simp; omega
 exact ⟨v, rfl, ho.lower hge, hal2.trans (hb.mono hge)⟩
theorem keep4 {w : World} {g b o : Nat} {u0 u1 u2 u3 v : Value} (h : ¬ b = g) (hc : w.cell? ⟨b, o, none⟩ = some v) : ((((w.setCell ⟨g, 0, none⟩ u0).setCell ⟨g, 1, none⟩ u1).setCell ⟨g, 2, none⟩ u2).setCell ⟨g, 3, none⟩ u3).cell? ⟨b, o, none⟩ = some v := by
 have hb : ∀ (w : World) (k : Nat) (u : Value), (w.setCell ⟨g, k, none⟩ u).cell? ⟨b, o, none⟩ = w.cell? ⟨b, o, none⟩ := fun w k u => zau (zak _ _ _ _ (show b ≠ g from h))
 rw [hb, hb, hb, hb]; exact hc
theorem put4 {B : Nat} {a w : World} {g : Nat} {u0 u1 u2 u3 : Value} (hb : Below B a w) (hg : B <= g) (hz : (w.cell? ⟨g, 3, none⟩).isSome = true) :
  Below B a ((((w.setCell ⟨g, 0, none⟩ u0).setCell ⟨g, 1, none⟩ u1).setCell ⟨g, 2, none⟩ u2).setCell ⟨g, 3, none⟩ u3) /\ ((((w.setCell ⟨g, 0, none⟩ u0).setCell ⟨g, 1, none⟩ u1).setCell ⟨g, 2, none⟩ u2).setCell ⟨g, 3, none⟩ u3).cell? ⟨g, 3, none⟩ = some u3 /\
   ((((w.setCell ⟨g, 0, none⟩ u0).setCell ⟨g, 1, none⟩ u1).setCell ⟨g, 2, none⟩ u2).setCell ⟨g, 3, none⟩ u3).heap.size = w.heap.size := by
 refine ⟨(((hb.setCell hg _).setCell hg _).setCell hg _).setCell hg _, ?_, by simp [World.setCell]⟩
 exact zaw _ _ _ (by
  rw [zah _ _ _ _ (by intro e; injection e with _ e _; omega), zah _ _ _ _ (by intro e; injection e with _ e _; omega), zah _ _ _ _ (by intro e; injection e with _ e _; omega)]
  exact hz)
end
end Go.Proofs.YtbhbilenbbldnaaGreatDoor
