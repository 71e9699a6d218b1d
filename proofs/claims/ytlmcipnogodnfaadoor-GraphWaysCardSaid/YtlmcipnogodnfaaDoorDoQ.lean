/-
  The heap of spots, walked: pop.
-/
import Derived.Test.YtlmcipnogodnfaaDoorDoP
namespace Go.Proofs.YtlmcipnogodnfaaDoor
open Go Go.RowKit Go.Deep

theorem down_end {f i : Nat} {l : List Spot} (h : l.length ≤ 2 * i + 1) : down f l i = l := by
  cases f with
  | zero => rfl
  | succ f => unfold down; rw [if_pos h]
theorem down_no {f i : Nat} {l : List Spot} (h : lessS (atS l (kid l l.length i)) (atS l i) = false) : down f l i = l := by
  cases f with
  | zero => rfl
  | succ f =>
    show (if _ then _ else if _ then _ else _) = _
    rw [h]
    split
    · rfl
    · rfl
theorem down_yes {f i : Nat} {l : List Spot} (hf : 0 < f) (h0 : ¬ l.length ≤ 2 * i + 1) (h : lessS (atS l (kid l l.length i)) (atS l i) = true) : down f l i = down (f - 1) (swapS l i (kid l l.length i)) (kid l l.length i) := by
  obtain ⟨f, rfl⟩ : ∃ g, f = g + 1 := ⟨f - 1, by omega⟩
  show (if _ then _ else if _ then _ else _) = _
  rw [if_neg h0, if_pos h]; rfl
theorem kid_two {i : Nat} {l : List Spot} (h : 2 * i + 2 < l.length) (hl : lessS (atS l (2 * i + 2)) (atS l (2 * i + 1)) = true) : kid l l.length i = 2 * i + 2 := by
  unfold kid; rw [if_pos ⟨h, hl⟩]
theorem kid_one {i : Nat} {l : List Spot} (h : ¬ 2 * i + 2 < l.length ∨ lessS (atS l (2 * i + 2)) (atS l (2 * i + 1)) = false) : kid l l.length i = 2 * i + 1 := by
  unfold kid; rw [if_neg]; rintro ⟨h1, h2⟩
  rcases h with h | h
  · exact h h1
  · rw [h] at h2; cases h2
/-- the last one put first, and the row cut -/
theorem HpAt.cut0 {w : World} {H base g cap m : Nat} {l : List Spot} (h1 : w.cell? ⟨H, 0, none⟩ = some (.slice (some ⟨g, 0, none⟩) l.length cap)) (hf : ∀ i, w.frozen? ⟨H, i, none⟩ = false) (hl : H < base) (hg : g ≠ H) (ho : OwR spotR 110 base w (.slice (some ⟨g, 0, none⟩) l.length cap) l)
    (hm : m + 1 = l.length) {yn yc : Int} (hy : Spot.mk yn yc = atS l m) (hr : inR yn ∧ inR yc) :
    HpAt ((((w.setCell ⟨g, 0, none⟩ (.int .i64 yn)).setCell ⟨g, 1, none⟩ (.int .i64 yc)).drew).setCell ⟨H, 0, none⟩ (.slice (some ⟨g, 0, none⟩) m cap)) H base ((l.set 0 (atS l (l.length - 1))).take (l.length - 1)) := by
  have e1 : ∀ (w : World) o u, (World.setCell w ⟨g, o, none⟩ u).cell? ⟨H, 0, none⟩ = w.cell? ⟨H, 0, none⟩ := fun w o u => World.cell?_setCell_other _ _ _ _ (by intro e; injection e with e _ _; exact hg e)
  have s1 := ho.set2 (i := 0) (by omega) ⟨yn, yc⟩ hr
  have s2 := (s1.cut (k := m) (by simp; omega)).keep (w' := ((w.setCell ⟨g, 0, none⟩ (.int .i64 yn)).setCell ⟨g, 1, none⟩ (.int .i64 yc)).drew) (Below.refl _ _).drew
  rw [show l.length - 1 = m by omega, ← hy]
  refine HpAt.put (v0 := .slice (some ⟨g, 0, none⟩) l.length cap) ?_ ?_ hl s2
  · show ((w.setCell ⟨g, 0, none⟩ (.int .i64 yn)).setCell ⟨g, 1, none⟩ (.int .i64 yc)).cell? _ = _
    rw [e1, e1]; exact h1
  · intro i
    show ((w.setCell ⟨g, 0, none⟩ (.int .i64 yn)).setCell ⟨g, 1, none⟩ (.int .i64 yc)).frozen? _ = _
    rw [World.frozen?_setCell, World.frozen?_setCell]; exact hf i

set_option maxRecDepth 50000 in
set_option maxHeartbeats 4000000 in
theorem pop_any (H base : Nat) (l : List Spot) (w : World) (h : HpAt w H base l) (h0 : 0 < l.length) (hlen : l.length ≤ 100000) :
    Calls Tryd.prog 58 #[.pointer (some ⟨H, 0, none⟩)] w fun e w' => e = .returned (.int .i64 (atS l 0).node) ∧ HpAt w' H base (popS l) ∧ Below H w w' := by
  have HP := Go.Lib.hid h
  obtain ⟨v, h1, h2⟩ := h.row
  obtain ⟨g, cap, rfl, hbg, hg, hcl, hfr, hrr, hcap, hmx⟩ := h2.slot h0
  have hH : H < w.heap.size := World.block_lt_of_cell? w _ h1
  obtain ⟨m, hm⟩ : ∃ m, m + 1 = l.length := ⟨l.length - 1, by omega⟩
  obtain ⟨n, hn⟩ : ∃ n, n = l.length := ⟨_, rfl⟩
  have hm1 : (n : Int) - 1 = (m : Int) := by omega
  have hml : (m : Int) < (n : Int) := by omega
  have hmx2 : (n : Int) ≤ 100000 := by omega
  have hn0 : (0 : Int) < (n : Int) := by omega
  have hm0 : (0 : Int) ≤ (m : Int) := by omega
  obtain ⟨a1, a2⟩ := hcl 0 h0
  rw [Nat.zero_mul] at a1 a2
  rw [Nat.zero_add] at a2
  obtain ⟨b1, b2⟩ := hcl m (by omega)
  have f0 := hfr 0
  have f1 := hfr 1
  have fH := h.fz 0
  obtain ⟨⟨xn, xc⟩, hX⟩ : ∃ x, x = atS l 0 := ⟨_, rfl⟩
  obtain ⟨⟨yn, yc⟩, hY⟩ : ∃ x, x = atS l m := ⟨_, rfl⟩
  rw [← hX] at a1 a2
  rw [← hY] at b1 b2
  rw [← hX]
  have HR := Go.Lib.hid (show inR yn ∧ inR yc by have := hrr m (by omega); rw [← hY] at this; exact this)
  have HLT := Go.Lib.hid h.lt
  have hgH : g ≠ H := by have := h.lt; omega
  have hgH2 : H ≠ g := fun e => hgH e.symm
  have HCUT := Go.Lib.hid (HpAt.cut0 h1 h.fz h.lt hgH h2 hm hY HR.out)
  have HLL := Go.Lib.hid hn
  have HMM := Go.Lib.hid hm
  rw [← hn] at h1 hcap
  have hcc : (m : Int) ≤ (cap : Int) := by omega
  have HBG := Go.Lib.hid (show H ≤ g by have := h.lt; omega)
  clear hX hY hcl hfr hrr h2 h hn hm h0
  go_enter Tryd.func58, Tryd.ntmps58
  go_wp2_with fail
  go_region
  all_goals
    go_wp2_with fail
    have HP1 := Go.Lib.hid (show HpAt (((((w.setCell ⟨g, 0, none⟩ (.int .i64 yn)).setCell ⟨g, 1, none⟩ (.int .i64 yc))).setCell ⟨H, 0, none⟩ (.slice (some ⟨g, 0, none⟩) m cap)).drew) H base ((l.set 0 (atS l (l.length - 1))).take (l.length - 1)) from HCUT.out)
    have HB1 := Go.Lib.hid ((((((Below.refl H w).setCell (p := ⟨g, 0, none⟩) HBG.out (.int .i64 yn)).setCell (p := ⟨g, 1, none⟩) HBG.out (.int .i64 yc))).setCell (p := ⟨H, 0, none⟩) (Nat.le_refl H) (.slice (some ⟨g, 0, none⟩) m cap))).drew
    obtain ⟨W, hW⟩ : ∃ x, x = (((w.setCell ⟨g, 0, none⟩ (.int .i64 yn)).setCell ⟨g, 1, none⟩ (.int .i64 yc)).setCell ⟨H, 0, none⟩ (.slice (some ⟨g, 0, none⟩) m cap)).drew := ⟨_, rfl⟩
    rw [← hW] at HP1 HB1
    rw [← hW]
    clear hW HCUT h1 b1 b2 f0 f1 fH hcap hgH hgH2 hcc hg hbg
    obtain ⟨l1, hl1⟩ : ∃ x, x = (l.set 0 (atS l (l.length - 1))).take (l.length - 1) := ⟨_, rfl⟩
    have HLL1 := Go.Lib.hid (show l1.length = m by have := HMM.out; rw [hl1]; simp; omega)
    have HD1 := Go.Lib.hid (show down (l.length + 1) l1 0 = popS l by rw [hl1]; rfl)
    rw [← hl1] at HP1
    clear hl1
    go_loopw [5, 6] (fun u _ wr => ∃ (i : Nat) (l' : List Spot) (f : Nat), u = .int .i64 i ∧ i ≤ m ∧ l'.length = m ∧ m < i + f ∧ down f l' i = popS l ∧ HpAt wr H base l' ∧ Below H w wr) (fun u _ _ => m - (intOf u).toNat)
    case atStart => exact ⟨0, l1, l.length + 1, rfl, Nat.zero_le _, HLL1.out, by have := HMM.out; omega, HD1.out, HP1.out, HB1.out⟩
    case round =>
      clear HP1 HB1 HLL1 HD1
      obtain ⟨i, l', f, rfl, hi, hll, hif, hdn, hp, hb⟩ := hrel
      have HPK := Go.Lib.hid hp
      have HBK := Go.Lib.hid hb
      have HDN := Go.Lib.hid hdn
      have HIF := Go.Lib.hid hif
      have HL1 := Go.Lib.hid hll
      have HIM := Go.Lib.hid hi
      obtain ⟨k1, hk1⟩ : ∃ x, x = 2 * i + 1 := ⟨_, rfl⟩
      obtain ⟨k2, hk2⟩ : ∃ x, x = k1 + 1 := ⟨_, rfl⟩
      have e1 : 2 * (i : Int) + 1 = (k1 : Int) := by omega
      have e2 : (k1 : Int) + 1 = (k2 : Int) := by omega
      have e3 : (k2 : Int) ≤ 500000 := by omega
      have e4 : (i : Int) ≤ 100000 := by omega
      have e5 : (0 : Int) ≤ (i : Int) := Int.natCast_nonneg i
      have e6 : (0 : Int) ≤ (k1 : Int) := Int.natCast_nonneg k1
      have HK1 := Go.Lib.hid hk1
      have HK2 := Go.Lib.hid (show k2 = 2 * i + 2 by omega)
      clear hp hb hdn hif hll hi
      by_cases c1 : m ≤ k1
      · have c1i : (m : Int) ≤ (k1 : Int) := by omega
        clear hk1 hk2
        go_wp2_with fail
        go_ret
        exact ⟨rfl, by rw [← HDN.out, down_end (by have := HL1.out; have := HK1.out; omega)]; exact HPK.out, HBK.out⟩
      · have c1i : ¬ (m : Int) ≤ (k1 : Int) := by omega
        have hk1l : k1 < l'.length := by rw [HL1.out]; omega
        by_cases c2 : k2 < m
        · have c2i : (k2 : Int) < (m : Int) := by omega
          have hk2l : k2 < l'.length := by rw [HL1.out]; omega
          have HLS := less_any H base l' k2 k1 wr HPK.out hk2l hk1l
          clear hk1 hk2
          rcases hL : lessS (atS l' k2) (atS l' k1) with _ | _
          · rw [hL] at HLS
            have HLS := Go.Lib.hid HLS
            have HKD := Go.Lib.hid (show kid l' l'.length i = k1 by rw [HK1.out]; exact kid_one (.inr (by rw [← HK1.out, ← HK2.out]; exact hL)))
            clear hL
            have HLS2 := fun w' (hb : Below wr.heap.size wr w') => less_any H base l' k1 i w' (HPK.out.below hb) (by have := HL1.out; omega) (by have := HL1.out; have := HK1.out; omega)
            rcases hL2 : lessS (atS l' k1) (atS l' i) with _ | _
            · rw [hL2] at HLS2
              have HLS2 := Go.Lib.hid HLS2
              have HL2 := Go.Lib.hid hL2
              clear hL2
              go_wp2_with (go_at_call 70; first | (refine HLS.out.mono ?_; rintro e w3 ⟨rfl, hb3⟩; clear HLS) | (refine (HLS2.out w3 hb3).mono ?_; rintro e w5 ⟨rfl, hb5⟩))
              go_ret
              exact ⟨rfl, by rw [← HDN.out, down_no (by rw [HKD.out]; exact HL2.out)]; exact HPK.out.below (hb3.trans (hb5.mono hb3.size)), HBK.out.trans (Below.mono (hb3.trans (hb5.mono hb3.size)) (Nat.le_trans (Nat.le_of_lt hH) HBK.out.size))⟩
            · rw [hL2] at HLS2
              have HLS2 := Go.Lib.hid HLS2
              have HL2 := Go.Lib.hid hL2
              clear hL2
              go_wp2_with (go_at_call 70; first | (refine HLS.out.mono ?_; rintro e w3 ⟨rfl, hb3⟩; clear HLS) | (refine (HLS2.out w3 hb3).mono ?_; rintro e w5 ⟨rfl, hb5⟩))
              have HP4 := Go.Lib.hid (HPK.out.below (hb3.trans (hb5.mono hb3.size)))
              have HB4 := Go.Lib.hid (HBK.out.trans (Below.mono (hb3.trans (hb5.mono hb3.size)) (Nat.le_trans (Nat.le_of_lt hH) HBK.out.size)))
              clear hb5 HPK HBK HLS2
              have hll := HL1.out
              obtain ⟨v3, h1, h2⟩ := HP4.out.row
              obtain ⟨g3, cap3, rfl, hbg, hg, hcl, hfr, hrr, hcap, hm⟩ := h2.slot (by omega)
              have hil : i < l'.length := by have := HK1.out; omega
              have hKl : k1 < l'.length := by omega
              have hiK : i < k1 := by have := HK1.out; have := HK2.out; omega
              obtain ⟨a1, a2⟩ := hcl k1 hKl
              obtain ⟨b1, b2⟩ := hcl i hil
              have hki : (k1 : Int) < (l'.length : Int) := by omega
              have hpi : (i : Int) < (l'.length : Int) := by omega
              have hk0 : (0 : Int) ≤ (k1 : Int) := Int.natCast_nonneg _
              have n1 : ¬ i = k1 := by omega
              have n2 : ¬ k1 = i := by omega
              have n3 : ¬ i * 2 + 1 = k1 * 2 := by omega
              have n4 : ¬ k1 * 2 = i * 2 + 1 := by omega
              have n5 : ¬ i * 2 = k1 * 2 + 1 := by omega
              have n6 : ¬ k1 * 2 + 1 = i * 2 := by omega
              have hgH : g3 ≠ H := by have := HP4.out.lt; omega
              have hH3 : H < w5.heap.size := World.block_lt_of_cell? w5 _ h1
              have f1 := hfr (k1 * 2)
              have f2 := hfr (k1 * 2 + 1)
              have f3 := hfr (i * 2)
              have f4 := hfr (i * 2 + 1)
              obtain ⟨⟨xn2, xc2⟩, hX⟩ : ∃ x, x = atS l' k1 := ⟨_, rfl⟩
              obtain ⟨⟨yn2, yc2⟩, hY⟩ : ∃ x, x = atS l' i := ⟨_, rfl⟩
              rw [← hX] at a1 a2
              rw [← hY] at b1 b2
              have HRR := Go.Lib.hid hrr
              clear hcl hfr hrr
              have HX := Go.Lib.hid hX
              have HY := Go.Lib.hid hY
              have H2 := Go.Lib.hid h2
              have HGL := Go.Lib.hid (show H ≤ g3 by have := HLT.out; omega)
              clear hX hY h2 hll
              go_region
              all_goals
                go_wp2_with fail
                go_roundw
                case rel =>
                  refine ⟨k1, swapS l' i k1, f - 1, rfl, by have := HL1.out; omega, by rw [swap_len]; exact HL1.out, by have := HIF.out; omega, ?_, ?_, ?_⟩
                  · have e := down_yes (f := f) (l := l') (i := i) (by have := HIF.out; omega) (by have := HK1.out; have := HL1.out; omega) (by rw [HKD.out]; exact HL2.out)
                    rw [HKD.out] at e
                    exact e.symm.trans HDN.out
                  · exact (HpAt.swap h1 HP4.out.fz HLT.out hgH H2.out hil hKl HY.out HX.out HRR.out).below (Below.refl _ _).drew
                  · exact ((((HB4.out.setCell (p := ⟨g3, i * 2, none⟩) HGL.out _).setCell (p := ⟨g3, i * 2 + 1, none⟩) HGL.out _).setCell (p := ⟨g3, k1 * 2, none⟩) HGL.out _).setCell (p := ⟨g3, k1 * 2 + 1, none⟩) HGL.out _).drew
                case measure => simp [intOf]; have := HL1.out; omega
          · rw [hL] at HLS
            have HLS := Go.Lib.hid HLS
            have HKD := Go.Lib.hid (show kid l' l'.length i = k2 by rw [HK2.out]; exact kid_two (by rw [← HK2.out]; exact hk2l) (by rw [← HK1.out, ← HK2.out]; exact hL))
            clear hL
            have HLS2 := fun w' (hb : Below wr.heap.size wr w') => less_any H base l' k2 i w' (HPK.out.below hb) (by have := HL1.out; omega) (by have := HL1.out; have := HK1.out; omega)
            rcases hL2 : lessS (atS l' k2) (atS l' i) with _ | _
            · rw [hL2] at HLS2
              have HLS2 := Go.Lib.hid HLS2
              have HL2 := Go.Lib.hid hL2
              clear hL2
              go_wp2_with (go_at_call 70; first | (refine HLS.out.mono ?_; rintro e w3 ⟨rfl, hb3⟩; clear HLS) | (refine (HLS2.out w3 hb3).mono ?_; rintro e w5 ⟨rfl, hb5⟩))
              go_ret
              exact ⟨rfl, by rw [← HDN.out, down_no (by rw [HKD.out]; exact HL2.out)]; exact HPK.out.below (hb3.trans (hb5.mono hb3.size)), HBK.out.trans (Below.mono (hb3.trans (hb5.mono hb3.size)) (Nat.le_trans (Nat.le_of_lt hH) HBK.out.size))⟩
            · rw [hL2] at HLS2
              have HLS2 := Go.Lib.hid HLS2
              have HL2 := Go.Lib.hid hL2
              clear hL2
              go_wp2_with (go_at_call 70; first | (refine HLS.out.mono ?_; rintro e w3 ⟨rfl, hb3⟩; clear HLS) | (refine (HLS2.out w3 hb3).mono ?_; rintro e w5 ⟨rfl, hb5⟩))
              have HP4 := Go.Lib.hid (HPK.out.below (hb3.trans (hb5.mono hb3.size)))
              have HB4 := Go.Lib.hid (HBK.out.trans (Below.mono (hb3.trans (hb5.mono hb3.size)) (Nat.le_trans (Nat.le_of_lt hH) HBK.out.size)))
              clear hb5 HPK HBK HLS2
              have hll := HL1.out
              obtain ⟨v3, h1, h2⟩ := HP4.out.row
              obtain ⟨g3, cap3, rfl, hbg, hg, hcl, hfr, hrr, hcap, hm⟩ := h2.slot (by omega)
              have hil : i < l'.length := by have := HK1.out; omega
              have hKl : k2 < l'.length := by omega
              have hiK : i < k2 := by have := HK1.out; have := HK2.out; omega
              obtain ⟨a1, a2⟩ := hcl k2 hKl
              obtain ⟨b1, b2⟩ := hcl i hil
              have hki : (k2 : Int) < (l'.length : Int) := by omega
              have hpi : (i : Int) < (l'.length : Int) := by omega
              have hk0 : (0 : Int) ≤ (k2 : Int) := Int.natCast_nonneg _
              have n1 : ¬ i = k2 := by omega
              have n2 : ¬ k2 = i := by omega
              have n3 : ¬ i * 2 + 1 = k2 * 2 := by omega
              have n4 : ¬ k2 * 2 = i * 2 + 1 := by omega
              have n5 : ¬ i * 2 = k2 * 2 + 1 := by omega
              have n6 : ¬ k2 * 2 + 1 = i * 2 := by omega
              have hgH : g3 ≠ H := by have := HP4.out.lt; omega
              have hH3 : H < w5.heap.size := World.block_lt_of_cell? w5 _ h1
              have f1 := hfr (k2 * 2)
              have f2 := hfr (k2 * 2 + 1)
              have f3 := hfr (i * 2)
              have f4 := hfr (i * 2 + 1)
              obtain ⟨⟨xn2, xc2⟩, hX⟩ : ∃ x, x = atS l' k2 := ⟨_, rfl⟩
              obtain ⟨⟨yn2, yc2⟩, hY⟩ : ∃ x, x = atS l' i := ⟨_, rfl⟩
              rw [← hX] at a1 a2
              rw [← hY] at b1 b2
              have HRR := Go.Lib.hid hrr
              clear hcl hfr hrr
              have HX := Go.Lib.hid hX
              have HY := Go.Lib.hid hY
              have H2 := Go.Lib.hid h2
              have HGL := Go.Lib.hid (show H ≤ g3 by have := HLT.out; omega)
              clear hX hY h2 hll
              go_region
              all_goals
                go_wp2_with fail
                go_roundw
                case rel =>
                  refine ⟨k2, swapS l' i k2, f - 1, rfl, by have := HL1.out; omega, by rw [swap_len]; exact HL1.out, by have := HIF.out; omega, ?_, ?_, ?_⟩
                  · have e := down_yes (f := f) (l := l') (i := i) (by have := HIF.out; omega) (by have := HK1.out; have := HL1.out; omega) (by rw [HKD.out]; exact HL2.out)
                    rw [HKD.out] at e
                    exact e.symm.trans HDN.out
                  · exact (HpAt.swap h1 HP4.out.fz HLT.out hgH H2.out hil hKl HY.out HX.out HRR.out).below (Below.refl _ _).drew
                  · exact ((((HB4.out.setCell (p := ⟨g3, i * 2, none⟩) HGL.out _).setCell (p := ⟨g3, i * 2 + 1, none⟩) HGL.out _).setCell (p := ⟨g3, k2 * 2, none⟩) HGL.out _).setCell (p := ⟨g3, k2 * 2 + 1, none⟩) HGL.out _).drew
                case measure => simp [intOf]; have := HL1.out; omega
        · have c2i : ¬ (k2 : Int) < (m : Int) := by omega
          have HKD := Go.Lib.hid (show kid l' l'.length i = k1 by rw [HK1.out]; exact kid_one (.inl (by rw [← HK2.out, HL1.out]; exact c2)))
          clear hk1 hk2
          have HLS2 := fun w' (hb : Below wr.heap.size wr w') => less_any H base l' k1 i w' (HPK.out.below hb) (by have := HL1.out; omega) (by have := HL1.out; have := HK1.out; omega)
          rcases hL2 : lessS (atS l' k1) (atS l' i) with _ | _
          · rw [hL2] at HLS2
            have HLS2 := Go.Lib.hid HLS2
            have HL2 := Go.Lib.hid hL2
            clear hL2
            go_wp2_with (go_at_call 70; (refine (HLS2.out wr (Below.refl _ _)).mono ?_; rintro e w5 ⟨rfl, hb5⟩))
            go_ret
            exact ⟨rfl, by rw [← HDN.out, down_no (by rw [HKD.out]; exact HL2.out)]; exact HPK.out.below hb5, HBK.out.trans (Below.mono hb5 (Nat.le_trans (Nat.le_of_lt hH) HBK.out.size))⟩
          · rw [hL2] at HLS2
            have HLS2 := Go.Lib.hid HLS2
            have HL2 := Go.Lib.hid hL2
            clear hL2
            go_wp2_with (go_at_call 70; (refine (HLS2.out wr (Below.refl _ _)).mono ?_; rintro e w5 ⟨rfl, hb5⟩))
            have HP4 := Go.Lib.hid (HPK.out.below hb5)
            have HB4 := Go.Lib.hid (HBK.out.trans (Below.mono hb5 (Nat.le_trans (Nat.le_of_lt hH) HBK.out.size)))
            clear hb5 HPK HBK HLS2
            have hll := HL1.out
            obtain ⟨v3, h1, h2⟩ := HP4.out.row
            obtain ⟨g3, cap3, rfl, hbg, hg, hcl, hfr, hrr, hcap, hm⟩ := h2.slot (by omega)
            have hil : i < l'.length := by have := HK1.out; omega
            have hKl : k1 < l'.length := by omega
            have hiK : i < k1 := by have := HK1.out; have := HK2.out; omega
            obtain ⟨a1, a2⟩ := hcl k1 hKl
            obtain ⟨b1, b2⟩ := hcl i hil
            have hki : (k1 : Int) < (l'.length : Int) := by omega
            have hpi : (i : Int) < (l'.length : Int) := by omega
            have hk0 : (0 : Int) ≤ (k1 : Int) := Int.natCast_nonneg _
            have n1 : ¬ i = k1 := by omega
            have n2 : ¬ k1 = i := by omega
            have n3 : ¬ i * 2 + 1 = k1 * 2 := by omega
            have n4 : ¬ k1 * 2 = i * 2 + 1 := by omega
            have n5 : ¬ i * 2 = k1 * 2 + 1 := by omega
            have n6 : ¬ k1 * 2 + 1 = i * 2 := by omega
            have hgH : g3 ≠ H := by have := HP4.out.lt; omega
            have hH3 : H < w5.heap.size := World.block_lt_of_cell? w5 _ h1
            have f1 := hfr (k1 * 2)
            have f2 := hfr (k1 * 2 + 1)
            have f3 := hfr (i * 2)
            have f4 := hfr (i * 2 + 1)
            obtain ⟨⟨xn2, xc2⟩, hX⟩ : ∃ x, x = atS l' k1 := ⟨_, rfl⟩
            obtain ⟨⟨yn2, yc2⟩, hY⟩ : ∃ x, x = atS l' i := ⟨_, rfl⟩
            rw [← hX] at a1 a2
            rw [← hY] at b1 b2
            have HRR := Go.Lib.hid hrr
            clear hcl hfr hrr
            have HX := Go.Lib.hid hX
            have HY := Go.Lib.hid hY
            have H2 := Go.Lib.hid h2
            have HGL := Go.Lib.hid (show H ≤ g3 by have := HLT.out; omega)
            clear hX hY h2 hll
            go_region
            all_goals
              go_wp2_with fail
              go_roundw
              case rel =>
                refine ⟨k1, swapS l' i k1, f - 1, rfl, by have := HL1.out; omega, by rw [swap_len]; exact HL1.out, by have := HIF.out; omega, ?_, ?_, ?_⟩
                · have e := down_yes (f := f) (l := l') (i := i) (by have := HIF.out; omega) (by have := HK1.out; have := HL1.out; omega) (by rw [HKD.out]; exact HL2.out)
                  rw [HKD.out] at e
                  exact e.symm.trans HDN.out
                · exact (HpAt.swap h1 HP4.out.fz HLT.out hgH H2.out hil hKl HY.out HX.out HRR.out).below (Below.refl _ _).drew
                · exact ((((HB4.out.setCell (p := ⟨g3, i * 2, none⟩) HGL.out _).setCell (p := ⟨g3, i * 2 + 1, none⟩) HGL.out _).setCell (p := ⟨g3, k1 * 2, none⟩) HGL.out _).setCell (p := ⟨g3, k1 * 2 + 1, none⟩) HGL.out _).drew
              case measure => simp [intOf]; have := HL1.out; omega
end Go.Proofs.YtlmcipnogodnfaaDoor
