/-
  The heap of spots, walked: push.
-/
import Derived.Test.YtlmcipnogodnfaaDoorDoO
import Derived.Deep.RegionLaw
namespace Go.Proofs.YtlmcipnogodnfaaDoor
open Go Go.RowKit Go.Deep

theorem grownS (w : World) (p : Addr) (u : Value) : w.grownBy (w.setCell p u) (some p.block) := ⟨rfl, rfl, rfl, by simp [World.setCell], fun k hk hne => Below.heap_setCell _ _ _ _ (fun e => hne (by rw [e]))⟩
theorem owS_set {E base : Nat} {w : World} {v : Value} {xs : List Spot} (h : OwR spotR E base w v xs) {p : Addr} (hp : p.block < base) (u : Value) : OwR spotR E base (w.setCell p u) v xs :=
  h.kept (grownS w p u) (by
    rcases e : v.ownBlock with _ | k
    · exact .inl rfl
    · right; intro e2; injection e2 with e2; have := (h.base_le k e).1; omega) (fun _ _ h => h)
theorem HpAt.put {w : World} {H base : Nat} {v0 v : Value} {l : List Spot} (hc : w.cell? ⟨H, 0, none⟩ = some v0) (hf : ∀ i, w.frozen? ⟨H, i, none⟩ = false) (hl : H < base) (ho : OwR spotR 110 base w v l) : HpAt (w.setCell ⟨H, 0, none⟩ v) H base l :=
  ⟨⟨v, World.cell?_setCell_same' w _ v (by rw [hc]; rfl), owS_set ho (p := ⟨H, 0, none⟩) hl v⟩, fun i => by rw [World.frozen?_setCell]; exact hf i, hl⟩
theorem cellS {w w' : World} (hb : Below w.heap.size w w') {a : Addr} {v : Value} (hc : w.cell? a = some v) : w'.cell? a = some v := (hb.cell (World.block_lt_of_cell? w a hc)).trans hc
theorem up_zero {f : Nat} {l : List Spot} : up f l 0 = l := by
  cases f with
  | zero => rfl
  | succ f => unfold up; rw [if_neg (by omega)]
theorem up_no {f k : Nat} {l : List Spot} (h : lessS (atS l k) (atS l ((k - 1) / 2)) = false) : up f l k = l := by
  cases f with
  | zero => rfl
  | succ f => unfold up; rw [if_neg (by rw [h]; simp)]
theorem up_yes {f k : Nat} {l : List Spot} (hf : k < f) (h0 : 0 < k) (h : lessS (atS l k) (atS l ((k - 1) / 2)) = true) : up f l k = up (f - 1) (swapS l k ((k - 1) / 2)) ((k - 1) / 2) := by
  obtain ⟨f, rfl⟩ : ∃ g, f = g + 1 := ⟨f - 1, by omega⟩
  show (if 0 < k ∧ _ then _ else _) = _
  rw [if_pos ⟨h0, h⟩]; rfl
theorem owS_form {E base : Nat} {w : World} {v : Value} {xs : List Spot} (h : OwR spotR E base w v xs) : ∃ A n c, v = .slice A n c := by
  obtain ⟨A, c, hv⟩ := (h.sl (by decide)).form
  exact ⟨A, _, c, hv⟩
theorem HpAt.swap {w : World} {H base g cap : Nat} {l : List Spot} (h1 : w.cell? ⟨H, 0, none⟩ = some (.slice (some ⟨g, 0, none⟩) l.length cap)) (hf : ∀ i, w.frozen? ⟨H, i, none⟩ = false) (hl : H < base) (hg : g ≠ H) (ho : OwR spotR 110 base w (.slice (some ⟨g, 0, none⟩) l.length cap) l)
    {k p : Nat} (hk : k < l.length) (hp : p < l.length) {xn xc yn yc : Int} (hx : Spot.mk xn xc = atS l k) (hy : Spot.mk yn yc = atS l p) (hr : ∀ i, i < l.length → inR (atS l i).node ∧ inR (atS l i).cost) :
    HpAt (((((w.setCell ⟨g, k * 2, none⟩ (.int .i64 yn)).setCell ⟨g, k * 2 + 1, none⟩ (.int .i64 yc)).setCell ⟨g, p * 2, none⟩ (.int .i64 xn)).setCell ⟨g, p * 2 + 1, none⟩ (.int .i64 xc))) H base (swapS l k p) := by
  have e1 : ∀ (w : World) o u, (World.setCell w ⟨g, o, none⟩ u).cell? ⟨H, 0, none⟩ = w.cell? ⟨H, 0, none⟩ := fun w o u => World.cell?_setCell_other _ _ _ _ (by intro e; injection e with e _ _; exact hg e)
  have rk := hr k hk
  have rp := hr p hp
  rw [← hx] at rk
  rw [← hy] at rp
  refine ⟨⟨_, by rw [e1, e1, e1, e1]; exact h1, ?_⟩, fun i => by rw [World.frozen?_setCell, World.frozen?_setCell, World.frozen?_setCell, World.frozen?_setCell]; exact hf i, hl⟩
  have s1 := ho.set2 hk ⟨yn, yc⟩ rp
  have s2 := s1.set2 (i := p) (by simp; exact hp) ⟨xn, xc⟩ rk
  unfold swapS
  rw [← hx, ← hy]
  exact s2
/-- behind the append -/
theorem push_app {w w4 : World} {H base : Nat} {o v2 : Value} {l : List Spot} {ob : Obj} (h1 : w.cell? ⟨H, 0, none⟩ = some o) (hf : ∀ i, w.frozen? ⟨H, i, none⟩ = false) (hl : H < base) (ho : OwR spotR 110 base w o l) (hg : GrowTo (w.alloc ob).drew o w4 v2) :
    w4.cell? ⟨H, 0, none⟩ = some o ∧ (∀ i, w4.frozen? ⟨H, i, none⟩ = false) ∧ Below H w w4 := by
  have hlt : H < w.heap.size := World.block_lt_of_cell? w _ h1
  have hb := (Below.refl w.heap.size w).alloc (Nat.le_refl _) ob
  have hk : w4.heap[H]? = w.heap[H]? := by
    rw [hg.grown.block H (by simp [World.drew]; omega) (fun e => by have := (ho.base_le H e.symm).1; omega)]
    exact hb.block H hlt
  refine ⟨(World.cell?_of_block (w := w) hk).trans h1, fun i => (World.frozen?_of_block (w := w) hk).trans (hf i), ?_⟩
  refine ((hb.mono (Nat.le_of_lt hlt)).drew).grown hg.grown (by simp [World.drew]; omega) (fun k e => by have := (ho.base_le k e).1; omega)

set_option maxRecDepth 50000 in
set_option maxHeartbeats 4000000 in
theorem push_any (H base : Nat) (l : List Spot) (n c : Int) (w : World) (h : HpAt w H base l) (hn : inR n) (hc : inR c) (hlen : l.length ≤ 100000) :
    Calls Tryd.prog 57 #[.pointer (some ⟨H, 0, none⟩), .agg #[.int .i64 n, .int .i64 c]] w fun e w' => e = .returned (.tuple #[]) ∧ HpAt w' H base (pushS l ⟨n, c⟩) ∧ Below H w w' := by
  have hb0 : H < w.heap.size := by obtain ⟨v, h1, _⟩ := h.row; exact World.block_lt_of_cell? w _ h1
  have HP := Go.Lib.hid h
  clear h
  go_enter Tryd.func57, Tryd.ntmps57
  go_wp2_with fail
  have hal := (Below.refl w.heap.size w).alloc (Nat.le_refl _) (.cells #[.int .i64 n, .int .i64 c] 110)
  have HP0 := Go.Lib.hid (HP.out.below hal)
  have HB0 := Go.Lib.hid (hal.mono (Nat.le_of_lt hb0))
  obtain ⟨W, hW⟩ : ∃ x, x = w.alloc (.cells #[.int .i64 n, .int .i64 c] 110) := ⟨_, rfl⟩
  obtain ⟨B, hB⟩ : ∃ x, x = w.heap.size := ⟨_, rfl⟩
  have a0 : W.cell? ⟨B, 0, none⟩ = some (.int .i64 n) := by rw [hW, hB, World.cell?_alloc_at _ _ _ _ rfl]; rfl
  have a1 : W.cell? ⟨B, 1, none⟩ = some (.int .i64 c) := by rw [hW, hB, World.cell?_alloc_at _ _ _ _ rfl]; rfl
  rw [← hW] at HP0 HB0
  rw [← hW, ← hB]
  clear hW hB hal HP
  obtain ⟨v, h1, h2⟩ := HP0.out.row
  have hf := HP0.out.fz
  have hlt := HP0.out.lt
  obtain ⟨A, vc, rfl⟩ := (h2.sl (by decide)).form
  have HC := Go.Lib.hid (fun w4 v2 hg => push_app (w4 := w4) (v2 := v2) (ob := .cells #[.int .i64 n, .int .i64 c] 110) h1 hf hlt h2 hg)
  have HOA := Go.Lib.hid (h2.keep ((Below.refl W.heap.size W).alloc (Nat.le_refl _) (.cells #[.int .i64 n, .int .i64 c] 110)).drew)
  have hone := one_flat (r := spotR) (w := W) (B := W.heap.size) (cs := [.int .i64 n, .int .i64 c]) (x := ⟨n, c⟩) (E := 110) rfl ⟨rfl, hn, hc⟩
  have HONE := Go.Lib.hid (SlR.keep (w' := (W.alloc (.cells #[.int .i64 n, .int .i64 c] 110)).drew) hone (fun _ _ => rfl) (fun _ h => h))
  have HN := Go.Lib.hid (show l.length + 1 ≤ 1000000000000 by omega)
  have hf0 := hf 0
  have HLT := Go.Lib.hid hlt
  have hH : H < W.heap.size := World.block_lt_of_cell? W _ h1
  clear hone h2 hf hlt
  go_region_law (first
    | (refine step_gen (base := base) elt_spot (by rfl) (.tmp 9) (.tmp 11) (by rfl) HOA.out HONE.out (fun _ _ h => h) (by rfl) (by rfl) HN.out (by decide) ?_; intro v2 w4 ho2 hg2; obtain ⟨A9, n9, c9, rfl⟩ := owS_form ho2; have HG2 := Go.Lib.hid hg2; obtain ⟨y1, y2, y3⟩ := HC.out w4 _ hg2; have y5 := y2 0; clear hg2 y2)
    | (go_simp; go_wp2_with fail))
  all_goals
    have HP1 := Go.Lib.hid (HpAt.put y1 (HC.out w4 _ HG2.out).2.1 HLT.out ho2)
    have HB1 := Go.Lib.hid ((HB0.out.trans y3).setCell (p := ⟨H, 0, none⟩) (Nat.le_refl H) (.slice A9 n9 c9))
    clear y1 y3 y5 HG2 HC ho2 HOA HONE HB0 HP0 h1 HN hf0 hH
    go_simp
    obtain ⟨W1, hW1⟩ : ∃ x, x = w4.setCell ⟨H, 0, none⟩ (.slice A9 n9 c9) := ⟨_, rfl⟩
    rw [← hW1] at HP1 HB1
    rw [← hW1]
    clear hW1
    obtain ⟨l0, hl0⟩ : ∃ x, x = l ++ [Spot.mk n c] := ⟨_, rfl⟩
    have HLL := Go.Lib.hid (show l0.length = l.length + 1 by rw [hl0]; simp)
    have HUP := Go.Lib.hid (show up (l.length + 1) l0 l.length = pushS l ⟨n, c⟩ by rw [hl0]; rfl)
    rw [← hl0] at HP1
    clear hl0
    obtain ⟨v1, h1, h2⟩ := HP1.out.row
    obtain ⟨A1, vc1, rfl⟩ := (h2.sl (by decide)).form
    have hl1 : ((l0.length : Nat) : Int) - 1 = (l.length : Nat) := by rw [HLL.out]; omega
    have hl1b : IntKind.i64.wrap (l.length : Int) = (l.length : Int) := by rw [IntKind.wrap_i64]; omega
    go_wp2_with fail
    clear h1 h2
    go_loopw [4] (fun i wr => ∃ (k : Nat) (l' : List Spot) (f : Nat), i = .int .i64 k ∧ k < l'.length ∧ l'.length = l.length + 1 ∧ k < f ∧ up f l' k = pushS l ⟨n, c⟩ ∧ HpAt wr H base l' ∧ Below H w wr) (fun i _ => (intOf i).toNat)
    case atStart => exact ⟨l.length, l0, l.length + 1, rfl, by rw [HLL.out]; omega, HLL.out, Nat.lt_succ_self _, HUP.out, HP1.out, HB1.out⟩
    case round =>
      obtain ⟨k, l', f, rfl, hk, hll, hkf, hup, hp, hb⟩ := hrel
      have HPK := Go.Lib.hid hp
      have HBK := Go.Lib.hid hb
      have HUK := Go.Lib.hid hup
      have HFK := Go.Lib.hid hkf
      clear hp hb hup hkf
      obtain ⟨p, hpe⟩ : ∃ p, p = (k - 1) / 2 := ⟨_, rfl⟩
      by_cases h0 : 0 < k
      · have h0i : (0 : Int) < (k : Int) := by omega
        obtain ⟨m, hm⟩ : ∃ m, m = k - 1 := ⟨_, rfl⟩
        have hm1 : (k : Int) - 1 = (m : Int) := by omega
        have hq : Int.tdiv (m : Int) 2 = (p : Int) := by rw [hpe, ← hm]; rfl
        have hpk : p < k := by omega
        have hml : (m : Int) ≤ 200000 := by omega
        have hpl : (p : Int) ≤ 200000 := by omega
        have HLS := less_any H base l' k p wr HPK.out hk (by omega)
        have HPE := Go.Lib.hid hpe
        clear hpe hm
        rcases hL : lessS (atS l' k) (atS l' p) with _ | _
        · rw [hL] at HLS
          have HLS := Go.Lib.hid HLS
          have HL := Go.Lib.hid hL
          clear hL
          go_wp2_with (go_at_call 70; refine HLS.out.mono ?_; rintro e w3 ⟨rfl, hb3⟩)
          refine bodyPost_end (v := .tuple #[]) (by simp [results, Tryd.results57, go_sem]) rfl ?_
          refine ⟨rfl, ?_, HBK.out.trans (hb3.mono (Nat.le_trans (Nat.le_of_lt hb0) HBK.out.size))⟩
          rw [← HUK.out, up_no (by rw [← HPE.out]; exact HL.out)]
          exact HPK.out.below hb3
        · rw [hL] at HLS
          have HLS := Go.Lib.hid HLS
          have HL := Go.Lib.hid hL
          clear hL
          go_wp2_with (go_at_call 70; refine HLS.out.mono ?_; rintro e w3 ⟨rfl, hb3⟩)
          have HP3 := Go.Lib.hid (HPK.out.below hb3)
          have HB3 := Go.Lib.hid (HBK.out.trans (hb3.mono (Nat.le_trans (Nat.le_of_lt hb0) HBK.out.size)))
          clear hb3 HPK HBK HLS
          obtain ⟨v3, h1, h2⟩ := HP3.out.row
          obtain ⟨g, cap, rfl, hbg, hg, hcl, hfr, hrr, hcap, hm⟩ := h2.slot (by omega)
          obtain ⟨a1, a2⟩ := hcl k hk
          obtain ⟨b1, b2⟩ := hcl p (by omega)
          have hk0 : (0 : Int) ≤ (k : Int) := Int.natCast_nonneg k
          have hp0 : (0 : Int) ≤ (p : Int) := Int.natCast_nonneg p
          have hki : (k : Int) < (l'.length : Int) := by omega
          have hpi : (p : Int) < (l'.length : Int) := by omega
          have n1 : ¬ p = k := by omega
          have n2 : ¬ k = p := by omega
          have n3 : ¬ p * 2 + 1 = k * 2 := by omega
          have n4 : ¬ k * 2 = p * 2 + 1 := by omega
          have n5 : ¬ p * 2 = k * 2 + 1 := by omega
          have n6 : ¬ k * 2 + 1 = p * 2 := by omega
          have hgH : g ≠ H := by have := HP3.out.lt; omega
          have hH3 : H < w3.heap.size := World.block_lt_of_cell? w3 _ h1
          have f1 := hfr (k * 2)
          have f2 := hfr (k * 2 + 1)
          have f3 := hfr (p * 2)
          have f4 := hfr (p * 2 + 1)
          obtain ⟨⟨xn, xc⟩, hX⟩ : ∃ x, x = atS l' k := ⟨_, rfl⟩
          obtain ⟨⟨yn, yc⟩, hY⟩ : ∃ x, x = atS l' p := ⟨_, rfl⟩
          rw [← hX] at a1 a2
          rw [← hY] at b1 b2
          have HRR := Go.Lib.hid hrr
          clear hcl hfr hrr
          have HX := Go.Lib.hid hX
          have HY := Go.Lib.hid hY
          have H2 := Go.Lib.hid h2
          clear hX hY h2
          go_region
          all_goals
            go_wp2_with fail
            go_roundw
            case rel =>
              refine ⟨p, swapS l' k p, f - 1, rfl, by rw [swap_len]; omega, by rw [swap_len]; exact hll, by have := HFK.out; omega, ?_, ?_, ?_⟩
              · rw [← HUK.out, up_yes HFK.out h0 (by rw [← HPE.out]; exact HL.out), ← HPE.out]
              · exact (HpAt.swap h1 HP3.out.fz HLT.out hgH H2.out hk (by omega) HX.out HY.out HRR.out).below (Below.refl _ _).drew
              · exact ((((HB3.out.setCell (p := ⟨g, k * 2, none⟩) (by show H ≤ g; have := HLT.out; omega) _).setCell (p := ⟨g, k * 2 + 1, none⟩) (by show H ≤ g; have := HLT.out; omega) _).setCell (p := ⟨g, p * 2, none⟩) (by show H ≤ g; have := HLT.out; omega) _).setCell (p := ⟨g, p * 2 + 1, none⟩) (by show H ≤ g; have := HLT.out; omega) _).drew
            case measure => simp [intOf]; omega
      · have h0i : ¬ (0 : Int) < (k : Int) := by omega
        obtain rfl : k = 0 := by omega
        go_wp2_with fail
        refine bodyPost_end (v := .tuple #[]) (by simp [results, Tryd.results57, go_sem]) rfl ?_
        exact ⟨rfl, by rw [← HUK.out, up_zero]; exact HPK.out, HBK.out⟩
end Go.Proofs.YtlmcipnogodnfaaDoor
