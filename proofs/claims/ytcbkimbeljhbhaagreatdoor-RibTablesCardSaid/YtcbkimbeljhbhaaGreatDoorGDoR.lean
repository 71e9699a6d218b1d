/-
  The heap of spots, walked: less, push, pop.
  The heap of spots, walked: push.
  The heap of spots, walked: pop.
  What stepping from the nearest spot on keeps in memory: costs, sets of first steps, what is done, the heap; ways in a row.
-/
import Derived.Test.YtcbkimbeljhbhaaGreatDoorGApp
import Derived.Test.YtcbkimbeljhbhaaGreatDoorGOwn
import Derived.Test.YtcbkimbeljhbhaaGreatDoorGWaB
import Derived.BigRegion
import Derived.Deep.RegionLaw
import Derived.Test.YtcbkimbeljhbhaaGreatDoorGWaF
set_option linter.unusedVariables false
set_option linter.unusedSimpArgs false
namespace Go.Proofs.YtcbkimbeljhbhaaGreatDoor
open Go Go.RowKit Go.Deep

def spotR : Rep Spot := flatR 2 (fun s => [.int .i64 s.node, .int .i64 s.cost]) (fun s => inR s.node ∧ inR s.cost) (fun _ => rfl) (fun x u h => by simp at h; rcases h with rfl | rfl <;> rfl)
theorem elt_spot : Elt Tryz.prog 122 127 2 16 := ⟨Tryz.underlying122, by
  have h : (Tryz.prog.info? 127).map (fun i => (i.zero, i.size, i.bytes)) = some (some (.agg #[.int .i64 0, .int .i64 0]), 2, 16) := by kernel_rfl
  obtain ⟨i, h1, h2, h3, h4⟩ := info_parts h
  exact ⟨i, _, h1, h2, h3, h4, rfl⟩, by decide⟩
theorem Sl.spot {w : World} {b off c n : Nat} {xs : List Spot} (h : Sl spotR w (.slice (some ⟨b, off, none⟩) n c) xs) {k : Nat} (hk : k < xs.length) :
    w.cell? ⟨b, off + k * 2, none⟩ = some (.int .i64 xs[k].node) ∧ w.cell? ⟨b, off + k * 2 + 1, none⟩ = some (.int .i64 xs[k].cost) ∧ inR xs[k].node ∧ inR xs[k].cost := by
  obtain ⟨cs, ⟨rfl, hw⟩, hc⟩ := h.cell hk
  exact ⟨hc 0 _ rfl, hc 1 _ rfl, hw.1, hw.2⟩
/-- a row of one's own that is not empty -/
theorem OwR.slot {base : Nat} {w : World} {v : Value} {l : List Spot} (h : OwR spotR 127 base w v l) (hl : 0 < l.length) :
    ∃ g cap, v = .slice (some ⟨g, 0, none⟩) l.length cap ∧ base ≤ g ∧ g < w.heap.size ∧ (∀ i, i < l.length → w.cell? ⟨g, i * 2, none⟩ = some (.int .i64 (atS l i).node) ∧ w.cell? ⟨g, i * 2 + 1, none⟩ = some (.int .i64 (atS l i).cost)) ∧ (∀ o, w.frozen? ⟨g, o, none⟩ = false) ∧ (∀ i, i < l.length → inR (atS l i).node ∧ inR (atS l i).cost) ∧ l.length ≤ cap ∧ cap ≤ maxLen := by
  have hsl := h.sl (by decide)
  obtain ⟨css, h1, h2, h3, h4⟩ := h
  have h3' := h3
  rcases h3.2 with ⟨h', h0⟩ | ⟨g, cap, cur, rfl, hb, hg, hnc, hcm, _⟩
  · omega
  · refine ⟨g, cap, rfl, hb, ?_, fun i hi => ?_, fun o => h3'.frozenAt o, fun i hi => ?_, hnc, hcm⟩
    · exact (Array.getElem?_eq_some_iff.1 hg).1
    · obtain ⟨f1, f2, _⟩ := hsl.spot hi
      rw [Nat.zero_add] at f1 f2
      rw [at_lt hi]; exact ⟨f1, f2⟩
    · obtain ⟨_, _, f3⟩ := hsl.spot hi
      rw [at_lt hi]; exact f3

/-- the heap in memory: a box with a row of its own -/
structure HpAt (w : World) (H base : Nat) (l : List Spot) : Prop where
  row : ∃ v, w.cell? ⟨H, 0, none⟩ = some v ∧ OwR spotR 127 base w v l
  fz : ∀ i, w.frozen? ⟨H, i, none⟩ = false
  lt : H < base
theorem HpAt.below {w w' : World} {H base : Nat} {l : List Spot} (h : HpAt w H base l) (hb : Below w.heap.size w w') : HpAt w' H base l := by
  obtain ⟨v, h1, h2⟩ := h.row
  have hl : H < w.heap.size := World.block_lt_of_cell? w ⟨H, 0, none⟩ h1
  have hk := hb.block H hl
  exact ⟨⟨v, (World.cell?_of_block (w := w) hk).trans h1, h2.keep hb⟩, fun i => (World.frozen?_of_block (w := w) hk).trans (h.fz i), h.lt⟩


set_option maxRecDepth 50000 in
set_option maxHeartbeats 4000000 in
theorem less_any (H base : Nat) (l : List Spot) (a b : Nat) (w : World) (h : HpAt w H base l) (ha : a < l.length) (hb : b < l.length) :
    Calls Tryz.prog 93 #[.pointer (some ⟨H, 0, none⟩), .int .i64 a, .int .i64 b] w fun e w' => e = .returned (.bool (lessS (atS l a) (atS l b))) ∧ Below w.heap.size w w' := by
  obtain ⟨v, h1, h2⟩ := h.row
  obtain ⟨g, cap, rfl, hbg, hg, hc, hf, hr, hcap, hm⟩ := h2.slot (by omega)
  have hll : l.length ≤ 9223372036854775807 := by unfold maxLen at hm; omega
  obtain ⟨a1, a2⟩ := hc a ha
  obtain ⟨b1, b2⟩ := hc b hb
  have ha0 : (0 : Int) ≤ (a : Int) := Int.natCast_nonneg a
  have hb0 : (0 : Int) ≤ (b : Int) := Int.natCast_nonneg b
  have hai : (a : Int) < (l.length : Int) := by omega
  have hbi : (b : Int) < (l.length : Int) := by omega
  have hH : H < w.heap.size := World.block_lt_of_cell? w ⟨H, 0, none⟩ h1
  clear hc hf hr h2 h
  obtain ⟨⟨an, ac⟩, hA⟩ : ∃ x, x = atS l a := ⟨_, rfl⟩
  obtain ⟨⟨bn, bc⟩, hB⟩ : ∃ x, x = atS l b := ⟨_, rfl⟩
  rw [← hA] at a1 a2
  rw [← hB] at b1 b2
  rw [← hA, ← hB]
  clear hA hB
  by_cases c1 : ac < bc
  · have d1 : decide (ac < bc) = true := decide_eq_true c1
    have HR := Go.Lib.hid (show lessS ⟨an, ac⟩ ⟨bn, bc⟩ = true by simp [lessS, c1])
    clear c1
    go_enter Tryz.func93, Tryz.ntmps93
    go_wp2_with fail
    go_region
    all_goals go_wp2_with fail
    all_goals
      go_ret
      refine ⟨eb HR.out.symm, ?_⟩
      exact (((Below.refl _ _).alloc (Nat.le_refl _) _).alloc (by simp) _).drew
  · have d1 : decide (ac < bc) = false := decide_eq_false c1
    by_cases c2 : ac = bc
    · have d2 : (ac == bc) = true := by rw [beq_iff_eq]; exact c2
      have HR := Go.Lib.hid (show lessS ⟨an, ac⟩ ⟨bn, bc⟩ = decide (an < bn) by simp [lessS, c1, c2])
      clear c1 c2
      go_enter Tryz.func93, Tryz.ntmps93
      go_wp2_with fail
      go_region
      all_goals go_wp2_with fail
      all_goals
        go_ret
        refine ⟨eb HR.out.symm, ?_⟩
        exact (((Below.refl _ _).alloc (Nat.le_refl _) _).alloc (by simp) _).drew
    · have d2 : (ac == bc) = false := by rw [beq_eq_false_iff_ne]; exact c2
      have HR := Go.Lib.hid (show lessS ⟨an, ac⟩ ⟨bn, bc⟩ = false by simp [lessS, c1, c2])
      clear c1 c2
      go_enter Tryz.func93, Tryz.ntmps93
      go_wp2_with fail
      go_region
      all_goals go_wp2_with fail
      all_goals
        go_ret
        refine ⟨eb HR.out.symm, ?_⟩
        exact (((Below.refl _ _).alloc (Nat.le_refl _) _).alloc (by simp) _).drew

theorem flat_set {α : Type} : ∀ {css : List (List α)} {i : Nat} {a b : α}, (∀ cs ∈ css, cs.length = 2) → i < css.length → (css.set i [a, b]).flatten = (css.flatten.set (i * 2) a).set (i * 2 + 1) b
  | [], i, _, _, _, h => by simp at h
  | c0 :: css, 0, a, b, hl, _ => by
    have h0 := hl c0 (by simp)
    match c0, h0 with
    | [x, y], _ => simp
  | c0 :: css, i + 1, a, b, hl, h => by
    have h0 := hl c0 (by simp)
    have ih := flat_set (css := css) (i := i) (a := a) (b := b) (fun cs hc => hl cs (by simp [hc])) (by simpa using h)
    match c0, h0 with
    | [x, y], _ =>
      rw [List.set_cons_succ, List.flatten_cons, ih, List.flatten_cons]
      rw [show (i + 1) * 2 = i * 2 + 1 + 1 by omega, show i * 2 + 1 + 1 + 1 = (i * 2 + 1) + 1 + 1 by omega]
      simp
theorem OwR.set2 {base : Nat} {w : World} {g n cap : Nat} {l : List Spot} (h : OwR spotR 127 base w (.slice (some ⟨g, 0, none⟩) n cap) l) {i : Nat} (hi : i < l.length) (s : Spot) (hs : inR s.node ∧ inR s.cost) :
    OwR spotR 127 base ((w.setCell ⟨g, i * 2, none⟩ (.int .i64 s.node)).setCell ⟨g, i * 2 + 1, none⟩ (.int .i64 s.cost)) (.slice (some ⟨g, 0, none⟩) n cap) (l.set i s) := by
  obtain ⟨css, h1, h2, h3, h4⟩ := h
  have hn : n = l.length := by
    rcases h3.2 with ⟨h', _⟩ | ⟨g', cap', cur, h', _⟩
    · cases h'
    · injection h'
  subst hn
  have hlens : ∀ cs ∈ css, cs.length = 2 := by
    intro cs hc
    obtain ⟨k, hk, rfl⟩ := List.getElem_of_mem hc
    obtain ⟨e, _⟩ := h2 k _ _ (List.getElem?_eq_getElem hk) (List.getElem?_eq_getElem (by omega))
    rw [e]; rfl
  refine ⟨css.set i [.int .i64 s.node, .int .i64 s.cost], by simp [h1], fun k cs x hk hx => ?_, ?_, by simp [World.setCell]; exact h4⟩
  · rw [List.getElem?_set] at hk hx
    by_cases e : i = k
    · subst e
      rw [if_pos rfl, if_pos (by omega)] at hk
      rw [if_pos rfl, if_pos hi] at hx
      injection hk with hk; injection hx with hx
      subst hk; subst hx
      exact ⟨rfl, hs⟩
    · rw [if_neg e] at hk hx
      exact h2 k cs x hk hx
  · rw [flat_set hlens (by omega), List.length_set]
    exact ((h3.stored (i * 2) _).1.stored (i * 2 + 1) _).1
theorem OwR.cut {base : Nat} {w : World} {g n cap : Nat} {l : List Spot} (h : OwR spotR 127 base w (.slice (some ⟨g, 0, none⟩) n cap) l) {k : Nat} (hk : k ≤ l.length) :
    OwR spotR 127 base w (.slice (some ⟨g, 0, none⟩) k cap) (l.take k) := by
  obtain ⟨css, h1, h2, h3, h4⟩ := h
  have hlens : ∀ cs ∈ css, cs.length = 2 := by
    intro cs hc
    obtain ⟨k, hk, rfl⟩ := List.getElem_of_mem hc
    obtain ⟨e, _⟩ := h2 k _ _ (List.getElem?_eq_getElem hk) (List.getElem?_eq_getElem (by omega))
    rw [e]; rfl
  have hfl : ∀ {css : List (List Value)} {k : Nat}, (∀ cs ∈ css, cs.length = 2) → (css.take k).flatten = css.flatten.take (k * 2) := by
    intro css
    induction css with
    | nil => intro k _; simp
    | cons c0 css ih =>
      intro k hl
      have h0 := hl c0 (by simp)
      cases k with
      | zero => simp
      | succ k =>
        match c0, h0 with
        | [x, y], _ =>
          rw [List.take_succ_cons, List.flatten_cons, ih (fun cs hc => hl cs (by simp [hc])), List.flatten_cons, show (k + 1) * 2 = k * 2 + 1 + 1 by omega]
          simp
  refine ⟨css.take k, by rw [List.length_take, List.length_take, h1], fun j cs x hj hx => ?_, ?_, h4⟩
  · rw [List.getElem?_take] at hj hx
    by_cases e : j < k
    · rw [if_pos e] at hj hx
      exact h2 j cs x hj hx
    · rw [if_neg e] at hj; cases hj
  · rw [hfl hlens]
    have hlk : (l.take k).length = k := by rw [List.length_take]; omega
    rw [hlk]
    refine ⟨by rw [List.length_take, h3.1]; show min (k * 2) (l.length * 2) = k * 2; omega, ?_⟩
    rcases h3.2 with ⟨h', _⟩ | ⟨g', cap', cur, h', hb, hg, hnc, hcm, hcs, htake⟩
    · cases h'
    · injection h' with e1 e2 e3
      subst e3
      refine .inr ⟨g', cap, cur, by rw [e1], hb, hg, by omega, hcm, hcs, ?_⟩
      rw [← htake, List.take_take]
      congr 1
      show k * 2 = min (k * 2) (l.length * 2)
      omega
theorem inR_at {base : Nat} {w : World} {v : Value} {l : List Spot} (h : OwR spotR 127 base w v l) (hl : 0 < l.length) : ∀ i, i < l.length → inR (atS l i).node ∧ inR (atS l i).cost := by
  obtain ⟨_, _, _, _, _, _, _, h6, _⟩ := h.slot hl
  exact h6
end Go.Proofs.YtcbkimbeljhbhaaGreatDoor

namespace Go.Proofs.YtcbkimbeljhbhaaGreatDoor
open Go Go.RowKit Go.Deep

theorem grownS (w : World) (p : Addr) (u : Value) : w.grownBy (w.setCell p u) (some p.block) := ⟨rfl, rfl, rfl, by simp [World.setCell], fun k hk hne => Below.heap_setCell _ _ _ _ (fun e => hne (by rw [e]))⟩
theorem owS_set {E base : Nat} {w : World} {v : Value} {xs : List Spot} (h : OwR spotR E base w v xs) {p : Addr} (hp : p.block < base) (u : Value) : OwR spotR E base (w.setCell p u) v xs :=
  h.kept (grownS w p u) (by
    rcases e : v.ownBlock with _ | k
    · exact .inl rfl
    · right; intro e2; injection e2 with e2; have := (h.base_le k e).1; omega) (fun _ _ h => h)
theorem HpAt.put {w : World} {H base : Nat} {v0 v : Value} {l : List Spot} (hc : w.cell? ⟨H, 0, none⟩ = some v0) (hf : ∀ i, w.frozen? ⟨H, i, none⟩ = false) (hl : H < base) (ho : OwR spotR 127 base w v l) : HpAt (w.setCell ⟨H, 0, none⟩ v) H base l :=
  ⟨⟨v, World.cell?_setCell_same' w _ v (by rw [hc]; rfl), owS_set ho (p := ⟨H, 0, none⟩) hl v⟩, fun i => by rw [World.frozen?_setCell]; exact hf i, hl⟩
theorem cellS {w w' : World} (hb : Below w.heap.size w w') {a : Addr} {v : Value} (hc : w.cell? a = some v) : w'.cell? a = some v := (hb.cell (World.block_lt_of_cell? w a hc)).trans hc
theorem up_zero {f : Nat} {l : List Spot} : up f l 0 = l := by
  cases f with
  | zero => rfl
  | succ f => unfold up; rw [if_neg (by omega)]
theorem up_no {f k : Nat} {l : List Spot} (h : lessS (atS l k) (atS l ((k - 1) / 2)) = false) : up f l k = l := by
  cases f with
  | zero => rfl
  | succ f => unfold up; rw [if_neg (by rw [h]; simp)]
theorem up_yes {f k : Nat} {l : List Spot} (hf : k < f) (h0 : 0 < k) (h : lessS (atS l k) (atS l ((k - 1) / 2)) = true) : up f l k = up (f - 1) (swapS l k ((k - 1) / 2)) ((k - 1) / 2) := by
  obtain ⟨f, rfl⟩ : ∃ g, f = g + 1 := ⟨f - 1, by omega⟩
  show (if 0 < k ∧ _ then _ else _) = _
  rw [if_pos ⟨h0, h⟩]; rfl
theorem owS_form {E base : Nat} {w : World} {v : Value} {xs : List Spot} (h : OwR spotR E base w v xs) : ∃ A n c, v = .slice A n c := by
  obtain ⟨A, c, hv⟩ := (h.sl (by decide)).form
  exact ⟨A, _, c, hv⟩
theorem HpAt.swap {w : World} {H base g cap : Nat} {l : List Spot} (h1 : w.cell? ⟨H, 0, none⟩ = some (.slice (some ⟨g, 0, none⟩) l.length cap)) (hf : ∀ i, w.frozen? ⟨H, i, none⟩ = false) (hl : H < base) (hg : g ≠ H) (ho : OwR spotR 127 base w (.slice (some ⟨g, 0, none⟩) l.length cap) l)
    {k p : Nat} (hk : k < l.length) (hp : p < l.length) {xn xc yn yc : Int} (hx : Spot.mk xn xc = atS l k) (hy : Spot.mk yn yc = atS l p) (hr : ∀ i, i < l.length → inR (atS l i).node ∧ inR (atS l i).cost) :
    HpAt (((((w.setCell ⟨g, k * 2, none⟩ (.int .i64 yn)).setCell ⟨g, k * 2 + 1, none⟩ (.int .i64 yc)).setCell ⟨g, p * 2, none⟩ (.int .i64 xn)).setCell ⟨g, p * 2 + 1, none⟩ (.int .i64 xc))) H base (swapS l k p) := by
  have e1 : ∀ (w : World) o u, (World.setCell w ⟨g, o, none⟩ u).cell? ⟨H, 0, none⟩ = w.cell? ⟨H, 0, none⟩ := fun w o u => World.cell?_setCell_other _ _ _ _ (by intro e; injection e with e _ _; exact hg e)
  have rk := hr k hk
  have rp := hr p hp
  rw [← hx] at rk
  rw [← hy] at rp
  refine ⟨⟨_, by rw [e1, e1, e1, e1]; exact h1, ?_⟩, fun i => by rw [World.frozen?_setCell, World.frozen?_setCell, World.frozen?_setCell, World.frozen?_setCell]; exact hf i, hl⟩
  have s1 := ho.set2 hk ⟨yn, yc⟩ rp
  have s2 := s1.set2 (i := p) (by simp; exact hp) ⟨xn, xc⟩ rk
  unfold swapS
  rw [← hx, ← hy]
  exact s2
/-- behind the append -/
theorem push_app {w w4 : World} {H base : Nat} {o v2 : Value} {l : List Spot} {ob : Obj} (h1 : w.cell? ⟨H, 0, none⟩ = some o) (hf : ∀ i, w.frozen? ⟨H, i, none⟩ = false) (hl : H < base) (ho : OwR spotR 127 base w o l) (hg : GrowTo (w.alloc ob).drew o w4 v2) :
    w4.cell? ⟨H, 0, none⟩ = some o ∧ (∀ i, w4.frozen? ⟨H, i, none⟩ = false) ∧ Below H w w4 := by
  have hlt : H < w.heap.size := World.block_lt_of_cell? w _ h1
  have hb := (Below.refl w.heap.size w).alloc (Nat.le_refl _) ob
  have hk : w4.heap[H]? = w.heap[H]? := by
    rw [hg.grown.block H (by simp [World.drew]; omega) (fun e => by have := (ho.base_le H e.symm).1; omega)]
    exact hb.block H hlt
  refine ⟨(World.cell?_of_block (w := w) hk).trans h1, fun i => (World.frozen?_of_block (w := w) hk).trans (hf i), ?_⟩
  refine ((hb.mono (Nat.le_of_lt hlt)).drew).grown hg.grown (by simp [World.drew]; omega) (fun k e => by have := (ho.base_le k e).1; omega)

set_option maxRecDepth 50000 in
set_option maxHeartbeats 4000000 in
theorem push_any (H base : Nat) (l : List Spot) (n c : Int) (w : World) (h : HpAt w H base l) (hn : inR n) (hc : inR c) (hlen : l.length ≤ 100000) :
    Calls Tryz.prog 62 #[.pointer (some ⟨H, 0, none⟩), .agg #[.int .i64 n, .int .i64 c]] w fun e w' => e = .returned (.tuple #[]) ∧ HpAt w' H base (pushS l ⟨n, c⟩) ∧ Below H w w' := by
  have hb0 : H < w.heap.size := by obtain ⟨v, h1, _⟩ := h.row; exact World.block_lt_of_cell? w _ h1
  have HP := Go.Lib.hid h
  clear h
  go_enter Tryz.func62, Tryz.ntmps62
  go_wp2_with fail
  have hal := (Below.refl w.heap.size w).alloc (Nat.le_refl _) (.cells #[.int .i64 n, .int .i64 c] 127)
  have HP0 := Go.Lib.hid (HP.out.below hal)
  have HB0 := Go.Lib.hid (hal.mono (Nat.le_of_lt hb0))
  obtain ⟨W, hW⟩ : ∃ x, x = w.alloc (.cells #[.int .i64 n, .int .i64 c] 127) := ⟨_, rfl⟩
  obtain ⟨B, hB⟩ : ∃ x, x = w.heap.size := ⟨_, rfl⟩
  have a0 : W.cell? ⟨B, 0, none⟩ = some (.int .i64 n) := by rw [hW, hB, World.cell?_alloc_at _ _ _ _ rfl]; rfl
  have a1 : W.cell? ⟨B, 1, none⟩ = some (.int .i64 c) := by rw [hW, hB, World.cell?_alloc_at _ _ _ _ rfl]; rfl
  rw [← hW] at HP0 HB0
  rw [← hW, ← hB]
  clear hW hB hal HP
  obtain ⟨v, h1, h2⟩ := HP0.out.row
  have hf := HP0.out.fz
  have hlt := HP0.out.lt
  obtain ⟨A, vc, rfl⟩ := (h2.sl (by decide)).form
  have HC := Go.Lib.hid (fun w4 v2 hg => push_app (w4 := w4) (v2 := v2) (ob := .cells #[.int .i64 n, .int .i64 c] 127) h1 hf hlt h2 hg)
  have HOA := Go.Lib.hid (h2.keep ((Below.refl W.heap.size W).alloc (Nat.le_refl _) (.cells #[.int .i64 n, .int .i64 c] 127)).drew)
  have hone := one_flat (r := spotR) (w := W) (B := W.heap.size) (cs := [.int .i64 n, .int .i64 c]) (x := ⟨n, c⟩) (E := 127) rfl ⟨rfl, hn, hc⟩
  have HONE := Go.Lib.hid (SlR.keep (w' := (W.alloc (.cells #[.int .i64 n, .int .i64 c] 127)).drew) hone (fun _ _ => rfl) (fun _ h => h))
  have HN := Go.Lib.hid (show l.length + 1 ≤ 1000000000000 by omega)
  have hf0 := hf 0
  have HLT := Go.Lib.hid hlt
  have hH : H < W.heap.size := World.block_lt_of_cell? W _ h1
  clear hone h2 hf hlt
  go_region_law (first
    | (refine step_gen (base := base) elt_spot (by rfl) (.tmp 9) (.tmp 11) (by rfl) HOA.out HONE.out (fun _ _ h => h) (by rfl) (by rfl) HN.out (by decide) ?_; intro v2 w4 ho2 hg2; obtain ⟨A9, n9, c9, rfl⟩ := owS_form ho2; have HG2 := Go.Lib.hid hg2; obtain ⟨y1, y2, y3⟩ := HC.out w4 _ hg2; have y5 := y2 0; clear hg2 y2)
    | (go_simp; go_wp2_with fail))
  all_goals
    have HP1 := Go.Lib.hid (HpAt.put y1 (HC.out w4 _ HG2.out).2.1 HLT.out ho2)
    have HB1 := Go.Lib.hid ((HB0.out.trans y3).setCell (p := ⟨H, 0, none⟩) (Nat.le_refl H) (.slice A9 n9 c9))
    clear y1 y3 y5 HG2 HC ho2 HOA HONE HB0 HP0 h1 HN hf0 hH
    go_simp
    obtain ⟨W1, hW1⟩ : ∃ x, x = w4.setCell ⟨H, 0, none⟩ (.slice A9 n9 c9) := ⟨_, rfl⟩
    rw [← hW1] at HP1 HB1
    rw [← hW1]
    clear hW1
    obtain ⟨l0, hl0⟩ : ∃ x, x = l ++ [Spot.mk n c] := ⟨_, rfl⟩
    have HLL := Go.Lib.hid (show l0.length = l.length + 1 by rw [hl0]; simp)
    have HUP := Go.Lib.hid (show up (l.length + 1) l0 l.length = pushS l ⟨n, c⟩ by rw [hl0]; rfl)
    rw [← hl0] at HP1
    clear hl0
    obtain ⟨v1, h1, h2⟩ := HP1.out.row
    obtain ⟨A1, vc1, rfl⟩ := (h2.sl (by decide)).form
    have hl1 : ((l0.length : Nat) : Int) - 1 = (l.length : Nat) := by rw [HLL.out]; omega
    have hl1b : IntKind.i64.wrap (l.length : Int) = (l.length : Int) := by rw [IntKind.wrap_i64]; omega
    go_wp2_with fail
    clear h1 h2
    go_loopw [4] (fun i wr => ∃ (k : Nat) (l' : List Spot) (f : Nat), i = .int .i64 k ∧ k < l'.length ∧ l'.length = l.length + 1 ∧ k < f ∧ up f l' k = pushS l ⟨n, c⟩ ∧ HpAt wr H base l' ∧ Below H w wr) (fun i _ => (intOf i).toNat)
    case atStart => exact ⟨l.length, l0, l.length + 1, rfl, by rw [HLL.out]; omega, HLL.out, Nat.lt_succ_self _, HUP.out, HP1.out, HB1.out⟩
    case round =>
      obtain ⟨k, l', f, rfl, hk, hll, hkf, hup, hp, hb⟩ := hrel
      have HPK := Go.Lib.hid hp
      have HBK := Go.Lib.hid hb
      have HUK := Go.Lib.hid hup
      have HFK := Go.Lib.hid hkf
      clear hp hb hup hkf
      obtain ⟨p, hpe⟩ : ∃ p, p = (k - 1) / 2 := ⟨_, rfl⟩
      by_cases h0 : 0 < k
      · have h0i : (0 : Int) < (k : Int) := by omega
        obtain ⟨m, hm⟩ : ∃ m, m = k - 1 := ⟨_, rfl⟩
        have hm1 : (k : Int) - 1 = (m : Int) := by omega
        have hq : Int.tdiv (m : Int) 2 = (p : Int) := by rw [hpe, ← hm]; rfl
        have hpk : p < k := by omega
        have hml : (m : Int) ≤ 200000 := by omega
        have hpl : (p : Int) ≤ 200000 := by omega
        have HLS := less_any H base l' k p wr HPK.out hk (by omega)
        have HPE := Go.Lib.hid hpe
        clear hpe hm
        rcases hL : lessS (atS l' k) (atS l' p) with _ | _
        · rw [hL] at HLS
          have HLS := Go.Lib.hid HLS
          have HL := Go.Lib.hid hL
          clear hL
          go_wp2_with (go_at_call 93; refine HLS.out.mono ?_; rintro e w3 ⟨rfl, hb3⟩)
          refine bodyPost_end (v := .tuple #[]) (by simp [results, Tryz.results62, go_sem]) rfl ?_
          refine ⟨rfl, ?_, HBK.out.trans (hb3.mono (Nat.le_trans (Nat.le_of_lt hb0) HBK.out.size))⟩
          rw [← HUK.out, up_no (by rw [← HPE.out]; exact HL.out)]
          exact HPK.out.below hb3
        · rw [hL] at HLS
          have HLS := Go.Lib.hid HLS
          have HL := Go.Lib.hid hL
          clear hL
          go_wp2_with (go_at_call 93; refine HLS.out.mono ?_; rintro e w3 ⟨rfl, hb3⟩)
          have HP3 := Go.Lib.hid (HPK.out.below hb3)
          have HB3 := Go.Lib.hid (HBK.out.trans (hb3.mono (Nat.le_trans (Nat.le_of_lt hb0) HBK.out.size)))
          clear hb3 HPK HBK HLS
          obtain ⟨v3, h1, h2⟩ := HP3.out.row
          obtain ⟨g, cap, rfl, hbg, hg, hcl, hfr, hrr, hcap, hm⟩ := h2.slot (by omega)
          obtain ⟨a1, a2⟩ := hcl k hk
          obtain ⟨b1, b2⟩ := hcl p (by omega)
          have hk0 : (0 : Int) ≤ (k : Int) := Int.natCast_nonneg k
          have hp0 : (0 : Int) ≤ (p : Int) := Int.natCast_nonneg p
          have hki : (k : Int) < (l'.length : Int) := by omega
          have hpi : (p : Int) < (l'.length : Int) := by omega
          have n1 : ¬ p = k := by omega
          have n2 : ¬ k = p := by omega
          have n3 : ¬ p * 2 + 1 = k * 2 := by omega
          have n4 : ¬ k * 2 = p * 2 + 1 := by omega
          have n5 : ¬ p * 2 = k * 2 + 1 := by omega
          have n6 : ¬ k * 2 + 1 = p * 2 := by omega
          have hgH : g ≠ H := by have := HP3.out.lt; omega
          have hH3 : H < w3.heap.size := World.block_lt_of_cell? w3 _ h1
          have f1 := hfr (k * 2)
          have f2 := hfr (k * 2 + 1)
          have f3 := hfr (p * 2)
          have f4 := hfr (p * 2 + 1)
          obtain ⟨⟨xn, xc⟩, hX⟩ : ∃ x, x = atS l' k := ⟨_, rfl⟩
          obtain ⟨⟨yn, yc⟩, hY⟩ : ∃ x, x = atS l' p := ⟨_, rfl⟩
          rw [← hX] at a1 a2
          rw [← hY] at b1 b2
          have HRR := Go.Lib.hid hrr
          clear hcl hfr hrr
          have HX := Go.Lib.hid hX
          have HY := Go.Lib.hid hY
          have H2 := Go.Lib.hid h2
          clear hX hY h2
          go_region
          all_goals
            go_wp2_with fail
            go_roundw
            case rel =>
              refine ⟨p, swapS l' k p, f - 1, rfl, by rw [swap_len]; omega, by rw [swap_len]; exact hll, by have := HFK.out; omega, ?_, ?_, ?_⟩
              · rw [← HUK.out, up_yes HFK.out h0 (by rw [← HPE.out]; exact HL.out), ← HPE.out]
              · exact (HpAt.swap h1 HP3.out.fz HLT.out hgH H2.out hk (by omega) HX.out HY.out HRR.out).below (Below.refl _ _).drew
              · exact ((((HB3.out.setCell (p := ⟨g, k * 2, none⟩) (by show H ≤ g; have := HLT.out; omega) _).setCell (p := ⟨g, k * 2 + 1, none⟩) (by show H ≤ g; have := HLT.out; omega) _).setCell (p := ⟨g, p * 2, none⟩) (by show H ≤ g; have := HLT.out; omega) _).setCell (p := ⟨g, p * 2 + 1, none⟩) (by show H ≤ g; have := HLT.out; omega) _).drew
            case measure => simp [intOf]; omega
      · have h0i : ¬ (0 : Int) < (k : Int) := by omega
        obtain rfl : k = 0 := by omega
        go_wp2_with fail
        refine bodyPost_end (v := .tuple #[]) (by simp [results, Tryz.results62, go_sem]) rfl ?_
        exact ⟨rfl, by rw [← HUK.out, up_zero]; exact HPK.out, HBK.out⟩
end Go.Proofs.YtcbkimbeljhbhaaGreatDoor

namespace Go.Proofs.YtcbkimbeljhbhaaGreatDoor
open Go Go.RowKit Go.Deep

theorem down_end {f i : Nat} {l : List Spot} (h : l.length ≤ 2 * i + 1) : down f l i = l := by
  cases f with
  | zero => rfl
  | succ f => unfold down; rw [if_pos h]
theorem down_no {f i : Nat} {l : List Spot} (h : lessS (atS l (kid l l.length i)) (atS l i) = false) : down f l i = l := by
  cases f with
  | zero => rfl
  | succ f =>
    show (if _ then _ else if _ then _ else _) = _
    rw [h]
    split
    · rfl
    · rfl
theorem down_yes {f i : Nat} {l : List Spot} (hf : 0 < f) (h0 : ¬ l.length ≤ 2 * i + 1) (h : lessS (atS l (kid l l.length i)) (atS l i) = true) : down f l i = down (f - 1) (swapS l i (kid l l.length i)) (kid l l.length i) := by
  obtain ⟨f, rfl⟩ : ∃ g, f = g + 1 := ⟨f - 1, by omega⟩
  show (if _ then _ else if _ then _ else _) = _
  rw [if_neg h0, if_pos h]; rfl
theorem kid_two {i : Nat} {l : List Spot} (h : 2 * i + 2 < l.length) (hl : lessS (atS l (2 * i + 2)) (atS l (2 * i + 1)) = true) : kid l l.length i = 2 * i + 2 := by
  unfold kid; rw [if_pos ⟨h, hl⟩]
theorem kid_one {i : Nat} {l : List Spot} (h : ¬ 2 * i + 2 < l.length ∨ lessS (atS l (2 * i + 2)) (atS l (2 * i + 1)) = false) : kid l l.length i = 2 * i + 1 := by
  unfold kid; rw [if_neg]; rintro ⟨h1, h2⟩
  rcases h with h | h
  · exact h h1
  · rw [h] at h2; cases h2
/-- the last one put first, and the row cut -/
theorem HpAt.cut0 {w : World} {H base g cap m : Nat} {l : List Spot} (h1 : w.cell? ⟨H, 0, none⟩ = some (.slice (some ⟨g, 0, none⟩) l.length cap)) (hf : ∀ i, w.frozen? ⟨H, i, none⟩ = false) (hl : H < base) (hg : g ≠ H) (ho : OwR spotR 127 base w (.slice (some ⟨g, 0, none⟩) l.length cap) l)
    (hm : m + 1 = l.length) {yn yc : Int} (hy : Spot.mk yn yc = atS l m) (hr : inR yn ∧ inR yc) :
    HpAt ((((w.setCell ⟨g, 0, none⟩ (.int .i64 yn)).setCell ⟨g, 1, none⟩ (.int .i64 yc)).drew).setCell ⟨H, 0, none⟩ (.slice (some ⟨g, 0, none⟩) m cap)) H base ((l.set 0 (atS l (l.length - 1))).take (l.length - 1)) := by
  have e1 : ∀ (w : World) o u, (World.setCell w ⟨g, o, none⟩ u).cell? ⟨H, 0, none⟩ = w.cell? ⟨H, 0, none⟩ := fun w o u => World.cell?_setCell_other _ _ _ _ (by intro e; injection e with e _ _; exact hg e)
  have s1 := ho.set2 (i := 0) (by omega) ⟨yn, yc⟩ hr
  have s2 := (s1.cut (k := m) (by simp; omega)).keep (w' := ((w.setCell ⟨g, 0, none⟩ (.int .i64 yn)).setCell ⟨g, 1, none⟩ (.int .i64 yc)).drew) (Below.refl _ _).drew
  rw [show l.length - 1 = m by omega, ← hy]
  refine HpAt.put (v0 := .slice (some ⟨g, 0, none⟩) l.length cap) ?_ ?_ hl s2
  · show ((w.setCell ⟨g, 0, none⟩ (.int .i64 yn)).setCell ⟨g, 1, none⟩ (.int .i64 yc)).cell? _ = _
    rw [e1, e1]; exact h1
  · intro i
    show ((w.setCell ⟨g, 0, none⟩ (.int .i64 yn)).setCell ⟨g, 1, none⟩ (.int .i64 yc)).frozen? _ = _
    rw [World.frozen?_setCell, World.frozen?_setCell]; exact hf i

set_option maxRecDepth 50000 in
set_option maxHeartbeats 4000000 in
theorem pop_any (H base : Nat) (l : List Spot) (w : World) (h : HpAt w H base l) (h0 : 0 < l.length) (hlen : l.length ≤ 100000) :
    Calls Tryz.prog 63 #[.pointer (some ⟨H, 0, none⟩)] w fun e w' => e = .returned (.int .i64 (atS l 0).node) ∧ HpAt w' H base (popS l) ∧ Below H w w' := by
  have HP := Go.Lib.hid h
  obtain ⟨v, h1, h2⟩ := h.row
  obtain ⟨g, cap, rfl, hbg, hg, hcl, hfr, hrr, hcap, hmx⟩ := h2.slot h0
  have hH : H < w.heap.size := World.block_lt_of_cell? w _ h1
  obtain ⟨m, hm⟩ : ∃ m, m + 1 = l.length := ⟨l.length - 1, by omega⟩
  obtain ⟨n, hn⟩ : ∃ n, n = l.length := ⟨_, rfl⟩
  have hm1 : (n : Int) - 1 = (m : Int) := by omega
  have hml : (m : Int) < (n : Int) := by omega
  have hmx2 : (n : Int) ≤ 100000 := by omega
  have hn0 : (0 : Int) < (n : Int) := by omega
  have hm0 : (0 : Int) ≤ (m : Int) := by omega
  obtain ⟨a1, a2⟩ := hcl 0 h0
  rw [Nat.zero_mul] at a1 a2
  rw [Nat.zero_add] at a2
  obtain ⟨b1, b2⟩ := hcl m (by omega)
  have f0 := hfr 0
  have f1 := hfr 1
  have fH := h.fz 0
  obtain ⟨⟨xn, xc⟩, hX⟩ : ∃ x, x = atS l 0 := ⟨_, rfl⟩
  obtain ⟨⟨yn, yc⟩, hY⟩ : ∃ x, x = atS l m := ⟨_, rfl⟩
  rw [← hX] at a1 a2
  rw [← hY] at b1 b2
  rw [← hX]
  have HR := Go.Lib.hid (show inR yn ∧ inR yc by have := hrr m (by omega); rw [← hY] at this; exact this)
  have HLT := Go.Lib.hid h.lt
  have hgH : g ≠ H := by have := h.lt; omega
  have hgH2 : H ≠ g := fun e => hgH e.symm
  have HCUT := Go.Lib.hid (HpAt.cut0 h1 h.fz h.lt hgH h2 hm hY HR.out)
  have HLL := Go.Lib.hid hn
  have HMM := Go.Lib.hid hm
  rw [← hn] at h1 hcap
  have hcc : (m : Int) ≤ (cap : Int) := by omega
  have HBG := Go.Lib.hid (show H ≤ g by have := h.lt; omega)
  clear hX hY hcl hfr hrr h2 h hn hm h0
  go_enter Tryz.func63, Tryz.ntmps63
  go_wp2_with fail
  go_region
  all_goals
    go_wp2_with fail
    have HP1 := Go.Lib.hid (show HpAt (((((w.setCell ⟨g, 0, none⟩ (.int .i64 yn)).setCell ⟨g, 1, none⟩ (.int .i64 yc))).setCell ⟨H, 0, none⟩ (.slice (some ⟨g, 0, none⟩) m cap)).drew) H base ((l.set 0 (atS l (l.length - 1))).take (l.length - 1)) from HCUT.out)
    have HB1 := Go.Lib.hid ((((((Below.refl H w).setCell (p := ⟨g, 0, none⟩) HBG.out (.int .i64 yn)).setCell (p := ⟨g, 1, none⟩) HBG.out (.int .i64 yc))).setCell (p := ⟨H, 0, none⟩) (Nat.le_refl H) (.slice (some ⟨g, 0, none⟩) m cap))).drew
    obtain ⟨W, hW⟩ : ∃ x, x = (((w.setCell ⟨g, 0, none⟩ (.int .i64 yn)).setCell ⟨g, 1, none⟩ (.int .i64 yc)).setCell ⟨H, 0, none⟩ (.slice (some ⟨g, 0, none⟩) m cap)).drew := ⟨_, rfl⟩
    rw [← hW] at HP1 HB1
    rw [← hW]
    clear hW HCUT h1 b1 b2 f0 f1 fH hcap hgH hgH2 hcc hg hbg
    obtain ⟨l1, hl1⟩ : ∃ x, x = (l.set 0 (atS l (l.length - 1))).take (l.length - 1) := ⟨_, rfl⟩
    have HLL1 := Go.Lib.hid (show l1.length = m by have := HMM.out; rw [hl1]; simp; omega)
    have HD1 := Go.Lib.hid (show down (l.length + 1) l1 0 = popS l by rw [hl1]; rfl)
    rw [← hl1] at HP1
    clear hl1
    go_loopw [5, 6] (fun u _ wr => ∃ (i : Nat) (l' : List Spot) (f : Nat), u = .int .i64 i ∧ i ≤ m ∧ l'.length = m ∧ m < i + f ∧ down f l' i = popS l ∧ HpAt wr H base l' ∧ Below H w wr) (fun u _ _ => m - (intOf u).toNat)
    case atStart => exact ⟨0, l1, l.length + 1, rfl, Nat.zero_le _, HLL1.out, by have := HMM.out; omega, HD1.out, HP1.out, HB1.out⟩
    case round =>
      clear HP1 HB1 HLL1 HD1
      obtain ⟨i, l', f, rfl, hi, hll, hif, hdn, hp, hb⟩ := hrel
      have HPK := Go.Lib.hid hp
      have HBK := Go.Lib.hid hb
      have HDN := Go.Lib.hid hdn
      have HIF := Go.Lib.hid hif
      have HL1 := Go.Lib.hid hll
      have HIM := Go.Lib.hid hi
      obtain ⟨k1, hk1⟩ : ∃ x, x = 2 * i + 1 := ⟨_, rfl⟩
      obtain ⟨k2, hk2⟩ : ∃ x, x = k1 + 1 := ⟨_, rfl⟩
      have e1 : 2 * (i : Int) + 1 = (k1 : Int) := by omega
      have e2 : (k1 : Int) + 1 = (k2 : Int) := by omega
      have e3 : (k2 : Int) ≤ 500000 := by omega
      have e4 : (i : Int) ≤ 100000 := by omega
      have e5 : (0 : Int) ≤ (i : Int) := Int.natCast_nonneg i
      have e6 : (0 : Int) ≤ (k1 : Int) := Int.natCast_nonneg k1
      have HK1 := Go.Lib.hid hk1
      have HK2 := Go.Lib.hid (show k2 = 2 * i + 2 by omega)
      clear hp hb hdn hif hll hi
      by_cases c1 : m ≤ k1
      · have c1i : (m : Int) ≤ (k1 : Int) := by omega
        clear hk1 hk2
        go_wp2_with fail
        go_ret
        exact ⟨rfl, by rw [← HDN.out, down_end (by have := HL1.out; have := HK1.out; omega)]; exact HPK.out, HBK.out⟩
      · have c1i : ¬ (m : Int) ≤ (k1 : Int) := by omega
        have hk1l : k1 < l'.length := by rw [HL1.out]; omega
        by_cases c2 : k2 < m
        · have c2i : (k2 : Int) < (m : Int) := by omega
          have hk2l : k2 < l'.length := by rw [HL1.out]; omega
          have HLS := less_any H base l' k2 k1 wr HPK.out hk2l hk1l
          clear hk1 hk2
          rcases hL : lessS (atS l' k2) (atS l' k1) with _ | _
          · rw [hL] at HLS
            have HLS := Go.Lib.hid HLS
            have HKD := Go.Lib.hid (show kid l' l'.length i = k1 by rw [HK1.out]; exact kid_one (.inr (by rw [← HK1.out, ← HK2.out]; exact hL)))
            clear hL
            have HLS2 := fun w' (hb : Below wr.heap.size wr w') => less_any H base l' k1 i w' (HPK.out.below hb) (by have := HL1.out; omega) (by have := HL1.out; have := HK1.out; omega)
            rcases hL2 : lessS (atS l' k1) (atS l' i) with _ | _
            · rw [hL2] at HLS2
              have HLS2 := Go.Lib.hid HLS2
              have HL2 := Go.Lib.hid hL2
              clear hL2
              go_wp2_with (go_at_call 93; first | (refine HLS.out.mono ?_; rintro e w3 ⟨rfl, hb3⟩; clear HLS) | (refine (HLS2.out w3 hb3).mono ?_; rintro e w5 ⟨rfl, hb5⟩))
              go_ret
              exact ⟨rfl, by rw [← HDN.out, down_no (by rw [HKD.out]; exact HL2.out)]; exact HPK.out.below (hb3.trans (hb5.mono hb3.size)), HBK.out.trans (Below.mono (hb3.trans (hb5.mono hb3.size)) (Nat.le_trans (Nat.le_of_lt hH) HBK.out.size))⟩
            · rw [hL2] at HLS2
              have HLS2 := Go.Lib.hid HLS2
              have HL2 := Go.Lib.hid hL2
              clear hL2
              go_wp2_with (go_at_call 93; first | (refine HLS.out.mono ?_; rintro e w3 ⟨rfl, hb3⟩; clear HLS) | (refine (HLS2.out w3 hb3).mono ?_; rintro e w5 ⟨rfl, hb5⟩))
              have HP4 := Go.Lib.hid (HPK.out.below (hb3.trans (hb5.mono hb3.size)))
              have HB4 := Go.Lib.hid (HBK.out.trans (Below.mono (hb3.trans (hb5.mono hb3.size)) (Nat.le_trans (Nat.le_of_lt hH) HBK.out.size)))
              clear hb5 HPK HBK HLS2
              have hll := HL1.out
              obtain ⟨v3, h1, h2⟩ := HP4.out.row
              obtain ⟨g3, cap3, rfl, hbg, hg, hcl, hfr, hrr, hcap, hm⟩ := h2.slot (by omega)
              have hil : i < l'.length := by have := HK1.out; omega
              have hKl : k1 < l'.length := by omega
              have hiK : i < k1 := by have := HK1.out; have := HK2.out; omega
              obtain ⟨a1, a2⟩ := hcl k1 hKl
              obtain ⟨b1, b2⟩ := hcl i hil
              have hki : (k1 : Int) < (l'.length : Int) := by omega
              have hpi : (i : Int) < (l'.length : Int) := by omega
              have hk0 : (0 : Int) ≤ (k1 : Int) := Int.natCast_nonneg _
              have n1 : ¬ i = k1 := by omega
              have n2 : ¬ k1 = i := by omega
              have n3 : ¬ i * 2 + 1 = k1 * 2 := by omega
              have n4 : ¬ k1 * 2 = i * 2 + 1 := by omega
              have n5 : ¬ i * 2 = k1 * 2 + 1 := by omega
              have n6 : ¬ k1 * 2 + 1 = i * 2 := by omega
              have hgH : g3 ≠ H := by have := HP4.out.lt; omega
              have hH3 : H < w5.heap.size := World.block_lt_of_cell? w5 _ h1
              have f1 := hfr (k1 * 2)
              have f2 := hfr (k1 * 2 + 1)
              have f3 := hfr (i * 2)
              have f4 := hfr (i * 2 + 1)
              obtain ⟨⟨xn2, xc2⟩, hX⟩ : ∃ x, x = atS l' k1 := ⟨_, rfl⟩
              obtain ⟨⟨yn2, yc2⟩, hY⟩ : ∃ x, x = atS l' i := ⟨_, rfl⟩
              rw [← hX] at a1 a2
              rw [← hY] at b1 b2
              have HRR := Go.Lib.hid hrr
              clear hcl hfr hrr
              have HX := Go.Lib.hid hX
              have HY := Go.Lib.hid hY
              have H2 := Go.Lib.hid h2
              have HGL := Go.Lib.hid (show H ≤ g3 by have := HLT.out; omega)
              clear hX hY h2 hll
              go_region
              all_goals
                go_wp2_with fail
                go_roundw
                case rel =>
                  refine ⟨k1, swapS l' i k1, f - 1, rfl, by have := HL1.out; omega, by rw [swap_len]; exact HL1.out, by have := HIF.out; omega, ?_, ?_, ?_⟩
                  · have e := down_yes (f := f) (l := l') (i := i) (by have := HIF.out; omega) (by have := HK1.out; have := HL1.out; omega) (by rw [HKD.out]; exact HL2.out)
                    rw [HKD.out] at e
                    exact e.symm.trans HDN.out
                  · exact (HpAt.swap h1 HP4.out.fz HLT.out hgH H2.out hil hKl HY.out HX.out HRR.out).below (Below.refl _ _).drew
                  · exact ((((HB4.out.setCell (p := ⟨g3, i * 2, none⟩) HGL.out _).setCell (p := ⟨g3, i * 2 + 1, none⟩) HGL.out _).setCell (p := ⟨g3, k1 * 2, none⟩) HGL.out _).setCell (p := ⟨g3, k1 * 2 + 1, none⟩) HGL.out _).drew
                case measure => simp [intOf]; have := HL1.out; omega
          · rw [hL] at HLS
            have HLS := Go.Lib.hid HLS
            have HKD := Go.Lib.hid (show kid l' l'.length i = k2 by rw [HK2.out]; exact kid_two (by rw [← HK2.out]; exact hk2l) (by rw [← HK1.out, ← HK2.out]; exact hL))
            clear hL
            have HLS2 := fun w' (hb : Below wr.heap.size wr w') => less_any H base l' k2 i w' (HPK.out.below hb) (by have := HL1.out; omega) (by have := HL1.out; have := HK1.out; omega)
            rcases hL2 : lessS (atS l' k2) (atS l' i) with _ | _
            · rw [hL2] at HLS2
              have HLS2 := Go.Lib.hid HLS2
              have HL2 := Go.Lib.hid hL2
              clear hL2
              go_wp2_with (go_at_call 93; first | (refine HLS.out.mono ?_; rintro e w3 ⟨rfl, hb3⟩; clear HLS) | (refine (HLS2.out w3 hb3).mono ?_; rintro e w5 ⟨rfl, hb5⟩))
              go_ret
              exact ⟨rfl, by rw [← HDN.out, down_no (by rw [HKD.out]; exact HL2.out)]; exact HPK.out.below (hb3.trans (hb5.mono hb3.size)), HBK.out.trans (Below.mono (hb3.trans (hb5.mono hb3.size)) (Nat.le_trans (Nat.le_of_lt hH) HBK.out.size))⟩
            · rw [hL2] at HLS2
              have HLS2 := Go.Lib.hid HLS2
              have HL2 := Go.Lib.hid hL2
              clear hL2
              go_wp2_with (go_at_call 93; first | (refine HLS.out.mono ?_; rintro e w3 ⟨rfl, hb3⟩; clear HLS) | (refine (HLS2.out w3 hb3).mono ?_; rintro e w5 ⟨rfl, hb5⟩))
              have HP4 := Go.Lib.hid (HPK.out.below (hb3.trans (hb5.mono hb3.size)))
              have HB4 := Go.Lib.hid (HBK.out.trans (Below.mono (hb3.trans (hb5.mono hb3.size)) (Nat.le_trans (Nat.le_of_lt hH) HBK.out.size)))
              clear hb5 HPK HBK HLS2
              have hll := HL1.out
              obtain ⟨v3, h1, h2⟩ := HP4.out.row
              obtain ⟨g3, cap3, rfl, hbg, hg, hcl, hfr, hrr, hcap, hm⟩ := h2.slot (by omega)
              have hil : i < l'.length := by have := HK1.out; omega
              have hKl : k2 < l'.length := by omega
              have hiK : i < k2 := by have := HK1.out; have := HK2.out; omega
              obtain ⟨a1, a2⟩ := hcl k2 hKl
              obtain ⟨b1, b2⟩ := hcl i hil
              have hki : (k2 : Int) < (l'.length : Int) := by omega
              have hpi : (i : Int) < (l'.length : Int) := by omega
              have hk0 : (0 : Int) ≤ (k2 : Int) := Int.natCast_nonneg _
              have n1 : ¬ i = k2 := by omega
              have n2 : ¬ k2 = i := by omega
              have n3 : ¬ i * 2 + 1 = k2 * 2 := by omega
              have n4 : ¬ k2 * 2 = i * 2 + 1 := by omega
              have n5 : ¬ i * 2 = k2 * 2 + 1 := by omega
              have n6 : ¬ k2 * 2 + 1 = i * 2 := by omega
              have hgH : g3 ≠ H := by have := HP4.out.lt; omega
              have hH3 : H < w5.heap.size := World.block_lt_of_cell? w5 _ h1
              have f1 := hfr (k2 * 2)
              have f2 := hfr (k2 * 2 + 1)
              have f3 := hfr (i * 2)
              have f4 := hfr (i * 2 + 1)
              obtain ⟨⟨xn2, xc2⟩, hX⟩ : ∃ x, x = atS l' k2 := ⟨_, rfl⟩
              obtain ⟨⟨yn2, yc2⟩, hY⟩ : ∃ x, x = atS l' i := ⟨_, rfl⟩
              rw [← hX] at a1 a2
              rw [← hY] at b1 b2
              have HRR := Go.Lib.hid hrr
              clear hcl hfr hrr
              have HX := Go.Lib.hid hX
              have HY := Go.Lib.hid hY
              have H2 := Go.Lib.hid h2
              have HGL := Go.Lib.hid (show H ≤ g3 by have := HLT.out; omega)
              clear hX hY h2 hll
              go_region
              all_goals
                go_wp2_with fail
                go_roundw
                case rel =>
                  refine ⟨k2, swapS l' i k2, f - 1, rfl, by have := HL1.out; omega, by rw [swap_len]; exact HL1.out, by have := HIF.out; omega, ?_, ?_, ?_⟩
                  · have e := down_yes (f := f) (l := l') (i := i) (by have := HIF.out; omega) (by have := HK1.out; have := HL1.out; omega) (by rw [HKD.out]; exact HL2.out)
                    rw [HKD.out] at e
                    exact e.symm.trans HDN.out
                  · exact (HpAt.swap h1 HP4.out.fz HLT.out hgH H2.out hil hKl HY.out HX.out HRR.out).below (Below.refl _ _).drew
                  · exact ((((HB4.out.setCell (p := ⟨g3, i * 2, none⟩) HGL.out _).setCell (p := ⟨g3, i * 2 + 1, none⟩) HGL.out _).setCell (p := ⟨g3, k2 * 2, none⟩) HGL.out _).setCell (p := ⟨g3, k2 * 2 + 1, none⟩) HGL.out _).drew
                case measure => simp [intOf]; have := HL1.out; omega
        · have c2i : ¬ (k2 : Int) < (m : Int) := by omega
          have HKD := Go.Lib.hid (show kid l' l'.length i = k1 by rw [HK1.out]; exact kid_one (.inl (by rw [← HK2.out, HL1.out]; exact c2)))
          clear hk1 hk2
          have HLS2 := fun w' (hb : Below wr.heap.size wr w') => less_any H base l' k1 i w' (HPK.out.below hb) (by have := HL1.out; omega) (by have := HL1.out; have := HK1.out; omega)
          rcases hL2 : lessS (atS l' k1) (atS l' i) with _ | _
          · rw [hL2] at HLS2
            have HLS2 := Go.Lib.hid HLS2
            have HL2 := Go.Lib.hid hL2
            clear hL2
            go_wp2_with (go_at_call 93; (refine (HLS2.out wr (Below.refl _ _)).mono ?_; rintro e w5 ⟨rfl, hb5⟩))
            go_ret
            exact ⟨rfl, by rw [← HDN.out, down_no (by rw [HKD.out]; exact HL2.out)]; exact HPK.out.below hb5, HBK.out.trans (Below.mono hb5 (Nat.le_trans (Nat.le_of_lt hH) HBK.out.size))⟩
          · rw [hL2] at HLS2
            have HLS2 := Go.Lib.hid HLS2
            have HL2 := Go.Lib.hid hL2
            clear hL2
            go_wp2_with (go_at_call 93; (refine (HLS2.out wr (Below.refl _ _)).mono ?_; rintro e w5 ⟨rfl, hb5⟩))
            have HP4 := Go.Lib.hid (HPK.out.below hb5)
            have HB4 := Go.Lib.hid (HBK.out.trans (Below.mono hb5 (Nat.le_trans (Nat.le_of_lt hH) HBK.out.size)))
            clear hb5 HPK HBK HLS2
            have hll := HL1.out
            obtain ⟨v3, h1, h2⟩ := HP4.out.row
            obtain ⟨g3, cap3, rfl, hbg, hg, hcl, hfr, hrr, hcap, hm⟩ := h2.slot (by omega)
            have hil : i < l'.length := by have := HK1.out; omega
            have hKl : k1 < l'.length := by omega
            have hiK : i < k1 := by have := HK1.out; have := HK2.out; omega
            obtain ⟨a1, a2⟩ := hcl k1 hKl
            obtain ⟨b1, b2⟩ := hcl i hil
            have hki : (k1 : Int) < (l'.length : Int) := by omega
            have hpi : (i : Int) < (l'.length : Int) := by omega
            have hk0 : (0 : Int) ≤ (k1 : Int) := Int.natCast_nonneg _
            have n1 : ¬ i = k1 := by omega
            have n2 : ¬ k1 = i := by omega
            have n3 : ¬ i * 2 + 1 = k1 * 2 := by omega
            have n4 : ¬ k1 * 2 = i * 2 + 1 := by omega
            have n5 : ¬ i * 2 = k1 * 2 + 1 := by omega
            have n6 : ¬ k1 * 2 + 1 = i * 2 := by omega
            have hgH : g3 ≠ H := by have := HP4.out.lt; omega
            have hH3 : H < w5.heap.size := World.block_lt_of_cell? w5 _ h1
            have f1 := hfr (k1 * 2)
            have f2 := hfr (k1 * 2 + 1)
            have f3 := hfr (i * 2)
            have f4 := hfr (i * 2 + 1)
            obtain ⟨⟨xn2, xc2⟩, hX⟩ : ∃ x, x = atS l' k1 := ⟨_, rfl⟩
            obtain ⟨⟨yn2, yc2⟩, hY⟩ : ∃ x, x = atS l' i := ⟨_, rfl⟩
            rw [← hX] at a1 a2
            rw [← hY] at b1 b2
            have HRR := Go.Lib.hid hrr
            clear hcl hfr hrr
            have HX := Go.Lib.hid hX
            have HY := Go.Lib.hid hY
            have H2 := Go.Lib.hid h2
            have HGL := Go.Lib.hid (show H ≤ g3 by have := HLT.out; omega)
            clear hX hY h2 hll
            go_region
            all_goals
              go_wp2_with fail
              go_roundw
              case rel =>
                refine ⟨k1, swapS l' i k1, f - 1, rfl, by have := HL1.out; omega, by rw [swap_len]; exact HL1.out, by have := HIF.out; omega, ?_, ?_, ?_⟩
                · have e := down_yes (f := f) (l := l') (i := i) (by have := HIF.out; omega) (by have := HK1.out; have := HL1.out; omega) (by rw [HKD.out]; exact HL2.out)
                  rw [HKD.out] at e
                  exact e.symm.trans HDN.out
                · exact (HpAt.swap h1 HP4.out.fz HLT.out hgH H2.out hil hKl HY.out HX.out HRR.out).below (Below.refl _ _).drew
                · exact ((((HB4.out.setCell (p := ⟨g3, i * 2, none⟩) HGL.out _).setCell (p := ⟨g3, i * 2 + 1, none⟩) HGL.out _).setCell (p := ⟨g3, k1 * 2, none⟩) HGL.out _).setCell (p := ⟨g3, k1 * 2 + 1, none⟩) HGL.out _).drew
              case measure => simp [intOf]; have := HL1.out; omega
end Go.Proofs.YtcbkimbeljhbhaaGreatDoor

namespace Go.Proofs.YtcbkimbeljhbhaaGreatDoor
open Go Go.RowKit Go.Deep

theorem HpAt.far {w : World} {H base : Nat} {l : List Spot} (h : HpAt w H base l) {p : Addr} (h1 : p.block ≠ H) (h2 : p.block < base) (u : Value) : HpAt (w.setCell p u) H base l := by
  obtain ⟨v, h3, h4⟩ := h.row
  exact ⟨⟨v, by rw [World.cell?_setCell_other _ _ _ _ (fun e => h1 (congrArg Addr.block e))]; exact h3, owS_set h4 h2 u⟩, fun i => by rw [World.frozen?_setCell]; exact h.fz i, h.lt⟩

structure DsAt (w : World) (N : Nat) (st : Ds) : Prop where
  c : Vec w N (gI st.cost)
  h : Vec w (N + 1) (fun i => (gN st.hops i : Nat))
  d : Bits w (N + 2) (gD st.done)
  p : HpAt w (N + 3) (N + 4) st.heap
theorem DsAt.below {w w' : World} {N : Nat} {st : Ds} (h : DsAt w N st) (hb : Below w.heap.size w w') : DsAt w' N st := ⟨h.c.below hb, h.h.below hb, h.d.below hb, h.p.below hb⟩
theorem DsAt.turn {w w' : World} {N : Nat} {st : Ds} {l : List Spot} (h : DsAt w N st) (hb : Below (N + 3) w w') (hp : HpAt w' (N + 3) (N + 4) l) : DsAt w' N { st with heap := l } :=
  ⟨h.c.keep (hb.block N (by omega)), h.h.keep (hb.block (N + 1) (by omega)), h.d.keep (hb.block (N + 2) (by omega)), hp⟩
theorem DsAt.setD {w : World} {N : Nat} {st : Ds} (h : DsAt w N st) {i : Nat} (hi : i < 12) (hl : st.done.length = 12) : DsAt (w.setCell ⟨N + 2, i, none⟩ (.bool true)) N { st with done := st.done.set i true } :=
  ⟨h.c.far (by show N + 2 ≠ N; omega) _, h.h.far (by show N + 2 ≠ N + 1; omega) _, h.d.set hi true (fun a _ => by
    show gD (st.done.set i true) a = _
    rw [gD_set _ _ _ _ (by omega)]
    by_cases e : a = i
    · rw [if_pos e, if_pos e.symm]
    · rw [if_neg e, if_neg (fun x => e x.symm)]), h.p.far (by show N + 2 ≠ N + 3; omega) (by show N + 2 < N + 4; omega) _⟩
theorem DsAt.setH {w : World} {N : Nat} {st : Ds} (h : DsAt w N st) {i : Nat} (hi : i < 12) (hl : st.hops.length = 12) (f : Nat) : DsAt (w.setCell ⟨N + 1, i, none⟩ (.int .i64 (f : Nat))) N { st with hops := st.hops.set i f } :=
  ⟨h.c.far (by show N + 1 ≠ N; omega) _, h.h.set hi _ (fun a _ => by
    show ((gN (st.hops.set i f) a : Nat) : Int) = _
    rw [gN_set _ _ _ _ (by omega)]
    by_cases e : a = i
    · rw [if_pos e, if_pos e.symm]
    · rw [if_neg e, if_neg (fun x => e x.symm)]), h.d.far (by show N + 1 ≠ N + 2; omega) _, h.p.far (by show N + 1 ≠ N + 3; omega) (by show N + 1 < N + 4; omega) _⟩
theorem DsAt.setC {w : World} {N : Nat} {st : Ds} (h : DsAt w N st) {i : Nat} (hi : i < 12) (hl : st.cost.length = 12) (x : Int) : DsAt (w.setCell ⟨N, i, none⟩ (.int .i64 x)) N { st with cost := st.cost.set i x } :=
  ⟨h.c.set hi _ (fun a _ => set_gI hl hi x), h.h.far (by show N ≠ N + 1; omega) _, h.d.far (by show N ≠ N + 2; omega) _, h.p.far (by show N ≠ N + 3; omega) (by show N < N + 4; omega) _⟩

/-- the least number of a kind -/
noncomputable def least (P : Nat → Prop) : Nat := Classical.epsilon fun m => P m ∧ ∀ n, P n → m ≤ n
theorem least_spec {P : Nat → Prop} {n : Nat} (h : P n) : P (least P) ∧ ∀ n, P n → least P ≤ n := by
  have hex : ∀ (k n : Nat), n < k → P n → ∃ m, P m ∧ ∀ n, P n → m ≤ n := by
    intro k
    induction k with
    | zero => intro n hn _; omega
    | succ k ih =>
      intro n hn hp
      by_cases hc : ∃ d, d < n ∧ P d
      · obtain ⟨d, hd, hpd⟩ := hc
        exact ih d (by omega) hpd
      · refine ⟨n, hp, fun d hd => ?_⟩
        rcases Nat.lt_or_ge d n with h1 | h1
        · exact absurd ⟨d, h1, hd⟩ hc
        · exact h1
  exact Classical.epsilon_spec (hex (n + 1) n (Nat.lt_succ_self n) h)

/-- ways laid in a row: those ahead of i are whole -/
structure Outs (w : World) (O base i : Nat) (f : Nat → Way) : Prop where
  row : ∀ j, j < i → ∃ v, w.cell? ⟨O, j * 2, none⟩ = some (.int .i64 (f j).cost) ∧ w.cell? ⟨O, j * 2 + 1, none⟩ = some v ∧ SlR intR w (fun k => O < k ∧ k < base) v (f j).hops ∧ inR (f j).cost
  there : ∀ o, o < 24 → ∃ u, w.cell? ⟨O, o, none⟩ = some u
  fz : ∀ o, w.frozen? ⟨O, o, none⟩ = false
  lt : O < base
theorem Outs.keep {w w' : World} {O base i : Nat} {f : Nat → Way} (h : Outs w O base i f) (hk : ∀ k, O ≤ k → k < base → w'.heap[k]? = w.heap[k]?) : Outs w' O base i f := by
  have hO := hk O (Nat.le_refl _) h.lt
  refine ⟨fun j hj => ?_, fun o ho => ?_, fun o => (World.frozen?_of_block (w := w) hO).trans (h.fz o), h.lt⟩
  · obtain ⟨v, h1, h2, h3, h4⟩ := h.row j hj
    exact ⟨v, (World.cell?_of_block (w := w) hO).trans h1, (World.cell?_of_block (w := w) hO).trans h2, SlR.keep h3 (fun k hq => hk k (by omega) hq.2) (fun _ hq => hq), h4⟩
  · obtain ⟨u, hu⟩ := h.there o ho
    exact ⟨u, (World.cell?_of_block (w := w) hO).trans hu⟩
theorem Outs.set {w : World} {O base i : Nat} {f : Nat → Way} (h : Outs w O base i f) {o : Nat} (ho : i * 2 ≤ o) (hl : o < 24) (u : Value) : Outs (w.setCell ⟨O, o, none⟩ u) O base i f := by
  refine ⟨fun j hj => ?_, fun p hp => ?_, fun p => by rw [World.frozen?_setCell]; exact h.fz p, h.lt⟩
  · obtain ⟨v, h1, h2, h3, h4⟩ := h.row j hj
    refine ⟨v, ?_, ?_, SlR.keep h3 (fun k hq => Below.heap_setCell _ _ _ _ (by show k ≠ O; omega)) (fun _ hq => hq), h4⟩
    · rw [World.cell?_setCell_other _ _ _ _ (by intro e; injection e with _ e _; omega)]; exact h1
    · rw [World.cell?_setCell_other _ _ _ _ (by intro e; injection e with _ e _; omega)]; exact h2
  · obtain ⟨x, hx⟩ := h.there p hp
    by_cases e : o = p
    · subst e
      exact ⟨u, World.cell?_setCell_same' w _ u (by rw [hx]; rfl)⟩
    · rw [World.cell?_setCell_other _ _ _ _ (by intro e2; injection e2 with _ e2 _; exact e e2)]; exact ⟨x, hx⟩
theorem Outs.step {w : World} {O base base' i : Nat} {f : Nat → Way} (h : Outs w O base i f) {v : Value} (h1 : w.cell? ⟨O, i * 2, none⟩ = some (.int .i64 (f i).cost)) (h2 : w.cell? ⟨O, i * 2 + 1, none⟩ = some v) (h3 : SlR intR w (fun k => O < k ∧ k < base') v (f i).hops) (h4 : inR (f i).cost) (hb : base ≤ base') : Outs w O base' (i + 1) f := by
  refine ⟨fun j hj => ?_, h.there, h.fz, by have := h.lt; omega⟩
  by_cases e : j = i
  · subst e; exact ⟨v, h1, h2, h3, h4⟩
  · obtain ⟨v, g1, g2, g3, g4⟩ := h.row j (by omega)
    exact ⟨v, g1, g2, SlR.keep g3 (fun _ _ => rfl) (fun k hq => ⟨hq.1, by omega⟩), g4⟩
theorem Outs.sl {w : World} {O base c : Nat} {f : Nat → Way} (h : Outs w O base 12 f) (hb : base ≤ w.heap.size) (hc : 12 ≤ c) (hm : c ≤ maxLen) : Sl wayR w (.slice (some ⟨O, 0, none⟩) 12 c) ((List.range 12).map f) := by
  refine ⟨some ⟨O, 0, none⟩, c, by simp, by simp; exact hc, hm, fun i x hx => ?_⟩
  have hi : i < 12 := by
    have := (List.getElem?_eq_some_iff.1 hx).1
    simpa using this
  have hx' : x = f i := by
    rw [List.getElem?_map, List.getElem?_range hi] at hx
    simpa using hx.symm
  subst hx'
  obtain ⟨v, h1, h2, h3, h4⟩ := h.row i hi
  refine ⟨O, 0, [.int .i64 (f i).cost, v], rfl, by have := h.lt; omega, by have := h.lt; omega, ⟨v, rfl, SlR.keep h3 (fun _ _ => rfl) (fun k hq => by omega), h4⟩, fun j u hu => ?_⟩
  match j, hu with
  | 0, hu => simp at hu; subst hu; rw [Nat.zero_add]; exact h1
  | 1, hu => simp at hu; subst hu; rw [Nat.zero_add]; exact h2
  | j + 2, hu => simp at hu
end Go.Proofs.YtcbkimbeljhbhaaGreatDoor
