/-
  The heap of spots, walked: less, push, pop.
-/
import Derived.Test.YtlmcipnogodnfaaDoorApp
import Derived.Test.YtlmcipnogodnfaaDoorOwn
import Derived.Test.YtlmcipnogodnfaaDoorWaB
import Derived.BigRegion
namespace Go.Proofs.YtlmcipnogodnfaaDoor
open Go Go.RowKit Go.Deep

def spotR : Rep Spot := flatR 2 (fun s => [.int .i64 s.node, .int .i64 s.cost]) (fun s => inR s.node ∧ inR s.cost) (fun _ => rfl) (fun x u h => by simp at h; rcases h with rfl | rfl <;> rfl)
theorem elt_spot : Elt Tryd.prog 105 110 2 16 := ⟨Tryd.underlying105, by
  have h : (Tryd.prog.info? 110).map (fun i => (i.zero, i.size, i.bytes)) = some (some (.agg #[.int .i64 0, .int .i64 0]), 2, 16) := by kernel_rfl
  obtain ⟨i, h1, h2, h3, h4⟩ := info_parts h
  exact ⟨i, _, h1, h2, h3, h4, rfl⟩, by decide⟩
theorem Sl.spot {w : World} {b off c n : Nat} {xs : List Spot} (h : Sl spotR w (.slice (some ⟨b, off, none⟩) n c) xs) {k : Nat} (hk : k < xs.length) :
    w.cell? ⟨b, off + k * 2, none⟩ = some (.int .i64 xs[k].node) ∧ w.cell? ⟨b, off + k * 2 + 1, none⟩ = some (.int .i64 xs[k].cost) ∧ inR xs[k].node ∧ inR xs[k].cost := by
  obtain ⟨cs, ⟨rfl, hw⟩, hc⟩ := h.cell hk
  exact ⟨hc 0 _ rfl, hc 1 _ rfl, hw.1, hw.2⟩
/-- a row of one's own that is not empty -/
theorem OwR.slot {base : Nat} {w : World} {v : Value} {l : List Spot} (h : OwR spotR 110 base w v l) (hl : 0 < l.length) :
    ∃ g cap, v = .slice (some ⟨g, 0, none⟩) l.length cap ∧ base ≤ g ∧ g < w.heap.size ∧ (∀ i, i < l.length → w.cell? ⟨g, i * 2, none⟩ = some (.int .i64 (atS l i).node) ∧ w.cell? ⟨g, i * 2 + 1, none⟩ = some (.int .i64 (atS l i).cost)) ∧ (∀ o, w.frozen? ⟨g, o, none⟩ = false) ∧ (∀ i, i < l.length → inR (atS l i).node ∧ inR (atS l i).cost) ∧ l.length ≤ cap ∧ cap ≤ maxLen := by
  have hsl := h.sl (by decide)
  obtain ⟨css, h1, h2, h3, h4⟩ := h
  have h3' := h3
  rcases h3.2 with ⟨h', h0⟩ | ⟨g, cap, cur, rfl, hb, hg, hnc, hcm, _⟩
  · omega
  · refine ⟨g, cap, rfl, hb, ?_, fun i hi => ?_, fun o => h3'.frozenAt o, fun i hi => ?_, hnc, hcm⟩
    · exact (Array.getElem?_eq_some_iff.1 hg).1
    · obtain ⟨f1, f2, _⟩ := hsl.spot hi
      rw [Nat.zero_add] at f1 f2
      rw [at_lt hi]; exact ⟨f1, f2⟩
    · obtain ⟨_, _, f3⟩ := hsl.spot hi
      rw [at_lt hi]; exact f3

/-- the heap in memory: a box with a row of its own -/
structure HpAt (w : World) (H base : Nat) (l : List Spot) : Prop where
  row : ∃ v, w.cell? ⟨H, 0, none⟩ = some v ∧ OwR spotR 110 base w v l
  fz : ∀ i, w.frozen? ⟨H, i, none⟩ = false
  lt : H < base
theorem HpAt.below {w w' : World} {H base : Nat} {l : List Spot} (h : HpAt w H base l) (hb : Below w.heap.size w w') : HpAt w' H base l := by
  obtain ⟨v, h1, h2⟩ := h.row
  have hl : H < w.heap.size := World.block_lt_of_cell? w ⟨H, 0, none⟩ h1
  have hk := hb.block H hl
  exact ⟨⟨v, (World.cell?_of_block (w := w) hk).trans h1, h2.keep hb⟩, fun i => (World.frozen?_of_block (w := w) hk).trans (h.fz i), h.lt⟩


set_option maxRecDepth 50000 in
set_option maxHeartbeats 4000000 in
theorem less_any (H base : Nat) (l : List Spot) (a b : Nat) (w : World) (h : HpAt w H base l) (ha : a < l.length) (hb : b < l.length) :
    Calls Tryd.prog 70 #[.pointer (some ⟨H, 0, none⟩), .int .i64 a, .int .i64 b] w fun e w' => e = .returned (.bool (lessS (atS l a) (atS l b))) ∧ Below w.heap.size w w' := by
  obtain ⟨v, h1, h2⟩ := h.row
  obtain ⟨g, cap, rfl, hbg, hg, hc, hf, hr, hcap, hm⟩ := h2.slot (by omega)
  have hll : l.length ≤ 9223372036854775807 := by unfold maxLen at hm; omega
  obtain ⟨a1, a2⟩ := hc a ha
  obtain ⟨b1, b2⟩ := hc b hb
  have ha0 : (0 : Int) ≤ (a : Int) := Int.natCast_nonneg a
  have hb0 : (0 : Int) ≤ (b : Int) := Int.natCast_nonneg b
  have hai : (a : Int) < (l.length : Int) := by omega
  have hbi : (b : Int) < (l.length : Int) := by omega
  have hH : H < w.heap.size := World.block_lt_of_cell? w ⟨H, 0, none⟩ h1
  clear hc hf hr h2 h
  obtain ⟨⟨an, ac⟩, hA⟩ : ∃ x, x = atS l a := ⟨_, rfl⟩
  obtain ⟨⟨bn, bc⟩, hB⟩ : ∃ x, x = atS l b := ⟨_, rfl⟩
  rw [← hA] at a1 a2
  rw [← hB] at b1 b2
  rw [← hA, ← hB]
  clear hA hB
  by_cases c1 : ac < bc
  · have d1 : decide (ac < bc) = true := decide_eq_true c1
    have HR := Go.Lib.hid (show lessS ⟨an, ac⟩ ⟨bn, bc⟩ = true by simp [lessS, c1])
    clear c1
    go_enter Tryd.func70, Tryd.ntmps70
    go_wp2_with fail
    go_region
    all_goals go_wp2_with fail
    all_goals
      go_ret
      refine ⟨eb HR.out.symm, ?_⟩
      exact (((Below.refl _ _).alloc (Nat.le_refl _) _).alloc (by simp) _).drew
  · have d1 : decide (ac < bc) = false := decide_eq_false c1
    by_cases c2 : ac = bc
    · have d2 : (ac == bc) = true := by rw [beq_iff_eq]; exact c2
      have HR := Go.Lib.hid (show lessS ⟨an, ac⟩ ⟨bn, bc⟩ = decide (an < bn) by simp [lessS, c1, c2])
      clear c1 c2
      go_enter Tryd.func70, Tryd.ntmps70
      go_wp2_with fail
      go_region
      all_goals go_wp2_with fail
      all_goals
        go_ret
        refine ⟨eb HR.out.symm, ?_⟩
        exact (((Below.refl _ _).alloc (Nat.le_refl _) _).alloc (by simp) _).drew
    · have d2 : (ac == bc) = false := by rw [beq_eq_false_iff_ne]; exact c2
      have HR := Go.Lib.hid (show lessS ⟨an, ac⟩ ⟨bn, bc⟩ = false by simp [lessS, c1, c2])
      clear c1 c2
      go_enter Tryd.func70, Tryd.ntmps70
      go_wp2_with fail
      go_region
      all_goals go_wp2_with fail
      all_goals
        go_ret
        refine ⟨eb HR.out.symm, ?_⟩
        exact (((Below.refl _ _).alloc (Nat.le_refl _) _).alloc (by simp) _).drew

theorem flat_set {α : Type} : ∀ {css : List (List α)} {i : Nat} {a b : α}, (∀ cs ∈ css, cs.length = 2) → i < css.length → (css.set i [a, b]).flatten = (css.flatten.set (i * 2) a).set (i * 2 + 1) b
  | [], i, _, _, _, h => by simp at h
  | c0 :: css, 0, a, b, hl, _ => by
    have h0 := hl c0 (by simp)
    match c0, h0 with
    | [x, y], _ => simp
  | c0 :: css, i + 1, a, b, hl, h => by
    have h0 := hl c0 (by simp)
    have ih := flat_set (css := css) (i := i) (a := a) (b := b) (fun cs hc => hl cs (by simp [hc])) (by simpa using h)
    match c0, h0 with
    | [x, y], _ =>
      rw [List.set_cons_succ, List.flatten_cons, ih, List.flatten_cons]
      rw [show (i + 1) * 2 = i * 2 + 1 + 1 by omega, show i * 2 + 1 + 1 + 1 = (i * 2 + 1) + 1 + 1 by omega]
      simp
theorem OwR.set2 {base : Nat} {w : World} {g n cap : Nat} {l : List Spot} (h : OwR spotR 110 base w (.slice (some ⟨g, 0, none⟩) n cap) l) {i : Nat} (hi : i < l.length) (s : Spot) (hs : inR s.node ∧ inR s.cost) :
    OwR spotR 110 base ((w.setCell ⟨g, i * 2, none⟩ (.int .i64 s.node)).setCell ⟨g, i * 2 + 1, none⟩ (.int .i64 s.cost)) (.slice (some ⟨g, 0, none⟩) n cap) (l.set i s) := by
  obtain ⟨css, h1, h2, h3, h4⟩ := h
  have hn : n = l.length := by
    rcases h3.2 with ⟨h', _⟩ | ⟨g', cap', cur, h', _⟩
    · cases h'
    · injection h'
  subst hn
  have hlens : ∀ cs ∈ css, cs.length = 2 := by
    intro cs hc
    obtain ⟨k, hk, rfl⟩ := List.getElem_of_mem hc
    obtain ⟨e, _⟩ := h2 k _ _ (List.getElem?_eq_getElem hk) (List.getElem?_eq_getElem (by omega))
    rw [e]; rfl
  refine ⟨css.set i [.int .i64 s.node, .int .i64 s.cost], by simp [h1], fun k cs x hk hx => ?_, ?_, by simp [World.setCell]; exact h4⟩
  · rw [List.getElem?_set] at hk hx
    by_cases e : i = k
    · subst e
      rw [if_pos rfl, if_pos (by omega)] at hk
      rw [if_pos rfl, if_pos hi] at hx
      injection hk with hk; injection hx with hx
      subst hk; subst hx
      exact ⟨rfl, hs⟩
    · rw [if_neg e] at hk hx
      exact h2 k cs x hk hx
  · rw [flat_set hlens (by omega), List.length_set]
    exact ((h3.stored (i * 2) _).1.stored (i * 2 + 1) _).1
theorem OwR.cut {base : Nat} {w : World} {g n cap : Nat} {l : List Spot} (h : OwR spotR 110 base w (.slice (some ⟨g, 0, none⟩) n cap) l) {k : Nat} (hk : k ≤ l.length) :
    OwR spotR 110 base w (.slice (some ⟨g, 0, none⟩) k cap) (l.take k) := by
  obtain ⟨css, h1, h2, h3, h4⟩ := h
  have hlens : ∀ cs ∈ css, cs.length = 2 := by
    intro cs hc
    obtain ⟨k, hk, rfl⟩ := List.getElem_of_mem hc
    obtain ⟨e, _⟩ := h2 k _ _ (List.getElem?_eq_getElem hk) (List.getElem?_eq_getElem (by omega))
    rw [e]; rfl
  have hfl : ∀ {css : List (List Value)} {k : Nat}, (∀ cs ∈ css, cs.length = 2) → (css.take k).flatten = css.flatten.take (k * 2) := by
    intro css
    induction css with
    | nil => intro k _; simp
    | cons c0 css ih =>
      intro k hl
      have h0 := hl c0 (by simp)
      cases k with
      | zero => simp
      | succ k =>
        match c0, h0 with
        | [x, y], _ =>
          rw [List.take_succ_cons, List.flatten_cons, ih (fun cs hc => hl cs (by simp [hc])), List.flatten_cons, show (k + 1) * 2 = k * 2 + 1 + 1 by omega]
          simp
  refine ⟨css.take k, by rw [List.length_take, List.length_take, h1], fun j cs x hj hx => ?_, ?_, h4⟩
  · rw [List.getElem?_take] at hj hx
    by_cases e : j < k
    · rw [if_pos e] at hj hx
      exact h2 j cs x hj hx
    · rw [if_neg e] at hj; cases hj
  · rw [hfl hlens]
    have hlk : (l.take k).length = k := by rw [List.length_take]; omega
    rw [hlk]
    refine ⟨by rw [List.length_take, h3.1]; show min (k * 2) (l.length * 2) = k * 2; omega, ?_⟩
    rcases h3.2 with ⟨h', _⟩ | ⟨g', cap', cur, h', hb, hg, hnc, hcm, hcs, htake⟩
    · cases h'
    · injection h' with e1 e2 e3
      subst e3
      refine .inr ⟨g', cap, cur, by rw [e1], hb, hg, by omega, hcm, hcs, ?_⟩
      rw [← htake, List.take_take]
      congr 1
      show k * 2 = min (k * 2) (l.length * 2)
      omega
theorem inR_at {base : Nat} {w : World} {v : Value} {l : List Spot} (h : OwR spotR 110 base w v l) (hl : 0 < l.length) : ∀ i, i < l.length → inR (atS l i).node ∧ inR (atS l i).cost := by
  obtain ⟨_, _, _, _, _, _, _, h6, _⟩ := h.slot hl
  exact h6
end Go.Proofs.YtlmcipnogodnfaaDoor
