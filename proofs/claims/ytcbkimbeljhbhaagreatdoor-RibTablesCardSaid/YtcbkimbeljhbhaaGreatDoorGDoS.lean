/-
  The ways out of a graph, walked.
-/
import Derived.Test.YtcbkimbeljhbhaaGreatDoorGDoR
import Derived.Test.YtcbkimbeljhbhaaGreatDoorGWaG
import Derived.Test.YtcbkimbeljhbhaaGreatDoorGDoN
import Derived.Deep.MidRow
set_option linter.unusedVariables false
set_option linter.unusedSimpArgs false
namespace Go.Proofs.YtcbkimbeljhbhaaGreatDoor
open Go Go.RowKit Go.Deep

theorem gI_set_rep {k : Nat} (hk : k < 12) (a : Nat) : (if a < k + 1 then (1048577 : Int) else 0) = if a = k then 1048577 else if a < k then 1048577 else 0 := by
  by_cases e : a = k
  · rw [if_pos e, if_pos (by omega)]
  · rw [if_neg e]
    by_cases e2 : a < k
    · rw [if_pos e2, if_pos (by omega)]
    · rw [if_neg e2, if_neg (by omega)]

structure WIn (w : World) (N G : Nat) (g : Gph) (C : Nat → Nat → Nat) : Prop where
  gr : Gr w G g
  lt : G < N
  sz : N = w.heap.size
  c : ∀ a b, a < 12 → b < 12 → g.C a b = (C a b : Nat)
  le : ∀ a b, C a b ≤ 1000

theorem vec_zeroT (w : World) (T : TypeId) (B : Nat) (hB : B = w.heap.size) : Vec (w.alloc (.cells #[.int .i64 0, .int .i64 0, .int .i64 0, .int .i64 0, .int .i64 0, .int .i64 0, .int .i64 0, .int .i64 0, .int .i64 0, .int .i64 0, .int .i64 0, .int .i64 0] T)) B (fun _ => 0) := by
  refine ⟨fun i hi => ?_, fun o => World.frozen?_alloc_at _ _ _ _ hB, by simp [hB]⟩
  rw [World.cell?_alloc_at _ _ _ _ hB]
  match i, hi with
  | 0, _ | 1, _ | 2, _ | 3, _ | 4, _ | 5, _ | 6, _ | 7, _ | 8, _ | 9, _ | 10, _ | 11, _ => rfl
  | n + 12, h => omega
def st0 (s : Nat) : Ds := ⟨(List.replicate 12 1048577).set s 0, List.replicate 12 0, List.replicate 12 false, []⟩
theorem ds_start {wr : World} {N s : Nat} (hs : s < 12) (hv : Vec wr N (fun a => if a < 12 then 1048577 else 0)) (hz : wr.heap.size = N + 1) (T1 T2 T3 : TypeId) :
    DsAt ((((wr.setCell ⟨N, s, none⟩ (.int .i64 0)).alloc (.cells #[.int .i64 0, .int .i64 0, .int .i64 0, .int .i64 0, .int .i64 0, .int .i64 0, .int .i64 0, .int .i64 0, .int .i64 0, .int .i64 0, .int .i64 0, .int .i64 0] T1)).alloc (.cells #[.bool false, .bool false, .bool false, .bool false, .bool false, .bool false, .bool false, .bool false, .bool false, .bool false, .bool false, .bool false] T2)).alloc (.cells #[.slice none 0 0] T3)) N (st0 s)
    ∧ Below N wr ((((wr.setCell ⟨N, s, none⟩ (.int .i64 0)).alloc (.cells #[.int .i64 0, .int .i64 0, .int .i64 0, .int .i64 0, .int .i64 0, .int .i64 0, .int .i64 0, .int .i64 0, .int .i64 0, .int .i64 0, .int .i64 0, .int .i64 0] T1)).alloc (.cells #[.bool false, .bool false, .bool false, .bool false, .bool false, .bool false, .bool false, .bool false, .bool false, .bool false, .bool false, .bool false] T2)).alloc (.cells #[.slice none 0 0] T3)) := by
  have v0 := hv.set (m' := gI ((List.replicate 12 (1048577 : Int)).set s 0)) hs 0 (fun a ha => by
    rw [gI_ini hs ha]
    by_cases e : a = s
    · rw [if_pos e, if_pos e.symm]
    · rw [if_neg e, if_neg (fun x => e x.symm), if_pos ha])
  have b0 : Below N wr (wr.setCell ⟨N, s, none⟩ (.int .i64 0)) := (Below.refl N wr).setCell (p := ⟨N, s, none⟩) (Nat.le_refl _) _
  have z0 : (wr.setCell ⟨N, s, none⟩ (.int .i64 0)).heap.size = N + 1 := by simp [World.setCell]; exact hz
  generalize wr.setCell ⟨N, s, none⟩ (.int .i64 0) = w0 at *
  have v1 := vec_zeroT w0 T1 (N + 1) z0.symm
  have k1 := (Below.refl w0.heap.size w0).alloc (Nat.le_refl _) (.cells #[.int .i64 0, .int .i64 0, .int .i64 0, .int .i64 0, .int .i64 0, .int .i64 0, .int .i64 0, .int .i64 0, .int .i64 0, .int .i64 0, .int .i64 0, .int .i64 0] T1)
  have z1 : (w0.alloc (.cells #[.int .i64 0, .int .i64 0, .int .i64 0, .int .i64 0, .int .i64 0, .int .i64 0, .int .i64 0, .int .i64 0, .int .i64 0, .int .i64 0, .int .i64 0, .int .i64 0] T1)).heap.size = N + 2 := by simp [z0]
  have v0' := v0.below k1
  have b1 := b0.trans (k1.mono (by omega))
  generalize w0.alloc (.cells #[.int .i64 0, .int .i64 0, .int .i64 0, .int .i64 0, .int .i64 0, .int .i64 0, .int .i64 0, .int .i64 0, .int .i64 0, .int .i64 0, .int .i64 0, .int .i64 0] T1) = w1 at *
  have v2 := bits_zero w1 T2 (N + 2) z1.symm
  have k2 := (Below.refl w1.heap.size w1).alloc (Nat.le_refl _) (.cells #[.bool false, .bool false, .bool false, .bool false, .bool false, .bool false, .bool false, .bool false, .bool false, .bool false, .bool false, .bool false] T2)
  have z2 : (w1.alloc (.cells #[.bool false, .bool false, .bool false, .bool false, .bool false, .bool false, .bool false, .bool false, .bool false, .bool false, .bool false, .bool false] T2)).heap.size = N + 3 := by simp [z1]
  have v0'' := v0'.below k2
  have v1' := v1.below k2
  have b2 := b1.trans (k2.mono (by omega))
  generalize w1.alloc (.cells #[.bool false, .bool false, .bool false, .bool false, .bool false, .bool false, .bool false, .bool false, .bool false, .bool false, .bool false, .bool false] T2) = w2 at *
  have k3 := (Below.refl w2.heap.size w2).alloc (Nat.le_refl _) (.cells #[.slice none 0 0] T3)
  refine ⟨⟨v0''.below k3, (v1'.below k3).eq (fun a _ => ?_), (v2.below k3).eq (fun a _ => gD_rep a), ⟨⟨.slice none 0 0, ?_, OwR.nil _ _ (by simp [z2])⟩, fun i => World.frozen?_alloc_at _ _ _ _ z2.symm, by omega⟩⟩, b2.trans (k3.mono (by omega))⟩
  · show ((gN (List.replicate 12 0) a : Nat) : Int) = 0
    rw [gN_rep]; rfl
  · rw [World.cell?_alloc_at _ _ _ _ z2.symm]; rfl
structure StepIn (w wr : World) (N s : Nat) (C : Nat → Nat → Nat) (D : Nat → Bool) (st : Ds) : Prop where
  at_ : DsAt wr N st
  bel : Below N w wr
  mu : mu st ≤ 157
  inv : ∃ R, Inv C D s R st ∧ Cov C D s 0 12 R st
theorem cd_rep : cd (ini 0) = 0 := by decide
theorem mu_ini (s : Nat) : mu (ini s) = 157 := by
  have h1 : cd (ini s) = cd (ini 0) := rfl
  have h2 : (ini s).heap.length = 1 := by unfold ini; simp only; rw [push_len]; rfl
  unfold mu
  rw [h1, cd_rep, h2]

theorem least_dec {P Q : Nat → Prop} {m n : Nat} (hq : Q m) (hn : n = least P) (h : m < n) : least Q < least P := by
  rw [← hn]; exact Nat.lt_of_le_of_lt ((least_spec hq).2 m hq) h
theorem row_idx (vs : Array Value) (f : Nat → Int) (h : ∀ k, k < 12 → vs[k]? = some (.int .i64 (f k))) {k : Nat} (hk : k < 12) (w : World) :
    (Instr.index 38 (.agg vs) (.int .i64 (k : Int))).run Tryz.prog w = .ok (.int .i64 (f k)) w := by
  have hv := h k hk
  have z3 := Tryz.sizeOf3
  have a3 := Tryz.isAgg3
  have h0 : (0 : Int) ≤ (k : Int) ∧ (k : Int) < ((12 : Nat) : Int) := by omega
  simp [Instr.index, run_underlying Tryz.underlying38, asIntOf, part, h0, hv, go_sem]
  intro h; omega
theorem row_load {w : World} {G : Nat} {g : Gph} (h : Gr w G g) {n : Nat} (hn : n < 12) : ∃ vs : List Value, (∀ k, k < 12 → vs.toArray[k]? = some (.int .i64 (g.C n k))) ∧
    (∀ w' : World, w'.heap[G]? = w.heap[G]? → w'.rangeAt G (n * 12) vs) ∧ (Tryz.prog.info? 38).map (·.size) = some vs.length := by
  refine ⟨((List.range 12).map fun k => Value.int .i64 (g.C n k)), fun k hk => ?_, fun w' hw => ?_, by kernel_rfl⟩
  · rw [List.getElem?_toArray, List.getElem?_map, List.getElem?_range hk]; rfl
  · intro j v hv
    have hj : j < 12 := by
      have := (List.getElem?_eq_some_iff.1 hv).1
      simpa using this
    rw [List.getElem?_map, List.getElem?_range hj] at hv
    injection hv with hv
    subst hv
    exact (World.cell?_of_block (w := w) hw).trans (h.cost n j hn hj)
theorem stepD_done {C : Nat → Nat → Nat} {D : Nat → Bool} {s : Nat} {st : Ds} (h : gD st.done (topN st) = true) : stepD C D s st = { st with heap := popS st.heap } := by
  unfold stepD; rw [if_pos h]
theorem stepD_dr {C : Nat → Nat → Nat} {D : Nat → Bool} {s : Nat} {st : Ds} (h : gD st.done (topN st) = false) (h1 : topN st ≠ s) (h2 : D (topN st) = true) : stepD C D s st = { st with heap := popS st.heap, done := st.done.set (topN st) true } := by
  unfold stepD; rw [if_neg (by rw [h]; simp), if_pos ⟨h1, h2⟩]
theorem stepD_go {C : Nat → Nat → Nat} {D : Nat → Bool} {s : Nat} {st : Ds} (h : gD st.done (topN st) = false) (h1 : topN st = s ∨ D (topN st) = false) : stepD C D s st = edgesTo C s (topN st) { st with heap := popS st.heap, done := st.done.set (topN st) true } 12 := by
  unfold stepD; rw [if_neg (by rw [h]; simp), if_neg]
  rintro ⟨h2, h3⟩
  rcases h1 with h1 | h1
  · exact h2 h1
  · rw [h1] at h3; cases h3
theorem step_fin {w w' : World} {N s : Nat} {C : Nat → Nat → Nat} {D : Nat → Bool} {st : Ds} (h : DsAt w' N (stepD C D s st)) (hb : Below N w w') (hm : mu st ≤ 157) (hl : mu (stepD C D s st) < mu st) (hi : ∃ R', Inv C D s R' (stepD C D s st) ∧ Cov C D s 0 12 R' (stepD C D s st)) : StepIn w w' N s C D (stepD C D s st) :=
  ⟨h, hb, by omega, hi⟩
theorem make24 (w : World) : (Instr.makeSlice 32 (.int .i64 12) (.int .i64 12)).run Tryz.prog w = .ok (.slice (some ⟨w.heap.size, 0, none⟩) 12 12) (w.alloc (.cells #[.int .i64 0, .slice none 0 0, .int .i64 0, .slice none 0 0, .int .i64 0, .slice none 0 0, .int .i64 0, .slice none 0 0, .int .i64 0, .slice none 0 0, .int .i64 0, .slice none 0 0, .int .i64 0, .slice none 0 0, .int .i64 0, .slice none 0 0, .int .i64 0, .slice none 0 0, .int .i64 0, .slice none 0 0, .int .i64 0, .slice none 0 0, .int .i64 0, .slice none 0 0] 37)) := by kernel_rfl
theorem outs_ini (w : World) (T : TypeId) (B : Nat) (hB : B = w.heap.size) (f : Nat → Way) : Outs (w.alloc (.cells #[.int .i64 0, .slice none 0 0, .int .i64 0, .slice none 0 0, .int .i64 0, .slice none 0 0, .int .i64 0, .slice none 0 0, .int .i64 0, .slice none 0 0, .int .i64 0, .slice none 0 0, .int .i64 0, .slice none 0 0, .int .i64 0, .slice none 0 0, .int .i64 0, .slice none 0 0, .int .i64 0, .slice none 0 0, .int .i64 0, .slice none 0 0, .int .i64 0, .slice none 0 0] T)) B (B + 1) 0 f := by
  refine ⟨fun j hj => absurd hj (Nat.not_lt_zero j), fun o ho => ?_, fun o => World.frozen?_alloc_at _ _ _ _ hB, Nat.lt_succ_self B⟩
  rw [World.cell?_alloc_at _ _ _ _ hB]
  match o, ho with
  | 0, _ | 1, _ | 2, _ | 3, _ | 4, _ | 5, _ | 6, _ | 7, _ | 8, _ | 9, _ | 10, _ | 11, _ | 12, _ | 13, _ | 14, _ | 15, _ | 16, _ | 17, _ | 18, _ | 19, _ | 20, _ | 21, _ | 22, _ | 23, _ => exact ⟨_, rfl⟩
  | n + 24, h => omega
theorem Outs.wide {w : World} {O base base' i : Nat} {f : Nat → Way} (h : Outs w O base i f) (hb : base ≤ base') : Outs w O base' i f :=
  ⟨fun j hj => by obtain ⟨v, h1, h2, h3, h4⟩ := h.row j hj; exact ⟨v, h1, h2, SlR.keep h3 (fun _ _ => rfl) (fun k hq => ⟨hq.1, by omega⟩), h4⟩, h.there, h.fz, by have := h.lt; omega⟩

/-- within a row of the ways: the row's cost and its hops so far -/
structure RowAt (w0 w : World) (O base k : Nat) (st : Ds) (j : Nat) (v : Value) : Prop where
  c0 : w.cell? ⟨O, k * 2, none⟩ = some (.int .i64 (costW st k))
  c1 : w.cell? ⟨O, k * 2 + 1, none⟩ = some v
  ho : OwR intR 3 base w v (bitsTo (gN st.hops k) j)
  outs : Outs w O base k (outW st)
  bel : Below O w0 w
theorem RowAt.step {w0 w w4 : World} {O base k j : Nat} {st : Ds} {v v2 : Value} {ob : Obj} (h : RowAt w0 w O base k st j v) (hk : k < 12) (hg : GrowTo (w.alloc ob) v w4 v2) :
    w4.cell? ⟨O, k * 2, none⟩ = some (.int .i64 (costW st k)) ∧ w4.cell? ⟨O, k * 2 + 1, none⟩ = some v ∧ (∀ i, w4.frozen? ⟨O, i, none⟩ = false) ∧ Outs w4 O base k (outW st) ∧ Below O w0 w4 := by
  have hsz : base ≤ w.heap.size := h.ho.choose_spec.2.2.2
  have hO : O < base := h.outs.lt
  have hkeep : ∀ q, q < base → w4.heap[q]? = w.heap[q]? := by
    intro q hq
    rw [hg.grown.block q (by simp; omega) (fun e => by have := (h.ho.base_le q e.symm).1; omega)]
    exact Below.heap_alloc _ _ _ (by omega)
  have hs := hkeep O hO
  refine ⟨(World.cell?_of_block (w := w) hs).trans h.c0, (World.cell?_of_block (w := w) hs).trans h.c1, fun i => (World.frozen?_of_block (w := w) hs).trans (h.outs.fz i), h.outs.keep (fun q h1 h2 => hkeep q h2), ?_⟩
  have hb := h.bel.alloc (show O ≤ w.heap.size by omega) ob
  exact hb.grown hg.grown (by simp; omega) (fun q e => by have := (h.ho.base_le q e).1; omega)
theorem RowAt.next {w0 w4 : World} {O base k j : Nat} {st : Ds} {u : Value} (hk : k < 12) {A : Option Addr} {n c : Nat} (h0 : w4.cell? ⟨O, k * 2, none⟩ = some (.int .i64 (costW st k))) (h1 : w4.cell? ⟨O, k * 2 + 1, none⟩ = some u) (ho : OwR intR 3 base w4 (.slice A n c) (bitsTo (gN st.hops k) j)) (hu : Outs w4 O base k (outW st)) (hb : Below O w0 w4) :
    RowAt w0 (w4.setCell ⟨O, k * 2 + 1, none⟩ (.slice A n c)) O base k st j (.slice A n c) :=
  ⟨by rw [World.cell?_setCell_other _ _ _ _ (by intro e; injection e with _ e _; omega)]; exact h0,
   World.cell?_setCell_same' w4 _ _ (by rw [h1]; rfl),
   ow_set ho (p := ⟨O, k * 2 + 1, none⟩) (by have := hu.lt; exact this) _ (fun _ _ h => h), hu.set (by omega) (by omega) _, hb.setCell (p := ⟨O, k * 2 + 1, none⟩) (Nat.le_refl O) _⟩
theorem RowAt.done {w0 w : World} {O base k : Nat} {st : Ds} {v : Value} (h : RowAt w0 w O base k st 12 v) (hr : inR (costW st k)) : Outs w O w.heap.size (k + 1) (outW st) := by
  have hsz : base ≤ w.heap.size := h.ho.choose_spec.2.2.2
  refine h.outs.step h.c0 h.c1 (SlR.keep h.ho.slF (fun _ _ => rfl) (fun q hq => ⟨by have := h.outs.lt; omega, hq.1⟩)) hr hsz
theorem Outs.setLo {w : World} {O i : Nat} {f : Nat → Way} (h : Outs w O w.heap.size i f) (hi : i < 12) (u : Value) : Outs (w.setCell ⟨O, i * 2, none⟩ u) O (w.setCell ⟨O, i * 2, none⟩ u).heap.size i f ∧ (w.setCell ⟨O, i * 2, none⟩ u).cell? ⟨O, i * 2, none⟩ = some u :=
  ⟨(h.set (by omega) (by omega) u).wide (by simp [World.setCell]), by obtain ⟨x, hx⟩ := h.there (i * 2) (by omega); exact World.cell?_setCell_same' w _ u (by rw [hx]; rfl)⟩
theorem Outs.setHi {w : World} {O i : Nat} {f : Nat → Way} (h : Outs w O w.heap.size i f) (hi : i < 12) (u : Value) : Outs (w.setCell ⟨O, i * 2 + 1, none⟩ u) O (w.setCell ⟨O, i * 2 + 1, none⟩ u).heap.size i f ∧ (w.setCell ⟨O, i * 2 + 1, none⟩ u).cell? ⟨O, i * 2 + 1, none⟩ = some u :=
  ⟨(h.set (by omega) (by omega) u).wide (by simp [World.setCell]), by obtain ⟨x, hx⟩ := h.there (i * 2 + 1) (by omega); exact World.cell?_setCell_same' w _ u (by rw [hx]; rfl)⟩
theorem row_no {w0 w : World} {O k : Nat} {st : Ds} (h : Outs w O w.heap.size k (outW st)) (hk : k < 12) (hb : Below O w0 w) (hc : costW st k = -1) :
    ∃ base, RowAt w0 ((w.setCell ⟨O, k * 2, none⟩ (.int .i64 (-1))).setCell ⟨O, k * 2 + 1, none⟩ (.slice none 0 0)) O base k st 0 (.slice none 0 0) := by
  obtain ⟨h1, c1⟩ := h.setLo hk (.int .i64 (-1))
  have b1 := hb.setCell (p := ⟨O, k * 2, none⟩) (Nat.le_refl O) (.int .i64 (-1))
  generalize w.setCell ⟨O, k * 2, none⟩ (.int .i64 (-1)) = w1 at *
  obtain ⟨h2, c2⟩ := h1.setHi hk (.slice none 0 0)
  have b2 := b1.setCell (p := ⟨O, k * 2 + 1, none⟩) (Nat.le_refl O) (.slice none 0 0)
  refine ⟨_, ?_, c2, OwR.nil _ _ (Nat.le_refl _), h2, b2⟩
  rw [World.cell?_setCell_other _ _ _ _ (by intro e; injection e with _ e _; omega), hc]; exact c1
theorem row_yes {w0 w : World} {O k : Nat} {st : Ds} (h : Outs w O w.heap.size k (outW st)) (hk : k < 12) (hb : Below O w0 w) {x : Int} (hc : costW st k = x) :
    ∃ base, RowAt w0 (((w.setCell ⟨O, k * 2, none⟩ (.int .i64 (-1))).setCell ⟨O, k * 2 + 1, none⟩ (.slice none 0 0)).setCell ⟨O, k * 2, none⟩ (.int .i64 x)) O base k st 0 (.slice none 0 0) := by
  obtain ⟨h1, _⟩ := h.setLo hk (.int .i64 (-1))
  have b1 := hb.setCell (p := ⟨O, k * 2, none⟩) (Nat.le_refl O) (.int .i64 (-1))
  generalize w.setCell ⟨O, k * 2, none⟩ (.int .i64 (-1)) = w1 at *
  obtain ⟨h2, c2⟩ := h1.setHi hk (.slice none 0 0)
  have b2 := b1.setCell (p := ⟨O, k * 2 + 1, none⟩) (Nat.le_refl O) (.slice none 0 0)
  generalize w1.setCell ⟨O, k * 2 + 1, none⟩ (.slice none 0 0) = w2 at *
  obtain ⟨h3, c3⟩ := h2.setLo hk (.int .i64 x)
  have b3 := b2.setCell (p := ⟨O, k * 2, none⟩) (Nat.le_refl O) (.int .i64 x)
  refine ⟨_, ?_, ?_, OwR.nil _ _ (Nat.le_refl _), h3, b3⟩
  · rw [hc]; exact c3
  · rw [World.cell?_setCell_other _ _ _ _ (by intro e; injection e with _ e _; omega)]; exact c2
theorem costW_in (st : Ds) (k : Nat) (h0 : 0 ≤ gI st.cost k) : inR (costW st k) := by unfold costW inR; split <;> omega
set_option maxRecDepth 50000 in
set_option maxHeartbeats 4000000 in
theorem gways_any (N G : Nat) (g : Gph) (C : Nat → Nat → Nat) (s : Nat) (w : World) (h : WIn w N G g C) (hs : s < 12) :
    Calls Tryz.prog 25 #[.pointer (some ⟨G, 0, none⟩), .int .i64 s] w fun e w' => ∃ v st R, e = .returned v ∧ Sl wayR w' v ((List.range 12).map (outW st)) ∧ Below N w w' ∧ Inv C g.D s R st ∧ Cov C g.D s 0 12 R st ∧ st.heap = [] := by
  have hmk := fun w => make12 w
  have HG := Go.Lib.hid h
  have hNS : N = w.heap.size := h.sz
  clear h
  go_enter Tryz.func25, Tryz.ntmps25
  go_wp2_with fail
  rw [← hNS]
  have HV0 := Go.Lib.hid (vec_zero w N hNS)
  have HB0 := Go.Lib.hid ((Below.refl N w).alloc (Nat.le_of_eq hNS) (.cells #[.int .i64 0, .int .i64 0, .int .i64 0, .int .i64 0, .int .i64 0, .int .i64 0, .int .i64 0, .int .i64 0, .int .i64 0, .int .i64 0, .int .i64 0, .int .i64 0] 3))
  have HZ0 := Go.Lib.hid (show (w.alloc (.cells #[.int .i64 0, .int .i64 0, .int .i64 0, .int .i64 0, .int .i64 0, .int .i64 0, .int .i64 0, .int .i64 0, .int .i64 0, .int .i64 0, .int .i64 0, .int .i64 0] 3)).heap.size = N + 1 by simp [hNS])
  have HNS := Go.Lib.hid hNS
  clear hNS hmk
  obtain ⟨W, hW⟩ : ∃ x, x = w.alloc (.cells #[.int .i64 0, .int .i64 0, .int .i64 0, .int .i64 0, .int .i64 0, .int .i64 0, .int .i64 0, .int .i64 0, .int .i64 0, .int .i64 0, .int .i64 0, .int .i64 0] 3) := ⟨_, rfl⟩
  rw [← hW] at HV0 HB0 HZ0
  rw [← hW]
  clear hW
  go_loopw [20] (fun i wr => ∃ k : Nat, k ≤ 12 ∧ i = .int .i64 k ∧ Vec wr N (fun a => if a < k then 1048577 else 0) ∧ Below N w wr ∧ wr.heap.size = N + 1) (fun i _ => 12 - (intOf i).toNat)
  case atStart => exact ⟨0, Nat.zero_le _, rfl, HV0.out.eq (fun a _ => if_neg (Nat.not_lt_zero a)), HB0.out, HZ0.out⟩
  case round =>
    clear HV0 HB0 HZ0
    obtain ⟨k, hk, rfl, hv, hb, hz⟩ := hrel
    have HV := Go.Lib.hid hv
    have HB := Go.Lib.hid hb
    have HZ := Go.Lib.hid hz
    clear hv hb hz
    by_cases hlt : k < 12
    · have hki : (k : Int) < 12 := by omega
      have c1 := HV.out.cell k hlt
      have c2 := HV.out.fz k
      go_wp2_with fail
      go_roundw
      case rel => exact ⟨k + 1, by omega, by go_num, HV.out.set hlt _ (fun a _ => gI_set_rep hlt a), HB.out.setCell (p := ⟨N, k, none⟩) (Nat.le_refl _) _, by simp [World.setCell]; exact HZ.out⟩
      case measure => simp [intOf]; omega
    · have hki : ¬ (k : Int) < 12 := by omega
      obtain rfl : k = 12 := by omega
      have c1 := HV.out.cell s hs
      have c2 := HV.out.fz s
      have hsi : (s : Int) < 12 := by omega
      have hs0 : (0 : Int) ≤ (s : Int) := Int.natCast_nonneg s
      have HST := Go.Lib.hid (ds_start hs HV.out HZ.out 38 40 124)
      have HPU := Go.Lib.hid (push_any (N + 3) (N + 4) [] s 0 _ HST.out.1.p (by unfold inR; omega) (by unfold inR; omega) (Nat.zero_le _))
      go_wp2_with fail
      rw [HZ.out, show N + 1 + 1 + 1 = N + 3 from rfl, show N + 1 + 1 = N + 2 from rfl]
      clear c1 c2
      refine HPU.out.mono ?_
      rintro e w3 ⟨rfl, hp3, hb3⟩
      have HD3 := Go.Lib.hid (show DsAt w3 N (ini s) from HST.out.1.turn hb3 hp3)
      have HB3 := Go.Lib.hid ((HB.out.trans HST.out.2).trans (hb3.mono (by omega)))
      clear HST HPU hp3 hb3 HV HB HZ
      have HGL := Go.Lib.hid (show G < N from HG.out.lt)
      have hGN2 : ¬ (G = N + 2) := by have := HG.out.lt; omega
      have hGN2' : ¬ (N + 2 = G) := by have := HG.out.lt; omega
      go_wp2_with fail
      go_loopw [] (fun wr => ∃ st, StepIn w wr N s C g.D st) (fun wr => least (fun n => ∃ st, StepIn w wr N s C g.D st ∧ mu st = n))
      case atStart => exact ⟨ini s, HD3.out, HB3.out, Nat.le_of_eq (mu_ini s), _, ini_inv C g.D hs⟩
      case round =>
        clear HD3 HB3
        obtain ⟨st', hst'⟩ := hrel
        obtain ⟨⟨st, hst, hmu⟩, -⟩ := least_spec (P := fun n => ∃ st, StepIn w wr N s C g.D st ∧ mu st = n) ⟨st', hst', rfl⟩
        clear hst' st'
        have HST := Go.Lib.hid hst
        have HMU := Go.Lib.hid hmu
        obtain ⟨R, hinv, hcov⟩ := hst.inv
        have HIN := Go.Lib.hid hinv
        have HCO := Go.Lib.hid hcov
        obtain ⟨hv0, hc0, ho0⟩ := hst.at_.p.row
        obtain ⟨A0, q0, rfl⟩ := (ho0.sl (by decide)).form
        clear hst hmu hinv hcov ho0
        have HLE := Go.Lib.hid (show st.heap.length ≤ 157 by have := HST.out.mu; unfold mu at this; omega)
        obtain ⟨len, hlen⟩ : ∃ n, n = st.heap.length := ⟨_, rfl⟩
        rw [← hlen] at hc0 HLE
        have HLN := Go.Lib.hid hlen
        clear hlen
        have hlb : (len : Int) ≤ 157 := by have := HLE.out; omega
        rcases Nat.eq_zero_or_pos len with h0 | h0
        · subst h0
          have HSN := Go.Lib.hid (show st.heap = [] from List.eq_nil_of_length_eq_zero HLN.out.symm)
          have hmk2 := fun w => make24 w
          have HNW := Go.Lib.hid (show N + 4 ≤ wr.heap.size from HST.out.at_.p.row.choose_spec.2.choose_spec.2.2.2)
          go_wp2_with fail
          obtain ⟨O, hO⟩ : ∃ x, x = wr.heap.size := ⟨_, rfl⟩
          have HOU := Go.Lib.hid (outs_ini wr 37 O hO (outW st))
          have HBO := Go.Lib.hid ((Below.refl O wr).alloc (Nat.le_of_eq hO) (.cells #[.int .i64 0, .slice none 0 0, .int .i64 0, .slice none 0 0, .int .i64 0, .slice none 0 0, .int .i64 0, .slice none 0 0, .int .i64 0, .slice none 0 0, .int .i64 0, .slice none 0 0, .int .i64 0, .slice none 0 0, .int .i64 0, .slice none 0 0, .int .i64 0, .slice none 0 0, .int .i64 0, .slice none 0 0, .int .i64 0, .slice none 0 0, .int .i64 0, .slice none 0 0] 37))
          have HZO := Go.Lib.hid (show O + 1 ≤ (wr.alloc (.cells #[.int .i64 0, .slice none 0 0, .int .i64 0, .slice none 0 0, .int .i64 0, .slice none 0 0, .int .i64 0, .slice none 0 0, .int .i64 0, .slice none 0 0, .int .i64 0, .slice none 0 0, .int .i64 0, .slice none 0 0, .int .i64 0, .slice none 0 0, .int .i64 0, .slice none 0 0, .int .i64 0, .slice none 0 0, .int .i64 0, .slice none 0 0, .int .i64 0, .slice none 0 0] 37)).heap.size by simp [hO])
          obtain ⟨W1, hW1⟩ : ∃ x, x = wr.alloc (.cells #[.int .i64 0, .slice none 0 0, .int .i64 0, .slice none 0 0, .int .i64 0, .slice none 0 0, .int .i64 0, .slice none 0 0, .int .i64 0, .slice none 0 0, .int .i64 0, .slice none 0 0, .int .i64 0, .slice none 0 0, .int .i64 0, .slice none 0 0, .int .i64 0, .slice none 0 0, .int .i64 0, .slice none 0 0, .int .i64 0, .slice none 0 0, .int .i64 0, .slice none 0 0] 37) := ⟨_, rfl⟩
          rw [← hW1] at HOU HBO HZO
          rw [← hW1, ← hO]
          have hNO : N < O := by have := HNW.out; omega
          have hNO1 : N + 1 < O := by have := HNW.out; omega
          have hn1 : ¬ O = N := by omega
          have hn2 : ¬ O = N + 1 := by omega
          have hn3 : ¬ N = O := by omega
          have hn4 : ¬ N + 1 = O := by omega
          have HOE := Go.Lib.hid hO
          clear hW1 hO hmk2 hc0 hlb HLE HMU
          obtain ⟨WW, hWW⟩ : ∃ x, x = wr := ⟨_, rfl⟩
          subst hWW
          go_loopw [148] (fun i wr2 => ∃ k : Nat, k ≤ 12 ∧ i = .int .i64 k ∧ Outs wr2 O wr2.heap.size k (outW st) ∧ Below O WW wr2) (fun i _ => 12 - (intOf i).toNat)
          case atStart => exact ⟨0, Nat.zero_le _, rfl, HOU.out.wide HZO.out, HBO.out⟩
          case round =>
            obtain ⟨k, hk, rfl, hou, hbo⟩ := hrel
            have HU := Go.Lib.hid hou
            have HV := Go.Lib.hid hbo
            clear hou hbo HOU HBO HZO
            by_cases hlt : k < 12
            · have hki : (k : Int) < 12 := by omega
              have hk0 : (0 : Int) ≤ (k : Int) := Int.natCast_nonneg k
              have HD := Go.Lib.hid (HST.out.at_.below (HOE.out ▸ HV.out))
              have c1 := HD.out.c.cell k hlt
              have c2 := HD.out.h.cell k hlt
              obtain ⟨u0, y0⟩ := HU.out.there (k * 2) (by omega)
              obtain ⟨u1, y1⟩ := HU.out.there (k * 2 + 1) (by omega)
              have y2 := HU.out.fz (k * 2)
              have y3 := HU.out.fz (k * 2 + 1)
              have hx1 : gI st.cost k ≤ 1048577 := HIN.out.hi hlt
              have hx0 : 0 ≤ gI st.cost k := HIN.out.nn hlt
              have HCI := Go.Lib.hid (costW_in st k hx0)
              have HF12 := Go.Lib.hid (show gN st.hops k < 4096 from HIN.out.h12 k)
              by_cases hmx : gI st.cost k ≤ 1048576
              · obtain ⟨base, hrow⟩ := row_yes HU.out hlt HV.out (x := gI st.cost k) (by unfold costW; rw [if_pos hmx])
                have HR := Go.Lib.hid hrow
                clear hrow
                go_wp2_with fail
                obtain ⟨W2, hW2⟩ : ∃ x, x = (((wr.setCell ⟨O, k * 2, none⟩ (.int .i64 (-1))).setCell ⟨O, k * 2 + 1, none⟩ (.slice none 0 0)).setCell ⟨O, k * 2, none⟩ (.int .i64 (gI st.cost k))) := ⟨_, rfl⟩
                rw [← hW2] at HR
                rw [← hW2]
                clear hW2 c1 c2 y0 y1 y2 y3 HD HU HV hmx hx1 hx0
                go_loopw [168] (fun i wr3 => ∃ (j : Nat) (v : Value), j ≤ 12 ∧ i = .int .i64 j ∧ RowAt WW wr3 O base k st j v) (fun i _ => 12 - (intOf i).toNat)
                case atStart => exact ⟨0, _, Nat.zero_le _, rfl, HR.out⟩
                case round =>
                  obtain ⟨j, v, hj, rfl, hr⟩ := hrel
                  clear HR
                  have HR := Go.Lib.hid hr
                  clear hr
                  have HD := Go.Lib.hid (HST.out.at_.below (HOE.out ▸ HR.out.bel))
                  have c2 := HD.out.h.cell k hlt
                  have y0 := HR.out.c0
                  have y1 := HR.out.c1
                  have y3 := HR.out.outs.fz (k * 2 + 1)
                  obtain ⟨A3, n3, c3, rfl⟩ := ow_form HR.out.ho (by decide)
                  clear HD
                  by_cases hjl : j < 12
                  · have hji : (j : Int) < 12 := by omega
                    have hj0 : (0 : Int) ≤ (j : Int) := Int.natCast_nonneg j
                    have hsh := shr_bit (gN st.hops k) j
                    have had := and1_i64 (gN st.hops k / 2 ^ j) (div_lt _ _ HF12.out)
                    obtain ⟨q, hq⟩ : ∃ q, q = gN st.hops k / 2 ^ j := ⟨_, rfl⟩
                    obtain ⟨r, hr⟩ : ∃ r, r = q % 2 := ⟨_, rfl⟩
                    rw [← hq] at hsh had
                    rw [← hr] at had
                    have HQR := Go.Lib.hid (show gN st.hops k / 2 ^ j % 2 = r by rw [← hq, ← hr])
                    clear hq hr
                    have HLN3 := Go.Lib.hid (show (bitsTo (gN st.hops k) j).length + 1 ≤ 1000000000000 by have := bitsTo_len (gN st.hops k) j; omega)
                    by_cases hb1 : r = 1
                    · have HBT := Go.Lib.hid (bitsTo_yes (HQR.out.trans hb1))
                      have hbe : ((r : Int) == 1) = true := by rw [hb1]; rfl
                      have HJR := Go.Lib.hid (show inR (j : Int) by unfold inR; omega)
                      go_wp2_with (at_builtin; refine wpList_gen (base := base) elt_int rfl (.tmp 184) (.tmp 186) rfl (ow_alloc HR.out.ho _) (one_flat (r := intR) (cs := [.int .i64 j]) (x := (j : Int)) rfl ⟨rfl, HJR.out⟩) (fun _ _ h => h) rfl rfl HLN3.out (by decide) ?_; intro v5 w5 ho5 hg5; obtain ⟨A9, n9, c9, rfl⟩ := ow_form ho5 (by decide); have HG5 := Go.Lib.hid hg5; obtain ⟨x0, x1, x2, x3, x4⟩ := HR.out.step hlt hg5; have x5 := x2 (k * 2 + 1); have X := Go.Lib.hid (And.intro x0 (And.intro x1 (And.intro x3 x4))); have HO5 := Go.Lib.hid ho5; clear hg5 x0 x2 x3 x4 ho5)
                      go_roundw
                      case rel => exact ⟨j + 1, _, by omega, by go_num, RowAt.next hlt X.out.1 X.out.2.1 (by rw [HBT.out]; exact HO5.out) X.out.2.2.1 X.out.2.2.2⟩
                      case measure => simp [intOf]; omega
                    · have HBT := Go.Lib.hid (bitsTo_no (fun e => hb1 (HQR.out.symm.trans e)))
                      have hbe : ((r : Int) == 1) = false := by rw [beq_eq_false_iff_ne]; omega
                      go_wp2_with fail
                      go_roundw
                      case rel => exact ⟨j + 1, _, by omega, by go_num, HR.out.c0, HR.out.c1, (by rw [HBT.out]; exact HR.out.ho), HR.out.outs, HR.out.bel⟩
                      case measure => simp [intOf]; omega
                  · obtain rfl : j = 12 := by omega
                    have HU := Go.Lib.hid (HR.out.done HCI.out)
                    have HV := Go.Lib.hid HR.out.bel
                    go_wp2_with fail
                    go_roundw
                    case rel => exact ⟨k + 1, by omega, by go_num, HU.out, HV.out⟩
                    case measure => simp [intOf]; omega
              · obtain ⟨base, hrow⟩ := row_no HU.out hlt HV.out (by unfold costW; rw [if_neg hmx])
                have HR := Go.Lib.hid hrow
                clear hrow
                go_wp2_with fail
                obtain ⟨W2, hW2⟩ : ∃ x, x = ((wr.setCell ⟨O, k * 2, none⟩ (.int .i64 (-1))).setCell ⟨O, k * 2 + 1, none⟩ (.slice none 0 0)) := ⟨_, rfl⟩
                rw [← hW2] at HR
                rw [← hW2]
                clear hW2 c1 c2 y0 y1 y2 y3 HD HU HV hmx hx1 hx0
                go_loopw [168] (fun i wr3 => ∃ (j : Nat) (v : Value), j ≤ 12 ∧ i = .int .i64 j ∧ RowAt WW wr3 O base k st j v) (fun i _ => 12 - (intOf i).toNat)
                case atStart => exact ⟨0, _, Nat.zero_le _, rfl, HR.out⟩
                case round =>
                  obtain ⟨j, v, hj, rfl, hr⟩ := hrel
                  clear HR
                  have HR := Go.Lib.hid hr
                  clear hr
                  have HD := Go.Lib.hid (HST.out.at_.below (HOE.out ▸ HR.out.bel))
                  have c2 := HD.out.h.cell k hlt
                  have y0 := HR.out.c0
                  have y1 := HR.out.c1
                  have y3 := HR.out.outs.fz (k * 2 + 1)
                  obtain ⟨A3, n3, c3, rfl⟩ := ow_form HR.out.ho (by decide)
                  clear HD
                  by_cases hjl : j < 12
                  · have hji : (j : Int) < 12 := by omega
                    have hj0 : (0 : Int) ≤ (j : Int) := Int.natCast_nonneg j
                    have hsh := shr_bit (gN st.hops k) j
                    have had := and1_i64 (gN st.hops k / 2 ^ j) (div_lt _ _ HF12.out)
                    obtain ⟨q, hq⟩ : ∃ q, q = gN st.hops k / 2 ^ j := ⟨_, rfl⟩
                    obtain ⟨r, hr⟩ : ∃ r, r = q % 2 := ⟨_, rfl⟩
                    rw [← hq] at hsh had
                    rw [← hr] at had
                    have HQR := Go.Lib.hid (show gN st.hops k / 2 ^ j % 2 = r by rw [← hq, ← hr])
                    clear hq hr
                    have HLN3 := Go.Lib.hid (show (bitsTo (gN st.hops k) j).length + 1 ≤ 1000000000000 by have := bitsTo_len (gN st.hops k) j; omega)
                    by_cases hb1 : r = 1
                    · have HBT := Go.Lib.hid (bitsTo_yes (HQR.out.trans hb1))
                      have hbe : ((r : Int) == 1) = true := by rw [hb1]; rfl
                      have HJR := Go.Lib.hid (show inR (j : Int) by unfold inR; omega)
                      go_wp2_with (at_builtin; refine wpList_gen (base := base) elt_int rfl (.tmp 184) (.tmp 186) rfl (ow_alloc HR.out.ho _) (one_flat (r := intR) (cs := [.int .i64 j]) (x := (j : Int)) rfl ⟨rfl, HJR.out⟩) (fun _ _ h => h) rfl rfl HLN3.out (by decide) ?_; intro v5 w5 ho5 hg5; obtain ⟨A9, n9, c9, rfl⟩ := ow_form ho5 (by decide); have HG5 := Go.Lib.hid hg5; obtain ⟨x0, x1, x2, x3, x4⟩ := HR.out.step hlt hg5; have x5 := x2 (k * 2 + 1); have X := Go.Lib.hid (And.intro x0 (And.intro x1 (And.intro x3 x4))); have HO5 := Go.Lib.hid ho5; clear hg5 x0 x2 x3 x4 ho5)
                      go_roundw
                      case rel => exact ⟨j + 1, _, by omega, by go_num, RowAt.next hlt X.out.1 X.out.2.1 (by rw [HBT.out]; exact HO5.out) X.out.2.2.1 X.out.2.2.2⟩
                      case measure => simp [intOf]; omega
                    · have HBT := Go.Lib.hid (bitsTo_no (fun e => hb1 (HQR.out.symm.trans e)))
                      have hbe : ((r : Int) == 1) = false := by rw [beq_eq_false_iff_ne]; omega
                      go_wp2_with fail
                      go_roundw
                      case rel => exact ⟨j + 1, _, by omega, by go_num, HR.out.c0, HR.out.c1, (by rw [HBT.out]; exact HR.out.ho), HR.out.outs, HR.out.bel⟩
                      case measure => simp [intOf]; omega
                  · obtain rfl : j = 12 := by omega
                    have HU := Go.Lib.hid (HR.out.done HCI.out)
                    have HV := Go.Lib.hid HR.out.bel
                    go_wp2_with fail
                    go_roundw
                    case rel => exact ⟨k + 1, by omega, by go_num, HU.out, HV.out⟩
                    case measure => simp [intOf]; omega
            · obtain rfl : k = 12 := by omega
              have HFI := Go.Lib.hid (HU.out.sl (c := 12) (Nat.le_refl _) (Nat.le_refl _) (by unfold maxLen; omega))
              have HFB := Go.Lib.hid (HST.out.bel.trans (HV.out.mono (Nat.le_of_lt hNO)))
              go_wp2_with fail
              go_ret
              exact ⟨_, st, R, rfl, HFI.out, HFB.out, HIN.out, HCO.out, HSN.out⟩
        · have hl0 : (0 : Int) < (len : Int) := by omega
          have HPO := Go.Lib.hid (pop_any (N + 3) (N + 4) st.heap wr HST.out.at_.p (by rw [← HLN.out]; exact h0) (by rw [← HLN.out]; have := HLE.out; omega))
          obtain ⟨ht, htn, hsi, hml, hcu⟩ := step_inv HG.out.le hs HIN.out HCO.out (by rw [← HLN.out]; exact h0)
          obtain ⟨t, hte⟩ : ∃ t, t = topN st := ⟨_, rfl⟩
          rw [← hte] at ht htn hcu
          rw [htn] at HPO
          have HTE := Go.Lib.hid hte
          have HSI := Go.Lib.hid hsi
          have HML := Go.Lib.hid hml
          have HCU := Go.Lib.hid hcu
          clear hte htn hsi hml hcu
          go_wp2_with fail
          refine HPO.out.mono ?_
          rintro e w1 ⟨rfl, hp1, hb1⟩
          have HD1 := Go.Lib.hid (show DsAt w1 N { st with heap := popS st.heap } from HST.out.at_.turn hb1 hp1)
          have HB1 := Go.Lib.hid (HST.out.bel.trans (hb1.mono (by omega)))
          clear HPO hp1 hb1 hc0 h0 hl0 hlb HLE HLN
          have hti : (t : Int) < 12 := by omega
          have ht0 : (0 : Int) ≤ (t : Int) := Int.natCast_nonneg t
          have d2 := HD1.out.d.fz t
          have d1 : w1.cell? ⟨N + 2, t, none⟩ = some (.bool (gD st.done t)) := HD1.out.d.cell t ht
          have HG1 := Go.Lib.hid (show Gr w1 G g from HG.out.gr.below (HNS.out ▸ HB1.out))
          have d3 := HG1.out.drn t ht
          have d4 : w1.cell? ⟨G, t + 144, none⟩ = some (.bool (g.D t)) := by rw [Nat.add_comm]; exact d3
          rcases hd : gD st.done t with _ | _
          · rw [hd] at d1
            have HDN := Go.Lib.hid hd
            clear hd
            have HB2 := Go.Lib.hid (HB1.out.setCell (p := ⟨N + 2, t, none⟩) (by show N ≤ N + 2; omega) (.bool true))
            by_cases hts : t = s
            · have hok : t = s ∨ g.D t = false := .inl hts
              subst hts
              have HCU1 := Go.Lib.hid (HCU.out HDN.out hok)
              have HGO := Go.Lib.hid (show stepD C g.D t st = edgesTo C t t { st with heap := popS st.heap, done := st.done.set t true } 12 by have e := HTE.out; rw [e] at hok; rw [e]; exact stepD_go (e ▸ HDN.out) hok)
              have HPL := Go.Lib.hid (show (popS st.heap).length ≤ 157 by have h1 := pop_len st.heap; have h2 := HST.out.mu; unfold mu at h2; omega)
              have HBS := Go.Lib.hid (HB1.out.setCell (p := ⟨N + 2, t, none⟩) (by show N ≤ N + 2; omega) (.bool true))
              clear HCU
              obtain ⟨st1, hst1⟩ : ∃ q : Ds, q = { st with heap := popS st.heap, done := st.done.set t true } := ⟨_, rfl⟩
              have HD2 := Go.Lib.hid (show DsAt (w1.setCell ⟨N + 2, t, none⟩ (.bool true)) N st1 by rw [hst1]; exact HD1.out.setD ht HIN.out.ld)
              have HPL2 := Go.Lib.hid (show st1.heap.length ≤ 157 by rw [hst1]; exact HPL.out)
              rw [← hst1] at HCU1 HGO
              obtain ⟨vs, hvs, hrow, hinf⟩ := row_load HG1.out ht
              have HLD := Go.Lib.hid (hrow (w1.setCell ⟨N + 2, t, none⟩ (.bool true)) (Below.heap_setCell _ _ _ _ (by show G ≠ N + 2; omega)))
              have HVS := Go.Lib.hid hvs
              have HIF := Go.Lib.hid hinf
              clear hrow hvs hst1 hok hinf
              go_wp2_with (refine wpList_load_mid rfl 38 (.tmp 64) rfl G (t * 12) rfl vs _ HLD.out Tryz.underlying38 rfl HIF.out ?_)
              go_loopw [66] (fun i wr2 => ∃ k : Nat, k ≤ 12 ∧ i = .int .i64 k ∧ DsAt wr2 N (edgesTo C t t st1 k) ∧ Below N w wr2) (fun i _ => 12 - (intOf i).toNat)
              case atStart => exact ⟨0, Nat.zero_le _, rfl, HD2.out, HBS.out⟩
              case round =>
                clear HD2 HBS HB2 d1 d2 d3 d4 HLD HIF
                obtain ⟨k, hk, rfl, hd2, hb2⟩ := hrel
                have HB2 := Go.Lib.hid hb2
                by_cases hlt : k < 12
                · obtain ⟨R1, hi1, hcu1, hco1⟩ := HCU1.out
                  obtain ⟨⟨R2, hi2, -⟩, hcu2, -, hle2⟩ := edges_inv HG.out.le hs hi1 hcu1 hco1 k hk
                  obtain ⟨st2, hst2⟩ : ∃ q, q = edgesTo C t t st1 k := ⟨_, rfl⟩
                  have HNX := Go.Lib.hid (show edgesTo C t t st1 (k + 1) = edge C t t st2 k by rw [hst2]; rfl)
                  rw [← hst2] at hd2 hi2 hcu2 hle2
                  have HD2 := Go.Lib.hid hd2
                  have HI2 := Go.Lib.hid hi2
                  have HLH := Go.Lib.hid (show st2.heap.length ≤ 100000 by have := HPL2.out; omega)
                  have hki : (k : Int) < 12 := by omega
                  have hk0 : (0 : Int) ≤ (k : Int) := Int.natCast_nonneg k
                  have c1 := hd2.c.cell t ht
                  have c2 := hd2.c.cell k hlt
                  have c3 := hd2.h.cell t ht
                  have c4 := hd2.h.cell k hlt
                  have c5 := hd2.c.fz k
                  have c6 := hd2.h.fz k
                  have hx1 : gI st2.cost t ≤ 1048576 := (hi2.dle t ht hcu2.dn).1
                  have hx0 : 0 ≤ gI st2.cost t := hi2.nn ht
                  have hy1 : gI st2.cost k ≤ 1048577 := hi2.hi hlt
                  have hy0 : 0 ≤ gI st2.cost k := hi2.nn hlt
                  have HF12 := Go.Lib.hid (show gN st2.hops k < 4096 from hi2.h12 k)
                  have HFT := Go.Lib.hid (show fstH t t k st2 < 4096 from fst_lt hi2 hlt)
                  have hcc : C t k ≤ 1000 := HG.out.le t k
                  have hix : ∀ w', (Instr.index 38 (.agg vs.toArray) (.int .i64 (k : Int))).run Tryz.prog w' = .ok (.int .i64 (C t k : Nat)) w' := fun w' => by rw [← HG.out.c t k ht hlt]; exact row_idx vs.toArray (g.C t) HVS.out hlt w'
                  clear hi1 hcu1 hco1 hi2 hcu2 hle2 hst2 hd2 hb2
                  have E1 := fun h => edge_no (C := C) (s := t) (n := t) (k := k) (st := st2) h
                  have E2 := fun h h1 => edge_set (C := C) (s := t) (n := t) (k := k) (st := st2) h h1
                  have E3 := fun h h1 => edge_or (C := C) (s := t) (n := t) (k := k) (st := st2) h h1
                  have E4 := fun h1 => edge_skip (C := C) (s := t) (n := t) (k := k) (st := st2) h1
                  have HE1 := Go.Lib.hid E1
                  have HE2 := Go.Lib.hid E2
                  have HE3 := Go.Lib.hid E3
                  have HE4 := Go.Lib.hid E4
                  clear E1 E2 E3 E4
                  generalize C t k = cc at *
                  generalize gI st2.cost t = x at *
                  generalize gI st2.cost k = y at *
                  by_cases e0 : cc = 0
                  · have g0 : ((cc : Int) == 0) = true := by rw [beq_iff_eq]; omega
                    rw [HE1.out (.inl e0)] at HNX
                    subst e0
                    go_wp2_with fail
                    go_roundw
                    case rel => exact ⟨k + 1, by omega, by go_num, by rw [HNX.out]; exact ⟨HD2.out, HB2.out⟩⟩
                    case measure => simp [intOf]; omega
                  · have g0 : ((cc : Int) == 0) = false := by rw [beq_eq_false_iff_ne]; omega
                    have hcp : (0 : Int) < (cc : Int) := by omega
                    by_cases e1 : 1048576 < x + cc
                    · rw [HE1.out (.inr (.inl e1))] at HNX
                      clear e0
                      go_wp2_with fail
                      go_roundw
                      case rel => exact ⟨k + 1, by omega, by go_num, by rw [HNX.out]; exact ⟨HD2.out, HB2.out⟩⟩
                      case measure => simp [intOf]; omega
                    · have e1' : x + cc ≤ 1048576 := by omega
                      by_cases e2 : k = t
                      · rw [HE1.out (.inr (.inr e2))] at HNX
                        have g2 : ((k : Int) == (t : Int)) = true := by rw [beq_iff_eq]; omega
                        clear e0 e2
                        go_wp2_with fail
                        go_roundw
                        case rel => exact ⟨k + 1, by omega, by go_num, by rw [HNX.out]; exact ⟨HD2.out, HB2.out⟩⟩
                        case measure => simp [intOf]; omega
                      · have g2 : ((k : Int) == (t : Int)) = false := by rw [beq_eq_false_iff_ne]; omega
                        have HNO := Go.Lib.hid (show ¬ (cc = 0 ∨ 1048576 < x + cc ∨ k = t) by omega)
                        clear e0 e2
                        obtain ⟨f, hf⟩ : ∃ f, f = 2 ^ k := ⟨_, rfl⟩
                        have HFS := Go.Lib.hid (show fstH t t k st2 = f by rw [hf]; unfold fstH; rw [if_pos rfl])
                        have hp1 : IntKind.i64.wrap ((2 : Int) ^ k) = (f : Int) := by rw [hf]; exact pow_i64 hlt
                        have hf12 : f < 4096 := by have := HFT.out; rw [HFS.out] at this; exact this
                        clear hf
                        have hfi : (f : Int) < 4096 := by omega
                        have hf0 : (0 : Int) ≤ (f : Int) := Int.natCast_nonneg f
                        by_cases l1 : x + cc < y
                        · rw [HE2.out HNO.out l1, HFS.out] at HNX
                          go_wp2_with fail
                          go_quiet (fail)
                          obtain ⟨q1, rfl⟩ : ∃ m, m = nq := ⟨nq, rfl⟩
                          have HD3 := Go.Lib.hid (((HD2.out.below ((bDrewN (Below.refl wr.heap.size wr) q1))).setC hlt HI2.out.lc (x + cc)).setH hlt HI2.out.lh f)
                          have HB3 := Go.Lib.hid (((bDrewN HB2.out q1).setCell (p := ⟨N, k, none⟩) (Nat.le_refl N) (.int .i64 (x + cc))).setCell (p := ⟨N + 1, k, none⟩) (by show N ≤ N + 1; omega) (.int .i64 f))
                          have HPU := Go.Lib.hid (push_any (N + 3) (N + 4) st2.heap k (x + cc) _ HD3.out.p (by unfold inR; omega) (by unfold inR; omega) HLH.out)
                          go_wp2_with fail
                          refine HPU.out.mono ?_
                          rintro e w5 ⟨rfl, hp5, hb5⟩
                          have HD5 := Go.Lib.hid (HD3.out.turn hb5 hp5)
                          have HB5 := Go.Lib.hid (HB3.out.trans (hb5.mono (by omega)))
                          clear HPU HD3 HB3 hp5 hb5
                          go_wp2_with fail
                          go_roundw
                          case rel => exact ⟨k + 1, by omega, by go_num, by rw [HNX.out]; exact ⟨HD5.out, HB5.out⟩⟩
                          case measure => simp [intOf]; omega
                        · by_cases l2 : x + cc = y
                          · rw [HE3.out HNO.out l2, HFS.out] at HNX
                            have g3 : ((x + cc : Int) == y) = true := by rw [beq_iff_eq]; exact l2
                            have HF12 := HF12.out
                            generalize gN st2.hops k = f2 at *
                            have hor := or_i64 f2 f HF12 (by omega)
                            go_wp2_with fail
                            go_quiet (fail)
                            obtain ⟨q1, rfl⟩ : ∃ m, m = nq := ⟨nq, rfl⟩
                            go_wp2_with fail
                            go_quiet (fail)
                            obtain ⟨q2, rfl⟩ : ∃ m, m = nq := ⟨nq, rfl⟩
                            have HD5 := Go.Lib.hid ((HD2.out.below (bDrewN (Below.refl wr.heap.size wr) (q1 + q2))).setH hlt HI2.out.lh (f2 ||| f))
                            have HB5 := Go.Lib.hid ((bDrewN HB2.out (q1 + q2)).setCell (p := ⟨N + 1, k, none⟩) (by show N ≤ N + 1; omega) (.int .i64 (f2 ||| f : Nat)))
                            go_wp2_with fail
                            go_roundw
                            case rel => exact ⟨k + 1, by omega, by go_num, by rw [HNX.out]; exact ⟨HD5.out, HB5.out⟩⟩
                            case measure => simp [intOf]; omega
                          · rw [HE4.out (by omega)] at HNX
                            have g3 : ((x + cc : Int) == y) = false := by rw [beq_eq_false_iff_ne]; exact l2
                            go_wp2_with fail
                            go_quiet (fail)
                            obtain ⟨q1, rfl⟩ : ∃ m, m = nq := ⟨nq, rfl⟩
                            go_wp2_with fail
                            go_quiet (fail)
                            obtain ⟨q2, rfl⟩ : ∃ m, m = nq := ⟨nq, rfl⟩
                            have HD5 := Go.Lib.hid (HD2.out.below (bDrewN (Below.refl wr.heap.size wr) (q1 + q2)))
                            have HB5 := Go.Lib.hid (bDrewN HB2.out (q1 + q2))
                            go_wp2_with fail
                            go_roundw
                            case rel => exact ⟨k + 1, by omega, by go_num, by rw [HNX.out]; exact ⟨HD5.out, HB5.out⟩⟩
                            case measure => simp [intOf]; omega
                · obtain rfl : k = 12 := by omega
                  have HF := Go.Lib.hid (step_fin (st := st) (by rw [HGO.out]; exact hd2) hb2 HST.out.mu HML.out HSI.out)
                  clear hd2 hb2
                  go_wp2_with fail
                  go_roundw
                  case rel => exact ⟨_, HF.out⟩
                  case measure => exact least_dec ⟨_, HF.out, rfl⟩ HMU.out HML.out
            · have htsi : ((t : Int) != (s : Int)) = true := by rw [bne_iff_ne]; omega
              have htse : ((t : Int) == (s : Int)) = false := by rw [beq_eq_false_iff_ne]; omega
              rcases hdr : g.D t with _ | _
              · have hok : t = s ∨ g.D t = false := .inr hdr
                rw [hdr] at d3 d4
                clear hdr
                have HCU1 := Go.Lib.hid (HCU.out HDN.out hok)
                have HGO := Go.Lib.hid (show stepD C g.D s st = edgesTo C s t { st with heap := popS st.heap, done := st.done.set t true } 12 by have e := HTE.out; rw [e] at hok; rw [e]; exact stepD_go (e ▸ HDN.out) hok)
                have HPL := Go.Lib.hid (show (popS st.heap).length ≤ 157 by have h1 := pop_len st.heap; have h2 := HST.out.mu; unfold mu at h2; omega)
                have HBS := Go.Lib.hid (HB1.out.setCell (p := ⟨N + 2, t, none⟩) (by show N ≤ N + 2; omega) (.bool true))
                clear HCU
                obtain ⟨st1, hst1⟩ : ∃ q : Ds, q = { st with heap := popS st.heap, done := st.done.set t true } := ⟨_, rfl⟩
                have HD2 := Go.Lib.hid (show DsAt (w1.setCell ⟨N + 2, t, none⟩ (.bool true)) N st1 by rw [hst1]; exact HD1.out.setD ht HIN.out.ld)
                have HPL2 := Go.Lib.hid (show st1.heap.length ≤ 157 by rw [hst1]; exact HPL.out)
                rw [← hst1] at HCU1 HGO
                obtain ⟨vs, hvs, hrow, hinf⟩ := row_load HG1.out ht
                have HLD := Go.Lib.hid (hrow (w1.setCell ⟨N + 2, t, none⟩ (.bool true)) (Below.heap_setCell _ _ _ _ (by show G ≠ N + 2; omega)))
                have HVS := Go.Lib.hid hvs
                have HIF := Go.Lib.hid hinf
                clear hrow hvs hst1 hok hinf
                go_wp2_with (refine wpList_load_mid rfl 38 (.tmp 64) rfl G (t * 12) rfl vs _ HLD.out Tryz.underlying38 rfl HIF.out ?_)
                go_loopw [66] (fun i wr2 => ∃ k : Nat, k ≤ 12 ∧ i = .int .i64 k ∧ DsAt wr2 N (edgesTo C s t st1 k) ∧ Below N w wr2) (fun i _ => 12 - (intOf i).toNat)
                case atStart => exact ⟨0, Nat.zero_le _, rfl, HD2.out, HBS.out⟩
                case round =>
                  clear HD2 HBS HB2 d1 d2 d3 d4 HLD HIF
                  obtain ⟨k, hk, rfl, hd2, hb2⟩ := hrel
                  have HB2 := Go.Lib.hid hb2
                  by_cases hlt : k < 12
                  · obtain ⟨R1, hi1, hcu1, hco1⟩ := HCU1.out
                    obtain ⟨⟨R2, hi2, -⟩, hcu2, -, hle2⟩ := edges_inv HG.out.le hs hi1 hcu1 hco1 k hk
                    obtain ⟨st2, hst2⟩ : ∃ q, q = edgesTo C s t st1 k := ⟨_, rfl⟩
                    have HNX := Go.Lib.hid (show edgesTo C s t st1 (k + 1) = edge C s t st2 k by rw [hst2]; rfl)
                    rw [← hst2] at hd2 hi2 hcu2 hle2
                    have HD2 := Go.Lib.hid hd2
                    have HI2 := Go.Lib.hid hi2
                    have HLH := Go.Lib.hid (show st2.heap.length ≤ 100000 by have := HPL2.out; omega)
                    have hki : (k : Int) < 12 := by omega
                    have hk0 : (0 : Int) ≤ (k : Int) := Int.natCast_nonneg k
                    have c1 := hd2.c.cell t ht
                    have c2 := hd2.c.cell k hlt
                    have c3 := hd2.h.cell t ht
                    have c4 := hd2.h.cell k hlt
                    have c5 := hd2.c.fz k
                    have c6 := hd2.h.fz k
                    have hx1 : gI st2.cost t ≤ 1048576 := (hi2.dle t ht hcu2.dn).1
                    have hx0 : 0 ≤ gI st2.cost t := hi2.nn ht
                    have hy1 : gI st2.cost k ≤ 1048577 := hi2.hi hlt
                    have hy0 : 0 ≤ gI st2.cost k := hi2.nn hlt
                    have HF12 := Go.Lib.hid (show gN st2.hops k < 4096 from hi2.h12 k)
                    have HFT := Go.Lib.hid (show fstH s t k st2 < 4096 from fst_lt hi2 hlt)
                    have hcc : C t k ≤ 1000 := HG.out.le t k
                    have hix : ∀ w', (Instr.index 38 (.agg vs.toArray) (.int .i64 (k : Int))).run Tryz.prog w' = .ok (.int .i64 (C t k : Nat)) w' := fun w' => by rw [← HG.out.c t k ht hlt]; exact row_idx vs.toArray (g.C t) HVS.out hlt w'
                    clear hi1 hcu1 hco1 hi2 hcu2 hle2 hst2 hd2 hb2
                    have E1 := fun h => edge_no (C := C) (s := s) (n := t) (k := k) (st := st2) h
                    have E2 := fun h h1 => edge_set (C := C) (s := s) (n := t) (k := k) (st := st2) h h1
                    have E3 := fun h h1 => edge_or (C := C) (s := s) (n := t) (k := k) (st := st2) h h1
                    have E4 := fun h1 => edge_skip (C := C) (s := s) (n := t) (k := k) (st := st2) h1
                    have HE1 := Go.Lib.hid E1
                    have HE2 := Go.Lib.hid E2
                    have HE3 := Go.Lib.hid E3
                    have HE4 := Go.Lib.hid E4
                    clear E1 E2 E3 E4
                    generalize C t k = cc at *
                    generalize gI st2.cost t = x at *
                    generalize gI st2.cost k = y at *
                    by_cases e0 : cc = 0
                    · have g0 : ((cc : Int) == 0) = true := by rw [beq_iff_eq]; omega
                      rw [HE1.out (.inl e0)] at HNX
                      subst e0
                      go_wp2_with fail
                      go_roundw
                      case rel => exact ⟨k + 1, by omega, by go_num, by rw [HNX.out]; exact ⟨HD2.out, HB2.out⟩⟩
                      case measure => simp [intOf]; omega
                    · have g0 : ((cc : Int) == 0) = false := by rw [beq_eq_false_iff_ne]; omega
                      have hcp : (0 : Int) < (cc : Int) := by omega
                      by_cases e1 : 1048576 < x + cc
                      · rw [HE1.out (.inr (.inl e1))] at HNX
                        clear e0
                        go_wp2_with fail
                        go_roundw
                        case rel => exact ⟨k + 1, by omega, by go_num, by rw [HNX.out]; exact ⟨HD2.out, HB2.out⟩⟩
                        case measure => simp [intOf]; omega
                      · have e1' : x + cc ≤ 1048576 := by omega
                        by_cases e2 : k = s
                        · rw [HE1.out (.inr (.inr e2))] at HNX
                          have g2 : ((k : Int) == (s : Int)) = true := by rw [beq_iff_eq]; omega
                          clear e0 e2
                          go_wp2_with fail
                          go_roundw
                          case rel => exact ⟨k + 1, by omega, by go_num, by rw [HNX.out]; exact ⟨HD2.out, HB2.out⟩⟩
                          case measure => simp [intOf]; omega
                        · have g2 : ((k : Int) == (s : Int)) = false := by rw [beq_eq_false_iff_ne]; omega
                          have HNO := Go.Lib.hid (show ¬ (cc = 0 ∨ 1048576 < x + cc ∨ k = s) by omega)
                          clear e0 e2
                          obtain ⟨f, hf⟩ : ∃ f, f = gN st2.hops t := ⟨_, rfl⟩
                          have HFS := Go.Lib.hid (show fstH s t k st2 = f by rw [hf]; unfold fstH; rw [if_neg hts])
                          rw [← hf] at c3
                          have hf12 : f < 4096 := by have := HFT.out; rw [HFS.out] at this; exact this
                          clear hf
                          have hfi : (f : Int) < 4096 := by omega
                          have hf0 : (0 : Int) ≤ (f : Int) := Int.natCast_nonneg f
                          by_cases l1 : x + cc < y
                          · rw [HE2.out HNO.out l1, HFS.out] at HNX
                            go_wp2_with fail
                            go_quiet (fail)
                            obtain ⟨q1, rfl⟩ : ∃ m, m = nq := ⟨nq, rfl⟩
                            have HD3 := Go.Lib.hid (((HD2.out.below ((bDrewN (Below.refl wr.heap.size wr) q1))).setC hlt HI2.out.lc (x + cc)).setH hlt HI2.out.lh f)
                            have HB3 := Go.Lib.hid (((bDrewN HB2.out q1).setCell (p := ⟨N, k, none⟩) (Nat.le_refl N) (.int .i64 (x + cc))).setCell (p := ⟨N + 1, k, none⟩) (by show N ≤ N + 1; omega) (.int .i64 f))
                            have HPU := Go.Lib.hid (push_any (N + 3) (N + 4) st2.heap k (x + cc) _ HD3.out.p (by unfold inR; omega) (by unfold inR; omega) HLH.out)
                            go_wp2_with fail
                            refine HPU.out.mono ?_
                            rintro e w5 ⟨rfl, hp5, hb5⟩
                            have HD5 := Go.Lib.hid (HD3.out.turn hb5 hp5)
                            have HB5 := Go.Lib.hid (HB3.out.trans (hb5.mono (by omega)))
                            clear HPU HD3 HB3 hp5 hb5
                            go_wp2_with fail
                            go_roundw
                            case rel => exact ⟨k + 1, by omega, by go_num, by rw [HNX.out]; exact ⟨HD5.out, HB5.out⟩⟩
                            case measure => simp [intOf]; omega
                          · by_cases l2 : x + cc = y
                            · rw [HE3.out HNO.out l2, HFS.out] at HNX
                              have g3 : ((x + cc : Int) == y) = true := by rw [beq_iff_eq]; exact l2
                              have HF12 := HF12.out
                              generalize gN st2.hops k = f2 at *
                              have hor := or_i64 f2 f HF12 (by omega)
                              go_wp2_with fail
                              go_quiet (fail)
                              obtain ⟨q1, rfl⟩ : ∃ m, m = nq := ⟨nq, rfl⟩
                              go_wp2_with fail
                              go_quiet (fail)
                              obtain ⟨q2, rfl⟩ : ∃ m, m = nq := ⟨nq, rfl⟩
                              have HD5 := Go.Lib.hid ((HD2.out.below (bDrewN (Below.refl wr.heap.size wr) (q1 + q2))).setH hlt HI2.out.lh (f2 ||| f))
                              have HB5 := Go.Lib.hid ((bDrewN HB2.out (q1 + q2)).setCell (p := ⟨N + 1, k, none⟩) (by show N ≤ N + 1; omega) (.int .i64 (f2 ||| f : Nat)))
                              go_wp2_with fail
                              go_roundw
                              case rel => exact ⟨k + 1, by omega, by go_num, by rw [HNX.out]; exact ⟨HD5.out, HB5.out⟩⟩
                              case measure => simp [intOf]; omega
                            · rw [HE4.out (by omega)] at HNX
                              have g3 : ((x + cc : Int) == y) = false := by rw [beq_eq_false_iff_ne]; exact l2
                              go_wp2_with fail
                              go_quiet (fail)
                              obtain ⟨q1, rfl⟩ : ∃ m, m = nq := ⟨nq, rfl⟩
                              go_wp2_with fail
                              go_quiet (fail)
                              obtain ⟨q2, rfl⟩ : ∃ m, m = nq := ⟨nq, rfl⟩
                              have HD5 := Go.Lib.hid (HD2.out.below (bDrewN (Below.refl wr.heap.size wr) (q1 + q2)))
                              have HB5 := Go.Lib.hid (bDrewN HB2.out (q1 + q2))
                              go_wp2_with fail
                              go_roundw
                              case rel => exact ⟨k + 1, by omega, by go_num, by rw [HNX.out]; exact ⟨HD5.out, HB5.out⟩⟩
                              case measure => simp [intOf]; omega
                  · obtain rfl : k = 12 := by omega
                    have HF := Go.Lib.hid (step_fin (st := st) (by rw [HGO.out]; exact hd2) hb2 HST.out.mu HML.out HSI.out)
                    clear hd2 hb2
                    go_wp2_with fail
                    go_roundw
                    case rel => exact ⟨_, HF.out⟩
                    case measure => exact least_dec ⟨_, HF.out, rfl⟩ HMU.out HML.out
              · rw [hdr] at d3 d4
                have HF := Go.Lib.hid (step_fin (st := st) (w' := w1.setCell ⟨N + 2, t, none⟩ (.bool true)) (by rw [stepD_dr (HTE.out ▸ HDN.out) (HTE.out ▸ hts) (HTE.out ▸ hdr), ← HTE.out]; exact HD1.out.setD ht HIN.out.ld) HB2.out HST.out.mu HML.out HSI.out)
                clear hdr
                go_wp2_with fail
                go_roundw
                case rel => exact ⟨_, HF.out⟩
                case measure => exact least_dec ⟨_, HF.out, rfl⟩ HMU.out HML.out
          · rw [hd] at d1
            have HF := Go.Lib.hid (step_fin (st := st) (w' := w1) (by rw [stepD_done (HTE.out ▸ hd)]; exact HD1.out) HB1.out HST.out.mu HML.out HSI.out)
            clear hd
            go_wp2_with fail
            go_roundw
            case rel => exact ⟨_, HF.out⟩
            case measure => exact least_dec ⟨_, HF.out, rfl⟩ HMU.out HML.out
end Go.Proofs.YtcbkimbeljhbhaaGreatDoor
