/-
  What stepping from the nearest spot on keeps in memory: costs, sets of first steps, what is done, the heap; ways in a row.
-/
import Derived.Test.YtlmcipnogodnfaaDoorDoQ
import Derived.Test.YtlmcipnogodnfaaDoorWaF
namespace Go.Proofs.YtlmcipnogodnfaaDoor
open Go Go.RowKit Go.Deep

theorem HpAt.far {w : World} {H base : Nat} {l : List Spot} (h : HpAt w H base l) {p : Addr} (h1 : p.block ≠ H) (h2 : p.block < base) (u : Value) : HpAt (w.setCell p u) H base l := by
  obtain ⟨v, h3, h4⟩ := h.row
  exact ⟨⟨v, by rw [World.cell?_setCell_other _ _ _ _ (fun e => h1 (congrArg Addr.block e))]; exact h3, owS_set h4 h2 u⟩, fun i => by rw [World.frozen?_setCell]; exact h.fz i, h.lt⟩

structure DsAt (w : World) (N : Nat) (st : Ds) : Prop where
  c : Vec w N (gI st.cost)
  h : Vec w (N + 1) (fun i => (gN st.hops i : Nat))
  d : Bits w (N + 2) (gD st.done)
  p : HpAt w (N + 3) (N + 4) st.heap
theorem DsAt.below {w w' : World} {N : Nat} {st : Ds} (h : DsAt w N st) (hb : Below w.heap.size w w') : DsAt w' N st := ⟨h.c.below hb, h.h.below hb, h.d.below hb, h.p.below hb⟩
theorem DsAt.turn {w w' : World} {N : Nat} {st : Ds} {l : List Spot} (h : DsAt w N st) (hb : Below (N + 3) w w') (hp : HpAt w' (N + 3) (N + 4) l) : DsAt w' N { st with heap := l } :=
  ⟨h.c.keep (hb.block N (by omega)), h.h.keep (hb.block (N + 1) (by omega)), h.d.keep (hb.block (N + 2) (by omega)), hp⟩
theorem DsAt.setD {w : World} {N : Nat} {st : Ds} (h : DsAt w N st) {i : Nat} (hi : i < 12) (hl : st.done.length = 12) : DsAt (w.setCell ⟨N + 2, i, none⟩ (.bool true)) N { st with done := st.done.set i true } :=
  ⟨h.c.far (by show N + 2 ≠ N; omega) _, h.h.far (by show N + 2 ≠ N + 1; omega) _, h.d.set hi true (fun a _ => by
    show gD (st.done.set i true) a = _
    rw [gD_set _ _ _ _ (by omega)]
    by_cases e : a = i
    · rw [if_pos e, if_pos e.symm]
    · rw [if_neg e, if_neg (fun x => e x.symm)]), h.p.far (by show N + 2 ≠ N + 3; omega) (by show N + 2 < N + 4; omega) _⟩
theorem DsAt.setH {w : World} {N : Nat} {st : Ds} (h : DsAt w N st) {i : Nat} (hi : i < 12) (hl : st.hops.length = 12) (f : Nat) : DsAt (w.setCell ⟨N + 1, i, none⟩ (.int .i64 (f : Nat))) N { st with hops := st.hops.set i f } :=
  ⟨h.c.far (by show N + 1 ≠ N; omega) _, h.h.set hi _ (fun a _ => by
    show ((gN (st.hops.set i f) a : Nat) : Int) = _
    rw [gN_set _ _ _ _ (by omega)]
    by_cases e : a = i
    · rw [if_pos e, if_pos e.symm]
    · rw [if_neg e, if_neg (fun x => e x.symm)]), h.d.far (by show N + 1 ≠ N + 2; omega) _, h.p.far (by show N + 1 ≠ N + 3; omega) (by show N + 1 < N + 4; omega) _⟩
theorem DsAt.setC {w : World} {N : Nat} {st : Ds} (h : DsAt w N st) {i : Nat} (hi : i < 12) (hl : st.cost.length = 12) (x : Int) : DsAt (w.setCell ⟨N, i, none⟩ (.int .i64 x)) N { st with cost := st.cost.set i x } :=
  ⟨h.c.set hi _ (fun a _ => set_gI hl hi x), h.h.far (by show N ≠ N + 1; omega) _, h.d.far (by show N ≠ N + 2; omega) _, h.p.far (by show N ≠ N + 3; omega) (by show N < N + 4; omega) _⟩

/-- the least number of a kind -/
noncomputable def least (P : Nat → Prop) : Nat := Classical.epsilon fun m => P m ∧ ∀ n, P n → m ≤ n
theorem least_spec {P : Nat → Prop} {n : Nat} (h : P n) : P (least P) ∧ ∀ n, P n → least P ≤ n := by
  have hex : ∀ (k n : Nat), n < k → P n → ∃ m, P m ∧ ∀ n, P n → m ≤ n := by
    intro k
    induction k with
    | zero => intro n hn _; omega
    | succ k ih =>
      intro n hn hp
      by_cases hc : ∃ d, d < n ∧ P d
      · obtain ⟨d, hd, hpd⟩ := hc
        exact ih d (by omega) hpd
      · refine ⟨n, hp, fun d hd => ?_⟩
        rcases Nat.lt_or_ge d n with h1 | h1
        · exact absurd ⟨d, h1, hd⟩ hc
        · exact h1
  exact Classical.epsilon_spec (hex (n + 1) n (Nat.lt_succ_self n) h)

/-- ways laid in a row: those ahead of i are whole -/
structure Outs (w : World) (O base i : Nat) (f : Nat → Way) : Prop where
  row : ∀ j, j < i → ∃ v, w.cell? ⟨O, j * 2, none⟩ = some (.int .i64 (f j).cost) ∧ w.cell? ⟨O, j * 2 + 1, none⟩ = some v ∧ SlR intR w (fun k => O < k ∧ k < base) v (f j).hops ∧ inR (f j).cost
  there : ∀ o, o < 24 → ∃ u, w.cell? ⟨O, o, none⟩ = some u
  fz : ∀ o, w.frozen? ⟨O, o, none⟩ = false
  lt : O < base
theorem Outs.keep {w w' : World} {O base i : Nat} {f : Nat → Way} (h : Outs w O base i f) (hk : ∀ k, O ≤ k → k < base → w'.heap[k]? = w.heap[k]?) : Outs w' O base i f := by
  have hO := hk O (Nat.le_refl _) h.lt
  refine ⟨fun j hj => ?_, fun o ho => ?_, fun o => (World.frozen?_of_block (w := w) hO).trans (h.fz o), h.lt⟩
  · obtain ⟨v, h1, h2, h3, h4⟩ := h.row j hj
    exact ⟨v, (World.cell?_of_block (w := w) hO).trans h1, (World.cell?_of_block (w := w) hO).trans h2, SlR.keep h3 (fun k hq => hk k (by omega) hq.2) (fun _ hq => hq), h4⟩
  · obtain ⟨u, hu⟩ := h.there o ho
    exact ⟨u, (World.cell?_of_block (w := w) hO).trans hu⟩
theorem Outs.set {w : World} {O base i : Nat} {f : Nat → Way} (h : Outs w O base i f) {o : Nat} (ho : i * 2 ≤ o) (hl : o < 24) (u : Value) : Outs (w.setCell ⟨O, o, none⟩ u) O base i f := by
  refine ⟨fun j hj => ?_, fun p hp => ?_, fun p => by rw [World.frozen?_setCell]; exact h.fz p, h.lt⟩
  · obtain ⟨v, h1, h2, h3, h4⟩ := h.row j hj
    refine ⟨v, ?_, ?_, SlR.keep h3 (fun k hq => Below.heap_setCell _ _ _ _ (by show k ≠ O; omega)) (fun _ hq => hq), h4⟩
    · rw [World.cell?_setCell_other _ _ _ _ (by intro e; injection e with _ e _; omega)]; exact h1
    · rw [World.cell?_setCell_other _ _ _ _ (by intro e; injection e with _ e _; omega)]; exact h2
  · obtain ⟨x, hx⟩ := h.there p hp
    by_cases e : o = p
    · subst e
      exact ⟨u, World.cell?_setCell_same' w _ u (by rw [hx]; rfl)⟩
    · rw [World.cell?_setCell_other _ _ _ _ (by intro e2; injection e2 with _ e2 _; exact e e2)]; exact ⟨x, hx⟩
theorem Outs.step {w : World} {O base base' i : Nat} {f : Nat → Way} (h : Outs w O base i f) {v : Value} (h1 : w.cell? ⟨O, i * 2, none⟩ = some (.int .i64 (f i).cost)) (h2 : w.cell? ⟨O, i * 2 + 1, none⟩ = some v) (h3 : SlR intR w (fun k => O < k ∧ k < base') v (f i).hops) (h4 : inR (f i).cost) (hb : base ≤ base') : Outs w O base' (i + 1) f := by
  refine ⟨fun j hj => ?_, h.there, h.fz, by have := h.lt; omega⟩
  by_cases e : j = i
  · subst e; exact ⟨v, h1, h2, h3, h4⟩
  · obtain ⟨v, g1, g2, g3, g4⟩ := h.row j (by omega)
    exact ⟨v, g1, g2, SlR.keep g3 (fun _ _ => rfl) (fun k hq => ⟨hq.1, by omega⟩), g4⟩
theorem Outs.sl {w : World} {O base c : Nat} {f : Nat → Way} (h : Outs w O base 12 f) (hb : base ≤ w.heap.size) (hc : 12 ≤ c) (hm : c ≤ maxLen) : Sl wayR w (.slice (some ⟨O, 0, none⟩) 12 c) ((List.range 12).map f) := by
  refine ⟨some ⟨O, 0, none⟩, c, by simp, by simp; exact hc, hm, fun i x hx => ?_⟩
  have hi : i < 12 := by
    have := (List.getElem?_eq_some_iff.1 hx).1
    simpa using this
  have hx' : x = f i := by
    rw [List.getElem?_map, List.getElem?_range hi] at hx
    simpa using hx.symm
  subst hx'
  obtain ⟨v, h1, h2, h3, h4⟩ := h.row i hi
  refine ⟨O, 0, [.int .i64 (f i).cost, v], rfl, by have := h.lt; omega, by have := h.lt; omega, ⟨v, rfl, SlR.keep h3 (fun _ _ => rfl) (fun k hq => by omega), h4⟩, fun j u hu => ?_⟩
  match j, hu with
  | 0, hu => simp at hu; subst hu; rw [Nat.zero_add]; exact h1
  | 1, hu => simp at hu; subst hu; rw [Nat.zero_add]; exact h2
  | j + 2, hu => simp at hu
end Go.Proofs.YtlmcipnogodnfaaDoor
