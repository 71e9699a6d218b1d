/-
  A route of an own row laid anew; slices.Insert of a route.
  rib.add, walked.
  Clone of ways; ways held against ways.
  rib.Table, walked.
-/
import Derived.Test.YtcbkimbeljhbhaaGreatDoorGTbC
import Derived.Test.YtcbkimbeljhbhaaGreatDoorGDoS
import Derived.Test.YtcbkimbeljhbhaaGreatDoorGSmI
import Derived.WalkSpells
import Derived.Lib.SliceRun
import Derived.Lib.QuietBelow
set_option linter.unusedVariables false
set_option linter.unusedSimpArgs false
namespace Go.Proofs.YtcbkimbeljhbhaaGreatDoor
open Go Go.RowKit Go.Deep

theorem flat_setK {k : Nat} : ∀ {css : List (List Value)} {i j : Nat} {u : Value}, (∀ x ∈ css, RawK k x) → (hi : i < css.length) → j < k → (css.set i (css[i].set j u)).flatten = css.flatten.set (i * k + j) u
  | [], _, _, _, _, hi, _ => by simp at hi
  | a :: css, 0, j, u, h, _, hj => by
    have ha := (h a (by simp)).1
    simp only [List.set_cons_zero, List.getElem_cons_zero, List.flatten_cons, Nat.zero_mul, Nat.zero_add]
    rw [List.set_append_left _ _ (by omega)]
  | a :: css, i + 1, j, u, h, hi, hj => by
    have ha := (h a (by simp)).1
    simp only [List.set_cons_succ, List.getElem_cons_succ, List.flatten_cons]
    rw [flat_setK (css := css) (fun x hx => h x (by simp [hx])) (by simpa using hi) hj, List.set_append_right _ _ (by rw [Nat.succ_mul]; omega)]
    congr 2
    rw [Nat.succ_mul]; omega
theorem rawK_set {k : Nat} {x : List Value} (h : RawK k x) (j : Nat) {u : Value} (hu : u.oneCell' = true) : RawK k (x.set j u) := by
  refine ⟨by rw [List.length_set]; exact h.1, fun v hv => ?_⟩
  rcases List.mem_or_eq_of_mem_set hv with e | e
  · exact h.2 v e
  · rw [e]; exact hu
/-- one cell of an own row -/
theorem OwR.setRaw {k : Nat} {E base : Nat} {w : World} {g n cap : Nat} {css : List (List Value)} (h : OwR (cellR k) E base w (.slice (some ⟨g, 0, none⟩) n cap) css) {i j : Nat} (hi : i < css.length) (hj : j < k) {u : Value} (hu : u.oneCell' = true) :
    OwR (cellR k) E base (w.setCell ⟨g, i * k + j, none⟩ u) (.slice (some ⟨g, 0, none⟩) n cap) (css.set i (css[i].set j u)) := by
  obtain ⟨h1, h2, h3⟩ := OwR.to_raw h
  have hn : n = css.length := by
    rcases h1.2 with ⟨e, _⟩ | ⟨g', cap', cur, e, _⟩
    · cases e
    · injection e
  subst hn
  obtain ⟨s1, k1⟩ := h1.stored (i * k + j) u
  refine OwR.of_raw ?_ ?_ (Nat.le_trans h3 k1.size)
  · rw [List.length_set, flat_setK h2 hi hj]; exact s1
  · intro x hx
    rcases List.mem_or_eq_of_mem_set hx with e | e
    · exact h2 x e
    · rw [e]; exact rawK_set (h2 _ (List.getElem_mem hi)) j hu
theorem five_set (a b c d e p q r s t : Value) : ((((([a, b, c, d, e].set 0 p).set 1 q).set 2 r).set 3 s).set 4 t) = [p, q, r, s, t] := rfl

/-- a whole route laid anew -/
theorem OwR.setRoute {base : Nat} {w : World} {g n cap : Nat} {xs : List Route} (h : OwR routeR 64 base w (.slice (some ⟨g, 0, none⟩) n cap) xs) {i : Nat} (hi : i < xs.length) {y : Route} {vy : Value}
    (hy : SlR intR w (fun k => k < w.heap.size ∧ k ≠ g) vy y.hops) (hw : y.wf) :
    OwR routeR 64 base (((((w.setCell ⟨g, i * 5, none⟩ (.int .i64 y.pre.addr)).setCell ⟨g, i * 5 + 1, none⟩ (.int .i64 y.pre.bits)).setCell ⟨g, i * 5 + 2, none⟩ (.bool y.here)).setCell ⟨g, i * 5 + 3, none⟩ (.int .i64 y.cost)).setCell ⟨g, i * 5 + 4, none⟩ vy) (.slice (some ⟨g, 0, none⟩) n cap) (xs.set i y) := by
  obtain ⟨css, c1, c2, c3⟩ := h.css
  have hvy : vy.oneCell' = true := by obtain ⟨A, c, rfl, _⟩ := hy; rfl
  have hi' : i < css.length := by omega
  have s0 := c3.setRaw (i := i) (j := 0) hi' (by decide) (u := .int .i64 y.pre.addr) rfl
  have s1 := s0.setRaw (i := i) (j := 1) (by simpa using hi') (by decide) (u := .int .i64 y.pre.bits) rfl
  have s2 := s1.setRaw (i := i) (j := 2) (by simpa using hi') (by decide) (u := .bool y.here) rfl
  have s3 := s2.setRaw (i := i) (j := 3) (by simpa using hi') (by decide) (u := .int .i64 y.cost) rfl
  have s4 := s3.setRaw (i := i) (j := 4) (by simpa using hi') (by decide) (u := vy) hvy
  obtain ⟨_, r2, _⟩ := OwR.to_raw c3
  obtain ⟨a, b, c, d, e, hc⟩ : ∃ a b c d e, css[i] = [a, b, c, d, e] := by
    have := (r2 _ (List.getElem_mem hi')).1
    match css[i], this with
    | [a, b, c, d, e], _ => exact ⟨a, b, c, d, e, rfl⟩
  simp only [List.set_set, List.getElem_set_self, hc, five_set, Nat.add_zero] at s4
  have hblk : ∀ k, k ≠ g → (((((w.setCell ⟨g, i * 5, none⟩ (.int .i64 y.pre.addr)).setCell ⟨g, i * 5 + 1, none⟩ (.int .i64 y.pre.bits)).setCell ⟨g, i * 5 + 2, none⟩ (.bool y.here)).setCell ⟨g, i * 5 + 3, none⟩ (.int .i64 y.cost)).setCell ⟨g, i * 5 + 4, none⟩ vy).heap[k]? = w.heap[k]? := by
    intro k hk
    rw [Below.heap_setCell _ _ _ _ (by exact hk), Below.heap_setCell _ _ _ _ (by exact hk), Below.heap_setCell _ _ _ _ (by exact hk), Below.heap_setCell _ _ _ _ (by exact hk), Below.heap_setCell _ _ _ _ (by exact hk)]
  refine OwR.of_css (css := css.set i [.int .i64 y.pre.addr, .int .i64 y.pre.bits, .bool y.here, .int .i64 y.cost, vy]) (by simp [c1]) (fun m cs x hcs hx => ?_) s4
  have hsz : (((((w.setCell ⟨g, i * 5, none⟩ (.int .i64 y.pre.addr)).setCell ⟨g, i * 5 + 1, none⟩ (.int .i64 y.pre.bits)).setCell ⟨g, i * 5 + 2, none⟩ (.bool y.here)).setCell ⟨g, i * 5 + 3, none⟩ (.int .i64 y.cost)).setCell ⟨g, i * 5 + 4, none⟩ vy).heap.size = w.heap.size := by simp [World.setCell]
  by_cases e : m = i
  · subst e
    rw [List.getElem?_set_self (by omega)] at hcs hx
    injection hcs with hcs; injection hx with hx
    subst hcs hx
    exact ⟨vy, rfl, SlR.keep hy (fun k hk => hblk k hk.2) (fun k hk => ⟨by rw [hsz]; exact hk.1, fun e => by have e2 : g = k := Option.some.inj e; exact hk.2 e2.symm⟩), hw⟩
  · rw [List.getElem?_set_ne (fun x => e x.symm)] at hcs hx
    exact routeR.keep (c2 m cs x hcs hx) (fun k hk => hblk k (fun e2 => hk.2 (by rw [e2]; rfl))) (fun k hk => ⟨by rw [hsz]; exact hk.1, hk.2⟩)
/-- the hops alone -/
theorem OwR.setHops {base : Nat} {w : World} {g n cap : Nat} {xs : List Route} (h : OwR routeR 64 base w (.slice (some ⟨g, 0, none⟩) n cap) xs) {i : Nat} (hi : i < xs.length) {l : List Int} {vy : Value}
    (hy : SlR intR w (fun k => k < w.heap.size ∧ k ≠ g) vy l) :
    OwR routeR 64 base (w.setCell ⟨g, i * 5 + 4, none⟩ vy) (.slice (some ⟨g, 0, none⟩) n cap) (xs.set i { xs[i] with hops := l }) := by
  obtain ⟨css, c1, c2, c3⟩ := h.css
  have hvy : vy.oneCell' = true := by obtain ⟨A, c, rfl, _⟩ := hy; rfl
  have hi' : i < css.length := by omega
  have s4 := c3.setRaw (i := i) (j := 4) hi' (by decide) (u := vy) hvy
  obtain ⟨v0, hc, _, hwf⟩ := c2 i css[i] xs[i] (List.getElem?_eq_getElem hi') (List.getElem?_eq_getElem hi)
  have hset : css[i].set 4 vy = ({ xs[i] with hops := l } : Route).cells vy := by rw [hc]; rfl
  rw [hset] at s4
  refine OwR.of_css (by simp [c1]) (fun m cs x hcs hx => ?_) s4
  have hsz : (w.setCell ⟨g, i * 5 + 4, none⟩ vy).heap.size = w.heap.size := by simp [World.setCell]
  have hblk : ∀ k, k ≠ g → (w.setCell ⟨g, i * 5 + 4, none⟩ vy).heap[k]? = w.heap[k]? := fun k hk => Below.heap_setCell _ _ _ _ (by exact hk)
  by_cases e : m = i
  · subst e
    rw [List.getElem?_set_self (by omega)] at hcs hx
    injection hcs with hcs; injection hx with hx
    subst hcs hx
    exact ⟨vy, rfl, SlR.keep hy (fun k hk => hblk k hk.2) (fun k hk => ⟨by rw [hsz]; exact hk.1, fun e => by have e2 : g = k := Option.some.inj e; exact hk.2 e2.symm⟩), hwf⟩
  · rw [List.getElem?_set_ne (fun x => e x.symm)] at hcs hx
    exact routeR.keep (c2 m cs x hcs hx) (fun k hk => hblk k (fun e2 => hk.2 (by rw [e2]; rfl))) (fun k hk => ⟨by rw [hsz]; exact hk.1, hk.2⟩)

/-- slices.Insert of one route -/
theorem insertRoute_any (v : Value) (xs : List Route) (y : Route) (vy : Value) (i : Nat) (w : World) (vb base : Nat) (h : OwR routeR 64 base w v xs) (hi : i ≤ xs.length) (hl : xs.length ≤ 1000)
    (hvb : w.heap[vb]? = some (.cells (y.cells vy).toArray 64 (0, 0))) (hne : v.ownBlock ≠ some vb) (hy : SlR intR w (fun k => k < w.heap.size ∧ v.ownBlock ≠ some k) vy y.hops) (hw : y.wf) :
    Calls Tryz.prog 58 #[v, .int .i64 (i : Nat), .slice (some ⟨vb, 0, none⟩) 1 1] w fun e w' => ∃ v', e = .returned v' ∧ OwR routeR 64 base w' v' (xs.take i ++ y :: xs.drop i) ∧ GrowTo w v w' v' := by
  obtain ⟨css, c1, c2, c3⟩ := h.css
  have hvy : vy.oneCell' = true := by obtain ⟨A, c, rfl, _⟩ := hy; rfl
  have hraw : RawK 5 (y.cells vy) := ⟨rfl, fun u hu => by
    simp [Route.cells] at hu
    rcases hu with rfl | rfl | rfl | rfl | rfl
    · rfl
    · rfl
    · rfl
    · rfl
    · exact hvy⟩
  refine (insert_anyR v css (y.cells vy) i w vb base c3 (by omega) (by omega) hvb hne hraw).mono ?_
  rintro e w' ⟨v', rfl, ho, hg⟩
  refine ⟨v', rfl, OwR.of_css (by simp [c1]) (fun m cs x hcs hx => ?_) ho, hg⟩
  have hblk : ∀ k, (k < w.heap.size ∧ v.ownBlock ≠ some k) → w'.heap[k]? = w.heap[k]? := fun k hk => hg.grown.block k hk.1 (fun e => hk.2 e.symm)
  have hsub : ∀ k, (k < w.heap.size ∧ v.ownBlock ≠ some k) → (k < w'.heap.size ∧ v'.ownBlock ≠ some k) := fun k hk =>
    ⟨Nat.lt_of_lt_of_le hk.1 hg.grown.size, fun e => by
      rcases hg.own k e with h1 | h1
      · exact hk.2 h1
      · omega⟩
  by_cases h1 : m < i
  · rw [List.getElem?_append_left (by rw [List.length_take]; omega), List.getElem?_take, if_pos h1] at hcs hx
    exact routeR.keep (c2 m cs x hcs hx) hblk hsub
  · rw [List.getElem?_append_right (by rw [List.length_take]; omega), List.length_take, Nat.min_eq_left (by omega)] at hcs hx
    by_cases h2 : m = i
    · subst h2
      rw [Nat.sub_self] at hcs hx
      simp at hcs hx
      subst hcs hx
      exact ⟨vy, rfl, SlR.keep hy hblk hsub, hw⟩
    · obtain ⟨q, hq⟩ : ∃ q, m - i = q + 1 := ⟨m - i - 1, by omega⟩
      rw [hq, List.getElem?_cons_succ, List.getElem?_drop] at hcs hx
      exact routeR.keep (c2 _ cs x hcs hx) hblk hsub
end Go.Proofs.YtcbkimbeljhbhaaGreatDoor

namespace Go.Proofs.YtcbkimbeljhbhaaGreatDoor
open Go Go.RowKit Go.Deep

theorem GoodR.wf {r : Route} (h : GoodR r) : r.wf := by
  have := prefBad_ok h.pre
  have := h.c0
  have := h.c1
  unfold Route.wf inR
  omega
theorem GoodR.len {r : Route} (h : GoodR r) : r.hops.length ≤ 12 := by
  have := h.canon
  unfold Canon at this
  rw [← this]
  exact Nat.le_trans (List.length_filter_le _ _) (by decide)
def AddPost (base : Nat) (w : World) (v : Value) (ys : List Route) (e : Ending) (w' : World) : Prop :=
  ∃ v', e = .returned v' ∧ OwR routeR 64 base w' v' ys ∧ GrowTo w v w' v'
theorem GrowTo.set (w : World) {v : Value} {g : Nat} (hv : v.ownBlock = some g) (o : Nat) (u : Value) : GrowTo w v (w.setCell ⟨g, o, none⟩ u) v := ⟨by rw [hv]; exact grown_setCell w ⟨g, o, none⟩ u, fun _ h => .inl h⟩
theorem grow5 (w : World) {v : Value} {g : Nat} (hv : v.ownBlock = some g) (a b c d e : Nat) (p q r s t : Value) : GrowTo w v (((((w.setCell ⟨g, a, none⟩ p).setCell ⟨g, b, none⟩ q).setCell ⟨g, c, none⟩ r).setCell ⟨g, d, none⟩ s).setCell ⟨g, e, none⟩ t) v :=
  ((((GrowTo.set w hv a p).trans (GrowTo.set _ hv b q)).trans (GrowTo.set _ hv c r)).trans (GrowTo.set _ hv d s)).trans (GrowTo.set _ hv e t)
theorem routeForm2 {r : Route} {v : Value} : (r.cells v).toArray = #[.int .i64 r.pre.addr, .int .i64 r.pre.bits, .bool r.here, .int .i64 r.cost, v] := rfl


set_option maxRecDepth 100000 in
set_option maxHeartbeats 2000000 in
theorem add_any (v : Value) (xs : List Route) (r : Route) (vh : Value) (base : Nat) (w : World) (h : OwR routeR 64 base w v xs) (hs : SortedR xs) (hg : ∀ x ∈ xs, GoodR x) (hr : GoodR r)
    (hh : SlR intR w (fun k => k < w.heap.size ∧ v.ownBlock ≠ some k) vh r.hops) (hl : xs.length ≤ 1000) :
    Calls Tryz.prog 26 #[v, r.agg vh] w (AddPost base w v (addR xs r)) := by
  obtain ⟨A, c, rfl⟩ := h.form
  obtain ⟨Av, nv, cv, rfl⟩ : ∃ A n c, vh = .slice A n c := by obtain ⟨A, c, e, _⟩ := hh; exact ⟨A, _, c, e⟩
  have hbase : base ≤ w.heap.size := h.choose_spec.2.2.2
  have hal := (Below.refl w.heap.size w).alloc (Nat.le_refl _) (.cells #[.int .i64 r.pre.addr, .int .i64 r.pre.bits, .bool r.here, .int .i64 r.cost, .slice Av nv cv] 64)
  have ho1 := h.keep hal
  have hbs := bsearchRA_any _ xs r.pre _ (ho1.sl (by decide)) hs (fun x hx => (hg x hx).pre) hr.pre (by omega)
  have HBS := Go.Lib.hid hbs
  have HAL := Go.Lib.hid hal
  have HO := Go.Lib.hid h
  have HS := Go.Lib.hid hs
  have HG := Go.Lib.hid hg
  have HR := Go.Lib.hid hr
  have HH := Go.Lib.hid hh
  clear h hs hg hr hh hal ho1 hbs
  unfold Route.agg
  rcases hp : hasP xs r.pre with _ | _
  · rw [hp] at HBS
    have HP := Go.Lib.hid hp
    clear hp
    go_enter Tryz.func26, Tryz.ntmps26
    go_wp2_with fail
    refine HBS.out.mono ?_
    rintro e w1 ⟨rfl, hb1⟩
    obtain ⟨hA, hN, hM, hSZ⟩ := pastAlloc hb1
    have b0 := hN 0
    have b1 := hN 1
    have b2 := hN 2
    have b3 := hN 3
    have b4 := hN 4
    simp only [List.getElem?_toArray, List.getElem?_cons_zero, List.getElem?_cons_succ] at b0 b1 b2 b3 b4
    have HA := Go.Lib.hid hA
    have HO1 := Go.Lib.hid (HO.out.keep hA)
    have HH1 := Go.Lib.hid (SlR.keep (S' := fun k => k < w1.heap.size ∧ (Value.slice A xs.length c).ownBlock ≠ some k) HH.out (fun k hk => hA.block k hk.1) (fun k hk => ⟨Nat.lt_of_lt_of_le hk.1 hA.size, hk.2⟩))
    have HG1 := Go.Lib.hid (GrowTo.of_below hA (Value.slice A xs.length c))
    clear hb1 hN hM hSZ hA
    go_wp2_with fail
    have hal2 := (Below.refl w1.heap.size w1).alloc (Nat.le_refl _) (.cells #[.int .i64 r.pre.addr, .int .i64 r.pre.bits, .bool r.here, .int .i64 r.cost, .slice Av nv cv] 64)
    have HIN := Go.Lib.hid (insertRoute_any _ xs r (.slice Av nv cv) (lbP xs r.pre) _ w1.heap.size base (HO1.out.keep hal2) (tw_le _ xs) hl (heap_alloc_new w1 _) (fun e => by have := (HO1.out.base_le _ e).2; omega) (SlR.keep (S' := fun k => k < (w1.alloc (.cells #[.int .i64 r.pre.addr, .int .i64 r.pre.bits, .bool r.here, .int .i64 r.cost, .slice Av nv cv] 64)).heap.size ∧ (Value.slice A xs.length c).ownBlock ≠ some k) HH1.out (fun k hk => hal2.block k hk.1) (fun k hk => ⟨Nat.lt_of_lt_of_le hk.1 hal2.size, hk.2⟩)) HR.out.wf)
    have HG2 := Go.Lib.hid (HG1.out.trans (GrowTo.of_below hal2 (Value.slice A xs.length c)))
    have HAD := Go.Lib.hid (addR_no HS.out HP.out)
    clear hal2 b0 b1 b2 b3 b4
    refine HIN.out.mono ?_
    rintro e w3 ⟨v3, rfl, ho3, hg3⟩
    have HO3 := Go.Lib.hid ho3
    have HG3 := Go.Lib.hid hg3
    clear ho3 hg3
    go_wp2_with fail
    go_ret
    exact ⟨v3, rfl, by rw [HAD.out]; exact HO3.out, HG2.out.trans HG3.out⟩
  · rw [hp] at HBS
    obtain ⟨hlt, hpre, hadd⟩ := addR_yes HS.out hp
    obtain ⟨i, hi⟩ : ∃ i, i = lbP xs r.pre := ⟨_, rfl⟩
    simp only [← hi] at hlt hpre hadd
    rw [← hi] at HBS
    obtain ⟨x, hx⟩ : ∃ x, x = xs[i] := ⟨_, rfl⟩
    rw [← hx] at hpre hadd
    have HX := Go.Lib.hid hx
    have HPR := Go.Lib.hid hpre
    have HAD := Go.Lib.hid hadd
    have HGX := Go.Lib.hid (show GoodR x by rw [hx]; exact HG.out _ (List.getElem_mem hlt))
    clear hp hpre hadd hx hi
    go_enter Tryz.func26, Tryz.ntmps26
    go_wp2_with fail
    refine HBS.out.mono ?_
    rintro e w1 ⟨rfl, hb1⟩
    obtain ⟨hA, hN, hM, hSZ⟩ := pastAlloc hb1
    have b0 := hN 0
    have b1 := hN 1
    have b2 := hN 2
    have b3 := hN 3
    have b4 := hN 4
    simp only [List.getElem?_toArray, List.getElem?_cons_zero, List.getElem?_cons_succ] at b0 b1 b2 b3 b4
    have HO1 := Go.Lib.hid (HO.out.keep hA)
    have HH1 := Go.Lib.hid (SlR.keep (S' := fun k => k < w1.heap.size ∧ (Value.slice A xs.length c).ownBlock ≠ some k) HH.out (fun k hk => hA.block k hk.1) (fun k hk => ⟨Nat.lt_of_lt_of_le hk.1 hA.size, hk.2⟩))
    have HG1 := Go.Lib.hid (GrowTo.of_below hA (Value.slice A xs.length c))
    have hsl := HO1.out.sl (by decide)
    have HBW := Go.Lib.hid hSZ
    clear hb1 hN hM hSZ hA HBS
    obtain ⟨g, hgA, hown, hgw, hfz⟩ : ∃ g, A = some ⟨g, 0, none⟩ ∧ base ≤ g ∧ g < w1.heap.size ∧ (∀ j, w1.frozen? ⟨g, j, none⟩ = false) := by
      obtain ⟨css, c1, _, c3, _⟩ := HO1.out
      rcases c3.2 with ⟨_, h0⟩ | ⟨g, cap, cur, e, hbg, hgc, _⟩
      · omega
      · injection e with e1 _ _
        subst e1
        exact ⟨g, rfl, hbg, (c3.lt g rfl).2, fun j => c3.frozenAt j⟩
    subst hgA
    obtain ⟨vx, f1, f2, f3, f4, f5, hs5, _⟩ := hsl.route hlt
    rw [← HX.out] at f1 f2 f3 f4 hs5
    have HS5 := Go.Lib.hid hs5
    have hii : (i : Int) < (xs.length : Int) := by omega
    have hi0 : (0 : Int) ≤ (i : Int) := Int.natCast_nonneg i
    simp only [Nat.zero_add] at f1 f2 f3 f4 f5
    clear hsl hs5
    rcases hrh : r.here with _ | _
    · rw [hrh] at b2
      have HRH := Go.Lib.hid hrh
      rcases hxh : x.here with _ | _
      · rw [hxh] at f3
        by_cases hc1 : r.cost < x.cost
        · have HU := Go.Lib.hid (show updR x r = r by unfold updR; rw [hrh, hxh, if_pos (by simp [hc1])])
          clear hrh hxh
          go_wp2_with fail
          go_quiet (fail)
          obtain ⟨q1, rfl⟩ : ∃ m, m = nq := ⟨nq, rfl⟩
          have HRT := Go.Lib.hid (OwR.setRoute (w := w1.drewN q1) (y := r) (vy := .slice Av nv cv) (HO1.out.keep (bDrewN (Below.refl w1.heap.size w1) q1)) hlt (SlR.keep HH1.out (fun _ _ => rfl) (fun k hk => ⟨hk.1, fun e => hk.2 (by rw [e]; rfl)⟩)) HR.out.wf)
          rw [HRH.out] at HRT
          go_wp2_with fail
          go_ret
          exact ⟨_, rfl, by rw [HAD.out, HU.out]; exact HRT.out, (HG1.out.trans (GrowTo.of_below (bDrewN (Below.refl w1.heap.size w1) q1) _)).trans (grow5 _ rfl _ _ _ _ _ _ _ _ _ _)⟩
        · by_cases hc2 : r.cost = x.cost
          · have HU := Go.Lib.hid (show updR x r = { x with hops := joinS x.hops r.hops } by unfold updR; rw [hrh, hxh, if_neg (by simp [hc1]), if_pos (by simp [hc2])])
            clear hrh hxh
            have hlb := HR.out.len
            have hlx := HGX.out.len
            have HJ := Go.Lib.hid (fun w' (hb : Below w1.heap.size w1 w') => joined_any vx (.slice Av nv cv) x.hops r.hops w' (HS5.out.below hb) (SlR.keep (S' := fun k => k < w'.heap.size) HH1.out (fun k hk => hb.block k hk.1) (fun k hk => Nat.lt_of_lt_of_le hk.1 hb.size)) (canon_in HGX.out.canon) (canon_in HR.out.canon) (by omega) (by omega))
            clear hlb hlx
            go_wp2_with fail
            go_quiet (fail)
            obtain ⟨q1, rfl⟩ : ∃ m, m = nq := ⟨nq, rfl⟩
            go_wp2_with fail
            go_quiet (fail)
            obtain ⟨q2, rfl⟩ : ∃ m, m = nq := ⟨nq, rfl⟩
            have hbq := bDrewN (bDrewN (Below.refl w1.heap.size w1) q1) q2
            have f5' := cell_keep hbq f5
            have b4' := cell_keep hbq b4
            have HBQ := Go.Lib.hid hbq
            have HFZ := Go.Lib.hid hfz
            have hgz : g < ((w1.drewN q1).drewN q2).heap.size := hgw
            generalize (w1.drewN q1).drewN q2 = W2 at HBQ f5' b4' hgz ⊢
            have HGZ := Go.Lib.hid hgz
            have HGW := Go.Lib.hid hgw
            clear hbq f1 f2 f3 f4 f5 b0 b1 b2 b3 b4 hfz hgz hgw
            go_wp2_with fail
            go_region_with (go_at_call 65; refine (HJ.out _ HBQ.out.drew).mono ?_; rintro e w4 ⟨v4, rfl, ho4, hb4⟩; obtain ⟨A4, n4, c4, rfl⟩ := ow_form ho4 (by decide); have HB4 := Go.Lib.hid (HBQ.out.drew.trans (hb4.mono HBQ.out.size)); have z1 := (bAt HB4.out HGW.out (i * 5 + 4)).trans (by first | exact f5 | exact (bAt HBQ.out HGW.out (i * 5 + 4)).symm.trans f5'); have z2 := (bFz HB4.out HGW.out (i * 5 + 4)).trans (HFZ.out _); have HO4 := Go.Lib.hid ho4; have HZ4 := Go.Lib.hid (show W2.heap.size ≤ W2.drew.heap.size from Nat.le_refl _); clear hb4 ho4)
            all_goals
              have hsh := SlR.keep (S' := fun k => k < w4.heap.size ∧ k ≠ g) HO4.out.slF (fun _ _ => rfl) (fun k hk => ⟨hk.1, by have h1 := hk.2; have h2 := HZ4.out; have h3 := HGZ.out; omega⟩)
              have HRT := Go.Lib.hid ((HO1.out.keep HB4.out).setHops hlt hsh)
              rw [← HX.out] at HRT
              clear hsh
              go_wp2_with fail
              go_ret
              exact ⟨_, rfl, by rw [HAD.out, HU.out]; exact HRT.out, (HG1.out.trans (GrowTo.of_below HB4.out _)).trans (GrowTo.set _ rfl _ _)⟩
          · have hcb : (r.cost == x.cost) = false := by rw [beq_eq_false_iff_ne]; exact hc2
            have HU := Go.Lib.hid (show updR x r = x by unfold updR; rw [hrh, hxh, if_neg (by simp; omega), if_neg (by simp [hc2])])
            clear hrh hxh
            have HFX := Go.Lib.hid (show xs.set i (updR x r) = xs by rw [HU.out, HX.out]; exact List.set_getElem_self hlt)
            go_wp2_with fail
            go_quiet (fail)
            obtain ⟨q1, rfl⟩ : ∃ m, m = nq := ⟨nq, rfl⟩
            go_wp2_with fail
            go_quiet (fail)
            obtain ⟨q2, rfl⟩ : ∃ m, m = nq := ⟨nq, rfl⟩
            go_wp2_with fail
            go_ret
            exact ⟨_, rfl, by rw [HAD.out, HFX.out]; exact HO1.out.keep (bDrewN (bDrewN (Below.refl w1.heap.size w1) q1) q2), HG1.out.trans (GrowTo.of_below (bDrewN (bDrewN (Below.refl w1.heap.size w1) q1) q2) _)⟩
      · rw [hxh] at f3
        have HU := Go.Lib.hid (show updR x r = x by unfold updR; rw [hrh, hxh, if_neg (by simp), if_neg (by simp)])
        clear hrh hxh
        have HFX := Go.Lib.hid (show xs.set i (updR x r) = xs by rw [HU.out, HX.out]; exact List.set_getElem_self hlt)
        go_wp2_with fail
        go_quiet (fail)
        obtain ⟨q1, rfl⟩ : ∃ m, m = nq := ⟨nq, rfl⟩
        go_wp2_with fail
        go_quiet (fail)
        obtain ⟨q2, rfl⟩ : ∃ m, m = nq := ⟨nq, rfl⟩
        go_wp2_with fail
        go_ret
        exact ⟨_, rfl, by rw [HAD.out, HFX.out]; exact HO1.out.keep (bDrewN (bDrewN (Below.refl w1.heap.size w1) q1) q2), HG1.out.trans (GrowTo.of_below (bDrewN (bDrewN (Below.refl w1.heap.size w1) q1) q2) _)⟩
    · rw [hrh] at b2
      have HRH := Go.Lib.hid hrh
      have HU := Go.Lib.hid (show updR x r = r by unfold updR; rw [hrh]; simp)
      clear hrh
      go_wp2_with fail
      go_quiet (fail)
      obtain ⟨q1, rfl⟩ : ∃ m, m = nq := ⟨nq, rfl⟩
      have HRT := Go.Lib.hid (OwR.setRoute (w := w1.drewN q1) (y := r) (vy := .slice Av nv cv) (HO1.out.keep (bDrewN (Below.refl w1.heap.size w1) q1)) hlt (SlR.keep HH1.out (fun _ _ => rfl) (fun k hk => ⟨hk.1, fun e => hk.2 (by rw [e]; rfl)⟩)) HR.out.wf)
      rw [HRH.out] at HRT
      go_wp2_with fail
      go_ret
      exact ⟨_, rfl, by rw [HAD.out, HU.out]; exact HRT.out, (HG1.out.trans (GrowTo.of_below (bDrewN (Below.refl w1.heap.size w1) q1) _)).trans (grow5 _ rfl _ _ _ _ _ _ _ _ _ _)⟩
end Go.Proofs.YtcbkimbeljhbhaaGreatDoor

namespace Go.Proofs.YtcbkimbeljhbhaaGreatDoor
open Go Go.RowKit Go.Deep

set_option maxHeartbeats 1000000 in
theorem cloneW_any (v : Value) (xs : List Way) (w : World) (h : Sl wayR w v xs) (hl : xs.length ≤ 1000000) :
    Calls Tryz.prog 38 #[v] w fun e w' => ∃ v', e = .returned v' ∧ OwR wayR 37 w.heap.size w' v' xs ∧ Below w.heap.size w w' := by
  have q1 := fun (wx : World) (a : Option Addr) (n c : Nat) => Lib.run_eql_slice_nil (P := Tryz.prog) wx 32 37 a n c 0 0 Tryz.underlying32
  obtain ⟨A, c, rfl⟩ := h.form
  have H := Go.Lib.hid h
  clear h
  rcases A with _ | ad
  · have hx : xs = [] := by
      rcases Nat.eq_zero_or_pos xs.length with h0 | h0
      · exact List.eq_nil_of_length_eq_zero h0
      · obtain ⟨_, _, h, _⟩ := H.out.at_ h0; cases h
    subst hx
    go_enter Tryz.func38, Tryz.ntmps38
    go_wp2_with fail
    go_ret
    exact ⟨_, rfl, OwR.nil _ _ (Nat.le_refl _), Below.refl _ _⟩
  · have hB0 : Below w.heap.size w (w.alloc (.cells #[] 37)) := (Below.refl _ _).alloc (Nat.le_refl _) _
    have hown : OwR wayR 37 w.heap.size (w.alloc (.cells #[] 37)) (.slice (some ⟨w.heap.size, 0, none⟩) 0 0) [] := ⟨[], rfl, fun i cs x h => by simp at h, World.ownsRow_made w #[] 0 (Nat.le_refl _) (Nat.zero_le _) (by simp), by simp⟩
    have H1 := Go.Lib.hid (SlR.keep (S' := fun k => k < w.heap.size) H.out (fun k hk => hB0.block k hk) (fun k hk => hk))
    have HB0 := Go.Lib.hid hB0
    have HO := Go.Lib.hid hown
    have HSS := Go.Lib.hid (fun (cs : List Value) (y : Way) (h : wayR.holds (w.alloc (.cells #[] 37)) (fun k => k < w.heap.size) cs y) => wayR.keep (S' := fun k => k < (w.alloc (.cells #[] 37)).heap.size ∧ (Value.slice (some ⟨w.heap.size, 0, none⟩) 0 0).ownBlock ≠ some k) h (fun _ _ => rfl) (fun k hk => ⟨Nat.lt_of_lt_of_le hk hB0.size, fun e => by have e2 : w.heap.size = k := Option.some.inj e; omega⟩))
    clear hB0 hown
    go_enter Tryz.func38, Tryz.ntmps38
    go_wp2_with (at_builtin; refine wpList_own_append (base := w.heap.size) rfl _ _ rfl elt_way HO.out H1.out rfl rfl HSS.out (by simp; unfold maxLen; omega) (by simp; omega) ?_; intro v1 w1 ho1 hg1 hb1)
    go_ret
    exact ⟨v1, rfl, ho1, HO.out.below_grown HB0.out hg1⟩

theorem sizes_of {xs : List Entry} (h : checkS xs = 0) : ∀ e ∈ xs, e.key.size < 4294967281 ∧ e.value.size < 4294967281 := by
  intro e he
  have h1 := (okS_of h).ok e he
  unfold entryOk keyOk at h1
  simp only [Bool.and_eq_true, decide_eq_true_eq] at h1
  omega
theorem gph_there (w : World) (B : Nat) (hB : B = w.heap.size) (T : TypeId) : (w.alloc (.cells Tryz.zeroCells74 T)).there B 0 168 := by
  intro j hj
  rw [Nat.zero_add]
  refine ⟨?_, World.frozen?_alloc_at _ _ _ _ hB⟩
  rw [World.cell?_alloc_at _ _ _ _ hB, ← Array.getElem?_toList, zero_gph]
  rw [List.getElem?_eq_getElem (by rw [zlen]; exact hj)]; rfl

set_option maxRecDepth 50000 in
set_option maxHeartbeats 2000000 in
/-- the graph of a good store, read and looked through -/
theorem gwaysTop_any (v : Value) (xs : List Entry) (f : Int) (w : World) (h : Sl entR w v xs) (hf : inR f) (hE : Env w) :
    Calls Tryz.prog 13 #[v, .int .i64 f] w (WaysPost (waysS xs f) w) := by
  have HC := Go.Lib.hid (check_any v xs w h)
  obtain ⟨A, c, rfl⟩ := h.form
  have H := Go.Lib.hid h
  have HE := Go.Lib.hid hE
  unfold inR at hf
  clear h hE
  by_cases hc : checkS xs = 0
  · have hc0 : (checkS xs != 0) = false := by simp [hc]
    by_cases h0 : f < 0
    · have HW := Go.Lib.hid (show waysS xs f = ([], 2) by
        unfold waysS; rw [if_neg (by simp [hc]), if_neg]; simp; omega)
      clear hc
      go_enter Tryz.func13, Tryz.ntmps13
      go_wp2_with (go_at_call 23; refine HC.out.mono ?_; rintro e w1 ⟨rfl, hb1⟩)
      go_ret2
      exact w_fin HW.out (Sl.nil _ _) hb1
    · by_cases h11 : 11 < f
      · have HW := Go.Lib.hid (show waysS xs f = ([], 2) by
          unfold waysS; rw [if_neg (by simp [hc]), if_neg]; simp; omega)
        have h12 : 12 ≤ f := by omega
        clear hc
        go_enter Tryz.func13, Tryz.ntmps13
        go_wp2_with (go_at_call 23; refine HC.out.mono ?_; rintro e w1 ⟨rfl, hb1⟩)
        go_ret2
        exact w_fin HW.out (Sl.nil _ _) hb1
      · obtain ⟨s, rfl, hs⟩ : ∃ s : Nat, f = s ∧ s < 12 := ⟨f.toNat, by omega, by omega⟩
        have HW := Go.Lib.hid (show waysS xs s = (waysTo xs s 12, 0) by
          unfold waysS; rw [if_neg (by simp [hc]), if_pos (by simp; omega)]; rfl)
        have HCK := Go.Lib.hid hc
        have h12 : ¬ (12 : Int) ≤ (s : Int) := by omega
        clear hc
        go_enter Tryz.func13, Tryz.ntmps13
        go_wp2_with (go_at_call 23; refine HC.out.mono ?_; rintro e w1 ⟨rfl, hb1⟩; have HB1 := Go.Lib.hid hb1; clear hb1)
        have HG1 := Go.Lib.hid (gread_any (.slice A xs.length c) xs w1.heap.size w1 (w1.alloc (.cells Tryz.zeroCells74 74)) (H.out.below HB1.out) (sizes_of HCK.out) (HE.out.below HB1.out) ((Below.refl _ _).alloc (Nat.le_refl _) _) (Nat.le_refl _) (gph_there w1 _ rfl _) (by simp) (fun o => World.frozen?_alloc_at _ _ _ _ rfl))
        refine HG1.out.mono ?_
        rintro e w2 ⟨rfl, hg2, hb2⟩
        have HG2 := Go.Lib.hid hg2
        have HB2 := Go.Lib.hid hb2
        have HLT := Go.Lib.hid hg2.lt
        obtain ⟨G, hG⟩ : ∃ G, G = w1.heap.size := ⟨_, rfl⟩
        rw [← hG] at HG2 HLT
        rw [← hG]
        clear hg2 hb2 HG1 hG
        obtain ⟨gl1, gl2⟩ := graphS_links HCK.out
        have HG3 := Go.Lib.hid (HG2.out.eq (g' := ⟨fun a b => (linkC xs a b : Nat), fun a => (adjAt xs a).1, (graphS xs).P⟩) (fun a b ha hb => (gl1 a b ha hb).symm) (fun a ha => (gl2 a ha).symm) (fun _ _ => rfl))
        have HGW := Go.Lib.hid (gways_any w2.heap.size G ⟨fun a b => (linkC xs a b : Nat), fun a => (adjAt xs a).1, (graphS xs).P⟩ (fun a b => linkC xs a b) s w2 ⟨HG3.out, HLT.out, rfl, fun _ _ _ _ => rfl, fun a b => linkC_le xs a b⟩ hs)
        clear gl1 gl2
        go_wp2_with fail
        refine HGW.out.mono ?_
        rintro e w3 ⟨v3, st, R, rfl, hs3, hb3, hi, hc, hh⟩
        have HS3 := Go.Lib.hid hs3
        have HB3 := Go.Lib.hid hb3
        have HEQ := Go.Lib.hid (show (List.range 12).map (outW st) = waysTo xs s 12 by
          refine List.map_congr_left (fun q hq => ?_)
          exact ways_agree hs (fun a b => rfl) (fun a => rfl) hi hc hh (List.mem_range.1 hq))
        clear hs3 hb3 hi hc hh HGW
        go_wp2_with (go_at_call 38; refine (cloneW_any v3 _ w3 HS3.out (by simp)).mono ?_; rintro e w4 ⟨v4, rfl, ho4, hb4⟩; have HO4 := Go.Lib.hid ho4; have HB4 := Go.Lib.hid hb4; clear ho4 hb4)
        go_ret2
        exact w_fin HW.out (by rw [← HEQ.out]; exact HO4.out.sl (by decide)) (((HB1.out.trans (HB2.out.mono HB1.out.size)).trans (HB3.out.mono (by have := HB1.out.size; have := HB2.out.size; omega))).trans (HB4.out.mono (by have := HB1.out.size; have := HB2.out.size; have := HB3.out.size; omega)))
  · have hc0 : (checkS xs != 0) = true := by simp [hc]
    have HW := Go.Lib.hid (show waysS xs f = ([], checkS xs) by unfold waysS; rw [if_pos hc])
    clear hc
    go_enter Tryz.func13, Tryz.ntmps13
    go_wp2_with (go_at_call 23; refine HC.out.mono ?_; rintro e w1 ⟨rfl, hb1⟩)
    go_ret2
    exact w_fin HW.out (Sl.nil _ _) hb1
end Go.Proofs.YtcbkimbeljhbhaaGreatDoor

namespace Go.Proofs.YtcbkimbeljhbhaaGreatDoor
open Go Go.RowKit Go.Deep

def tableS (xs : List Entry) (f : Int) : List Route × Int := if checkS xs ≠ 0 then ([], checkS xs) else if decide (0 ≤ f) && decide (f ≤ 11) then (tabTo xs f.toNat 12, 0) else ([], 2)
def TabPost (r : List Route × Int) (w : World) (e : Ending) (w' : World) : Prop := ∃ v, e = .returned (.tuple #[v, .int .i64 r.2]) ∧ OwR routeR 64 w.heap.size w' v r.1 ∧ Below w.heap.size w w'
theorem tb_fin {r : List Route × Int} {w w' : World} {v : Value} {l : List Route} {n : Int} (h : r = (l, n)) (hs : OwR routeR 64 w.heap.size w' v l) (hb : Below w.heap.size w w') : TabPost r w (.returned (.tuple #[v, .int .i64 n])) w' := ⟨v, by rw [h], by rw [h]; exact hs, hb⟩

theorem owR5_form {E base : Nat} {w : World} {v : Value} {xs : List Route} (h : OwR routeR E base w v xs) : ∃ A n c, v = .slice A n c := by
  obtain ⟨A, c, e⟩ := h.form
  exact ⟨A, _, c, e⟩
theorem below_grow {B : Nat} {a w w' : World} {v v' : Value} {E : TypeId} {xs : List Route} (h : Below B a w) (ho : OwR routeR E B w v xs) (hg : GrowTo w v w' v') : Below B a w' :=
  h.grown hg.grown ho.choose_spec.2.2.2 (fun k hk => (ho.base_le k hk).1)
theorem waysTo_at {xs : List Entry} {s n k : Nat} (h : k < (waysTo xs s n).length) : (waysTo xs s n)[k] = wayTo xs s k := by simp [waysTo]

set_option maxRecDepth 50000 in
set_option maxHeartbeats 4000000 in
theorem table_any (v : Value) (xs : List Entry) (f : Int) (w : World) (h : Sl entR w v xs) (hf : inR f) (hE : Env w) :
    Calls Tryz.prog 8 #[v, .int .i64 f] w (TabPost (tableS xs f) w) := by
  have HC := Go.Lib.hid (check_any v xs w h)
  obtain ⟨A, c, rfl⟩ := h.form
  have H := Go.Lib.hid h
  have HE := Go.Lib.hid hE
  unfold inR at hf
  clear h hE
  by_cases hc : checkS xs = 0
  · have hc0 : (checkS xs != 0) = false := by simp [hc]
    by_cases h0 : f < 0
    · have HW := Go.Lib.hid (show tableS xs f = ([], 2) by
        unfold tableS; rw [if_neg (by simp [hc]), if_neg]; simp; omega)
      clear hc
      go_enter Tryz.func8, Tryz.ntmps8
      go_wp2_with (go_at_call 23; refine HC.out.mono ?_; rintro e w1 ⟨rfl, hb1⟩)
      go_ret2
      exact tb_fin HW.out (OwR.nil _ _ hb1.size) hb1
    · by_cases h11 : 11 < f
      · have HW := Go.Lib.hid (show tableS xs f = ([], 2) by
          unfold tableS; rw [if_neg (by simp [hc]), if_neg]; simp; omega)
        have h12 : 12 ≤ f := by omega
        clear hc
        go_enter Tryz.func8, Tryz.ntmps8
        go_wp2_with (go_at_call 23; refine HC.out.mono ?_; rintro e w1 ⟨rfl, hb1⟩)
        go_ret2
        exact tb_fin HW.out (OwR.nil _ _ hb1.size) hb1
      · obtain ⟨s, rfl, hs⟩ : ∃ s : Nat, f = s ∧ s < 12 := ⟨f.toNat, by omega, by omega⟩
        have HW := Go.Lib.hid (show tableS xs s = (tabTo xs s 12, 0) by
          unfold tableS; rw [if_neg (by simp [hc]), if_pos (by simp; omega)]; rfl)
        have HCK := Go.Lib.hid hc
        have h12 : ¬ (12 : Int) ≤ (s : Int) := by omega
        clear hc
        go_enter Tryz.func8, Tryz.ntmps8
        go_wp2_with (go_at_call 23; refine HC.out.mono ?_; rintro e w1 ⟨rfl, hb1⟩; have HB1 := Go.Lib.hid hb1; clear hb1)
        have HG1 := Go.Lib.hid (gread_any (.slice A xs.length c) xs w1.heap.size w1 (w1.alloc (.cells Tryz.zeroCells74 74)) (H.out.below HB1.out) (sizes_of HCK.out) (HE.out.below HB1.out) ((Below.refl _ _).alloc (Nat.le_refl _) _) (Nat.le_refl _) (gph_there w1 _ rfl _) (by simp) (fun o => World.frozen?_alloc_at _ _ _ _ rfl))
        refine HG1.out.mono ?_
        rintro e w2 ⟨rfl, hg2, hb2⟩
        have HG2 := Go.Lib.hid hg2
        have HB2 := Go.Lib.hid hb2
        have HLT := Go.Lib.hid hg2.lt
        obtain ⟨G, hG⟩ : ∃ G, G = w1.heap.size := ⟨_, rfl⟩
        rw [← hG] at HG2 HLT
        rw [← hG]
        have HGB := Go.Lib.hid (show w.heap.size ≤ G by rw [hG]; exact HB1.out.size)
        clear hg2 hb2 HG1 hG
        obtain ⟨gl1, gl2⟩ := graphS_links HCK.out
        have HG3 := Go.Lib.hid (HG2.out.eq (g' := ⟨fun a b => (linkC xs a b : Nat), fun a => (adjAt xs a).1, fun a => prefsAt xs a⟩) (fun a b ha hb => (gl1 a b ha hb).symm) (fun a ha => (gl2 a ha).symm) (fun a ha => (graphS_prefs HCK.out a ha).symm))
        have HGW := Go.Lib.hid (gways_any w2.heap.size G ⟨fun a b => (linkC xs a b : Nat), fun a => (adjAt xs a).1, fun a => prefsAt xs a⟩ (fun a b => linkC xs a b) s w2 ⟨HG3.out, HLT.out, rfl, fun _ _ _ _ => rfl, fun a b => linkC_le xs a b⟩ hs)
        clear gl1 gl2 HG2
        go_wp2_with fail
        refine HGW.out.mono ?_
        rintro e w3 ⟨v3, st, R, rfl, hs3, hb3, hi, hcv, hh⟩
        rw [show (List.range 12).map (outW st) = waysTo xs s 12 from List.map_congr_left (fun q hq => ways_agree hs (fun a b => rfl) (fun a => rfl) hi hcv hh (List.mem_range.1 hq))] at hs3
        have HB3 := Go.Lib.hid ((HB1.out.trans (HB2.out.mono HB1.out.size)).trans (hb3.mono (by have := HB1.out.size; have := HB2.out.size; omega)))
        have HG4 := Go.Lib.hid (HG3.out.below hb3)
        obtain ⟨A3, c3, hv3⟩ := hs3.form
        rw [waysTo_len] at hv3
        subst hv3
        have HS3 := Go.Lib.hid hs3
        clear hs3 hb3 hi hcv hh HGW HG3 HLT HB1 HB2
        go_wp2_with fail
        go_loopw [8, 33] (fun o i wr => ∃ k : Nat, k ≤ 12 ∧ i = .int .i64 k ∧ OwR routeR 64 w3.heap.size wr o (tabTo xs s k) ∧ Below w3.heap.size w3 wr) (fun _ i _ => 12 - (intOf i).toNat)
        case atStart => exact ⟨0, Nat.zero_le _, rfl, OwR.nil _ _ (Nat.le_refl _), Below.refl _ _⟩
        case round =>
          obtain ⟨k, hk, rfl, ho, hb⟩ := hrel
          have HO := Go.Lib.hid ho
          have HB := Go.Lib.hid hb
          clear ho hb
          by_cases hlt : k < 12
          · have hki : (k : Int) < 12 := by omega
            have hk0 : (0 : Int) ≤ (k : Int) := Int.natCast_nonneg k
            obtain ⟨bw, offw, rfl, hbw⟩ := HS3.out.at_ (by rw [waysTo_len]; exact hlt)
            obtain ⟨vh, g1, g2, f3, f4⟩ := HS3.out.way (k := k) (by rw [waysTo_len]; exact hlt)
            rw [waysTo_at] at g1 f3 f4
            have f1 := cell_keep HB.out g1
            have f2 := cell_keep HB.out g2
            clear g1 g2
            have HF3 := Go.Lib.hid f3
            obtain ⟨Ah, nh, ch, rfl⟩ : ∃ A n c, vh = .slice A n c := by obtain ⟨A, c, e⟩ := f3.form; exact ⟨A, _, c, e⟩
            obtain ⟨vp, p1, p2⟩ := HG4.out.prf k hlt
            have HPF := Go.Lib.hid (show Sl prefR w3 vp (prefsAt xs k) from SlF.sl p2)
            obtain ⟨Ap, cp, hvp, _⟩ := p2
            have hpn : (prefsAt xs k).length ≤ 6 := (prefs_fine (prefsAt_chk xs k)).1
            subst hvp
            have hgl : G < wr.heap.size := Nat.lt_of_lt_of_le HG4.out.lt HB.out.size
            have hgn1 : ¬ G = wr.heap.size := by omega
            have hgn2 : ¬ wr.heap.size = G := by omega
            have p1 := cell_keep HB.out p1
            have p3 : (wr.alloc (.cells #[.int .i64 (wayTo xs s k).cost, .slice Ah nh ch] 37)).cell? ⟨G, 156 + k, none⟩ = some (.slice Ap (prefsAt xs k).length cp) := cell_keep ((Below.refl _ _).alloc (Nat.le_refl _) _) p1
            have hbx : WBox (wr.alloc (.cells #[.int .i64 (wayTo xs s k).cost, .slice Ah nh ch] 37)) wr.heap.size (wayTo xs s k).cost (.slice Ah nh ch) := by
              refine ⟨?_, ?_, fun i => World.frozen?_alloc_at _ _ _ _ rfl, by simp⟩
              · rw [World.cell?_alloc_at _ _ _ _ rfl]; rfl
              · rw [World.cell?_alloc_at _ _ _ _ rfl]; rfl
            have hal := (Below.refl wr.heap.size wr).alloc (Nat.le_refl _) (.cells #[.int .i64 (wayTo xs s k).cost, .slice Ah nh ch] 37)
            have HX := Go.Lib.hid hbx
            have HO1 := Go.Lib.hid (HO.out.keep hal)
            have HB1 := Go.Lib.hid (HB.out.trans (hal.mono HB.out.size))
            clear hbx hal
            go_wp2_with fail
            clear p1 p3 f1 f2 hgl hgn1 hgn2
            have hne0 : ∀ o, OwR routeR 64 w3.heap.size wr o (tabTo xs s k) → o.ownBlock ≠ some wr.heap.size := fun o h e => by have := (h.base_le _ e).2; omega
            have HNE := Go.Lib.hid (hne0 _ HO.out)
            have HB3S := Go.Lib.hid (show w3.heap.size ≤ wr.heap.size from HB.out.size)
            obtain ⟨W4, hW4⟩ : ∃ x, x = wr.alloc (.cells #[.int .i64 (wayTo xs s k).cost, .slice Ah nh ch] 37) := ⟨_, rfl⟩
            rw [← hW4] at HX HO1 HB1
            rw [← hW4]
            obtain ⟨WB, hWB⟩ : ∃ x, x = wr.heap.size := ⟨_, rfl⟩
            rw [← hWB] at HX HNE HB3S
            rw [← hWB]
            have HWP := Go.Lib.hid (way_le xs hs hlt)
            clear hW4 hWB hne0 HO HB
            go_loopw [8, 45] (fun o j wr5 => ∃ m : Nat, m ≤ (prefsAt xs k).length ∧ j = .int .i64 m ∧ OwR routeR 64 w3.heap.size wr5 o (rowN xs s k (tabTo xs s k) ((prefsAt xs k).take m)) ∧ o.ownBlock ≠ some WB ∧ WBox wr5 WB (wayTo xs s k).cost (.slice Ah nh ch) ∧ Below w3.heap.size w3 wr5) (fun _ j _ => (prefsAt xs k).length - (intOf j).toNat)
            case atStart => exact ⟨0, Nat.zero_le _, rfl, by simpa [rowN] using HO1.out, HNE.out, HX.out, HB1.out⟩
            case round =>
              obtain ⟨m, hm, rfl, ho, hne, hbx, hb⟩ := hrel
              have HO := Go.Lib.hid ho
              have HB := Go.Lib.hid hb
              clear HX HO1 HB1 HNE
              have HNE := Go.Lib.hid hne
              have HX := Go.Lib.hid hbx
              clear ho hb hne hbx
              by_cases hml : m < (prefsAt xs k).length
              · have hmi : (m : Int) < ((prefsAt xs k).length : Int) := by omega
                obtain ⟨bp, offp, hAp, hbp⟩ := HPF.out.at_ hml
                subst hAp
                obtain ⟨q1, q2, q3, q4⟩ := (HPF.out.below HB.out).pref hml
                have HRW := Go.Lib.hid (show rowN xs s k (tabTo xs s k) ((prefsAt xs k).take (m + 1)) = addN xs s k (rowN xs s k (tabTo xs s k) ((prefsAt xs k).take m)) (prefsAt xs k)[m] by
                  unfold rowN; rw [List.take_succ_eq_append_getElem hml, List.foldl_append]; rfl)
                obtain ⟨hpl, hpb, hpo⟩ := prefs_fine (prefsAt_chk xs k)
                have hsr := row_find (xs := xs) (s := s) (n := k) ((prefsAt xs k).take m) _ (sorted_tab xs s k) (hpo.sublist (List.take_sublist _ _))
                have hgr := good_row (xs := xs) hs hlt ((prefsAt xs k).take m) (tabTo xs s k) (fun q hq => hpb q (List.mem_of_mem_take hq)) (good_tab (xs := xs) hs k (by omega))
                have hlr := len_row (xs := xs) (s := s) (n := k) ((prefsAt xs k).take m) (tabTo xs s k)
                have hlt6 := len_tab xs s k
                have HSR := Go.Lib.hid hsr.1
                have HGR := Go.Lib.hid hgr
                have HLR := Go.Lib.hid (show (rowN xs s k (tabTo xs s k) ((prefsAt xs k).take m)).length ≤ 1000 by rw [List.length_take] at hlr; omega)
                have HPB := Go.Lib.hid (hpb _ (List.getElem_mem hml))
                clear hpl hpb hpo hsr hgr hlr hlt6
                obtain ⟨p, hp⟩ : ∃ p, p = (prefsAt xs k)[m] := ⟨_, rfl⟩
                rw [← hp] at q1 q2 q3 q4 HRW HPB
                clear hp
                obtain ⟨L, hL⟩ : ∃ L, L = rowN xs s k (tabTo xs s k) ((prefsAt xs k).take m) := ⟨_, rfl⟩
                rw [← hL] at HO HRW HSR HGR HLR
                clear hL
                have hal := (Below.refl wr.heap.size wr).alloc (Nat.le_refl _) (.cells #[.int .i64 p.addr, .int .i64 p.bits] 62)
                have HAL := Go.Lib.hid hal
                have HO1 := Go.Lib.hid (HO.out.keep hal)
                have HX1 := Go.Lib.hid (HX.out.below hal)
                have HB1 := Go.Lib.hid (HB.out.trans (hal.mono HB.out.size))
                obtain ⟨A5, n5, c5, rfl⟩ := owR5_form HO.out
                by_cases hks : k = s
                · have hkb : ((k : Int) == (s : Int)) = true := by rw [beq_iff_eq]; omega
                  have HAD := Go.Lib.hid (show addN xs s k L p = addR L ⟨p, true, 0, []⟩ by unfold addN routeOfN; rw [if_pos hks])
                  have HGD := Go.Lib.hid (show GoodR ⟨p, true, 0, []⟩ from ⟨HPB.out, Int.le_refl _, (by show (0 : Int) ≤ 1048576; omega), canon_nil, .inl ⟨rfl, rfl, rfl⟩⟩)
                  have HCA := Go.Lib.hid (add_any _ L ⟨p, true, 0, []⟩ (.slice none 0 0) w3.heap.size _ HO1.out HSR.out HGR.out HGD.out ⟨none, 0, rfl, Nat.le_refl _, Nat.zero_le _, fun i x h => by simp at h⟩ HLR.out)
                  clear hal hks
                  go_wp2_with (go_at_call 26; refine HCA.out.mono ?_; rintro e w6 ⟨v6, rfl, ho6, hg6⟩; have HO6 := Go.Lib.hid ho6; have HG6 := Go.Lib.hid hg6; clear ho6 hg6)
                  go_roundw
                  case rel => exact ⟨m + 1, by omega, by go_num, by rw [HRW.out, HAD.out]; exact HO6.out, fun e => by
                      rcases HG6.out.own _ e with h1 | h1
                      · exact HNE.out h1
                      · have := HX1.out.lt; omega, HX1.out.keep (HG6.out.grown.block _ HX1.out.lt (fun e => HNE.out e.symm)), below_grow HB1.out HO1.out HG6.out⟩
                  case measure => simp [intOf]; omega
                · have hkb : ((k : Int) == (s : Int)) = false := by rw [beq_eq_false_iff_ne]; omega
                  clear hal
                  have x0 := HX1.out.c0
                  have x1 := HX1.out.c1
                  by_cases hc0 : 0 ≤ (wayTo xs s k).cost
                  · have HAD := Go.Lib.hid (show addN xs s k L p = addR L ⟨p, false, (wayTo xs s k).cost, (wayTo xs s k).hops⟩ by unfold addN routeOfN; rw [if_neg hks, if_pos hc0])
                    have HGD := Go.Lib.hid (show GoodR ⟨p, false, (wayTo xs s k).cost, (wayTo xs s k).hops⟩ from ⟨HPB.out, hc0, HWP.out.2, canon_way _ _ _, .inr ⟨rfl, way_hops hks hc0⟩⟩)
                    have hhl := HGD.out.len
                    have HCL := Go.Lib.hid (fun w' (hb : Below w3.heap.size w3 w') => cloneI_any (.slice Ah nh ch) (wayTo xs s k).hops w' (HF3.out.below hb) (by have h9 : (wayTo xs s k).hops.length ≤ 12 := hhl; omega))
                    clear hks hhl
                    generalize (wayTo xs s k).cost = cw at *
                    generalize (wayTo xs s k).hops = hw at *
                    go_wp2_with fail
                    have z0 : (wr.alloc (.cells #[.int .i64 p.addr, .int .i64 p.bits] 62)).cell? ⟨wr.heap.size, 0, none⟩ = some (.int .i64 p.addr) := by rw [World.cell?_alloc_at _ _ _ _ rfl]; rfl
                    have z1 : (wr.alloc (.cells #[.int .i64 p.addr, .int .i64 p.bits] 62)).cell? ⟨wr.heap.size, 1, none⟩ = some (.int .i64 p.bits) := by rw [World.cell?_alloc_at _ _ _ _ rfl]; rfl
                    obtain ⟨W5, hW5⟩ : ∃ x, x = wr.alloc (.cells #[.int .i64 p.addr, .int .i64 p.bits] 62) := ⟨_, rfl⟩
                    rw [← hW5] at HO1 HX1 HB1 z0 z1 x0 x1
                    rw [← hW5]
                    obtain ⟨P, hP⟩ : ∃ x, x = wr.heap.size := ⟨_, rfl⟩
                    rw [← hP] at z0 z1
                    rw [← hP]
                    have HCA := Go.Lib.hid (fun v6 w6 (hb : Below W5.heap.size W5 w6) (ho : OwR intR 3 W5.drew.heap.size w6 v6 hw) => add_any (.slice A5 n5 c5) L ⟨p, false, cw, hw⟩ v6 w3.heap.size w6 (HO1.out.keep hb) HSR.out HGR.out HGD.out (SlR.keep (S' := fun q => q < w6.heap.size ∧ (Value.slice A5 n5 c5).ownBlock ≠ some q) ho.slF (fun _ _ => rfl) (fun q hq => ⟨hq.1, fun e => by have h1 := (HO1.out.base_le _ e).2; have h2 : W5.heap.size ≤ q := hq.2; omega⟩)) HLR.out)
                    unfold Route.agg at HCA
                    clear hW5 hP HAL HX HO HB
                    go_region_with (first
                      | (go_at_call 27; refine (HCL.out _ HB1.out.drew).mono ?_; rintro e w6 ⟨v6, rfl, ho6, hb6⟩; obtain ⟨A6, n6, c6, rfl⟩ := ow_form ho6 (by decide); have hb7 := Below.trans ((Below.refl W5.heap.size W5).drew) hb6; have HB7 := Go.Lib.hid hb7; have HO6 := Go.Lib.hid ho6; have y0 := cell_keep hb7 z0; have y1 := cell_keep hb7 z1; have y2 := cell_keep hb7 x0; have y3 := cell_keep hb7 x1; clear hb6 hb7 ho6)
                      | (go_at_call 26; refine (HCA.out _ _ HB7.out HO6.out).mono ?_; rintro e w8 ⟨v8, rfl, ho8, hg8⟩; have HO8 := Go.Lib.hid ho8; have HG8 := Go.Lib.hid hg8; clear ho8 hg8))
                    all_goals
                      go_wp2_with fail
                      go_roundw
                      case rel => exact ⟨m + 1, by omega, by go_num, by rw [HRW.out, HAD.out]; exact HO8.out, fun e => by
                          rcases HG8.out.own _ e with h1 | h1
                          · exact HNE.out h1
                          · have h2 := HX1.out.lt; have h3 := HB7.out.size; omega, (HX1.out.below HB7.out).keep (HG8.out.grown.block _ (Nat.lt_of_lt_of_le HX1.out.lt HB7.out.size) (fun e => HNE.out e.symm)), below_grow (HB1.out.trans (HB7.out.mono HB1.out.size)) (HO1.out.keep HB7.out) HG8.out⟩
                      case measure => simp [intOf]; omega
                  · have HAD := Go.Lib.hid (show addN xs s k L p = L by unfold addN routeOfN; rw [if_neg hks, if_neg hc0])
                    clear hks
                    go_wp2_with fail
                    go_roundw
                    case rel => exact ⟨m + 1, by omega, by go_num, by rw [HRW.out, HAD.out]; exact HO1.out, HNE.out, HX1.out, HB1.out⟩
                    case measure => simp [intOf]; omega
              · obtain rfl : m = (prefsAt xs k).length := by omega
                have hmi : ¬ (((prefsAt xs k).length : Int) < ((prefsAt xs k).length : Int)) := by omega
                have HT := Go.Lib.hid (show rowN xs s k (tabTo xs s k) ((prefsAt xs k).take (prefsAt xs k).length) = tabTo xs s (k + 1) by rw [List.take_length]; rfl)
                go_wp2_with fail
                go_roundw
                case rel => exact ⟨k + 1, by omega, by go_num, by rw [← HT.out]; exact HO.out, HB.out⟩
                case measure => simp [intOf]; omega
          · obtain rfl : k = 12 := by omega
            have hki : ¬ ((12 : Nat) : Int) < 12 := by omega
            go_wp2_with fail
            go_ret2
            exact tb_fin HW.out (HO.out.lower HB3.out.size) (HB3.out.trans (HB.out.mono HB3.out.size))
  · have hc0 : (checkS xs != 0) = true := by simp [hc]
    have HW := Go.Lib.hid (show tableS xs f = ([], checkS xs) by unfold tableS; rw [if_pos hc])
    clear hc
    go_enter Tryz.func8, Tryz.ntmps8
    go_wp2_with (go_at_call 23; refine HC.out.mono ?_; rintro e w1 ⟨rfl, hb1⟩)
    go_ret2
    exact tb_fin HW.out (OwR.nil _ _ hb1.size) hb1
end Go.Proofs.YtcbkimbeljhbhaaGreatDoor
