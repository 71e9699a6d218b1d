/-
  
-/
import Derived.Test.YtojojpjldkpmoaaGreatDoorGTbC
set_option linter.unusedVariables false
set_option linter.unusedSimpArgs false
set_option maxHeartbeats 16000000
namespace Go.Proofs.YtojojpjldkpmoaaGreatDoor
open Go Go.RowKit Go.Deep
theorem flat_setK {k : Nat} : ∀ {css : List (List Value)} {i j : Nat} {u : Value}, (∀ x ∈ css, RawK k x) -> (hi : i < css.length) -> j < k -> (css.set i (css[i].set j u)).flatten = css.flatten.set (i * k + j) u
 | [], _, _, _, _, hi, _ => by simp at hi
 | a :: css, 0, j, u, h, _, hj => by
   have ha := (h a (by simp)).1
   simp only [List.set_cons_zero, zbX, zaE, Nat.zero_mul, zaM]
   rw [List.set_append_left _ _ (by omega)]
 | a :: css, i + 1, j, u, h, hi, hj => by
   have ha := (h a (by simp)).1
   simp only [zbH, zbK, zaE]
   rw [flat_setK (css := css) (fun x hx => h x (by simp [hx])) (by simpa using hi) hj, zca _ _ (by rw [zbZ]; omega)]
   congr 2
   rw [zbZ]; omega
theorem rawK_set {k : Nat} {x : List Value} (h : RawK k x) (j : Nat) {u : Value} (hu : u.oneCell' = true) : RawK k (x.set j u) := by
 refine ⟨by rw [zbx]; exact h.1, fun v hv => ?_⟩
 rcases List.mem_or_eq_of_mem_set hv with e | e
 · exact h.2 v e
 · rw [e]; exact hu
theorem OwR.setRaw {k : Nat} {E base : Nat} {w : World} {g n cap : Nat} {css : List (List Value)} (h : OwR (cellR k) E base w (.slice (some ⟨g, 0, none⟩) n cap) css) {i j : Nat} (hi : i < css.length) (hj : j < k) {u : Value} (hu : u.oneCell' = true) :
  OwR (cellR k) E base (w.setCell ⟨g, i * k + j, none⟩ u) (.slice (some ⟨g, 0, none⟩) n cap) (css.set i (css[i].set j u)) := by
 obtain ⟨h1, h2, h3⟩ := OwR.to_raw h
 have hn : n = css.length := by
  rcases h1.2 with ⟨e, _⟩ | ⟨g', cap', cur, e, _⟩
  · cases e
  · injection e
 subst hn
 obtain ⟨s1, k1⟩ := h1.stored (i * k + j) u
 refine OwR.of_raw ?_ ?_ (zaz h3 k1.size)
 · rw [zbx, flat_setK h2 hi hj]; exact s1
 · intro x hx
   rcases List.mem_or_eq_of_mem_set hx with e | e
   · exact h2 x e
   · rw [e]; exact rawK_set (h2 _ (zas hi)) j hu
theorem five_set (a b c d e p q r s t : Value) : ((((([a, b, c, d, e].set 0 p).set 1 q).set 2 r).set 3 s).set 4 t) = [p, q, r, s, t] := rfl
theorem OwR.setRoute {base : Nat} {w : World} {g n cap : Nat} {xs : List Route} (h : OwR routeR 130 base w (.slice (some ⟨g, 0, none⟩) n cap) xs) {i : Nat} (hi : i < xs.length) {y : Route} {vy : Value}
  (hy : SlR intR w (fun k => k < w.heap.size /\ k ≠ g) vy y.hops) (hw : y.wf) :
  OwR routeR 130 base (((((w.setCell ⟨g, i * 5, none⟩ (.int .i64 y.pre.addr)).setCell ⟨g, i * 5 + 1, none⟩ (.int .i64 y.pre.bits)).setCell ⟨g, i * 5 + 2, none⟩ (.bool y.here)).setCell ⟨g, i * 5 + 3, none⟩ (.int .i64 y.cost)).setCell ⟨g, i * 5 + 4, none⟩ vy) (.slice (some ⟨g, 0, none⟩) n cap) (xs.set i y) := by
 obtain ⟨css, c1, c2, c3⟩ := h.css
 have hvy : vy.oneCell' = true := by obtain ⟨A, c, rfl, _⟩ := hy; rfl
 have hi' : i < css.length := by omega
 have s0 := c3.setRaw (i := i) (j := 0) hi' (by decide) (u := .int .i64 y.pre.addr) rfl
 have s1 := s0.setRaw (i := i) (j := 1) (by simpa using hi') (by decide) (u := .int .i64 y.pre.bits) rfl
 have s2 := s1.setRaw (i := i) (j := 2) (by simpa using hi') (by decide) (u := .bool y.here) rfl
 have s3 := s2.setRaw (i := i) (j := 3) (by simpa using hi') (by decide) (u := .int .i64 y.cost) rfl
 have s4 := s3.setRaw (i := i) (j := 4) (by simpa using hi') (by decide) (u := vy) hvy
 obtain ⟨_, r2, _⟩ := OwR.to_raw c3
 obtain ⟨a, b, c, d, e, hc⟩ : ∃ a b c d e, css[i] = [a, b, c, d, e] := by
  have := (r2 _ (zas hi')).1
  match css[i], this with
  | [a, b, c, d, e], _ => exact ⟨a, b, c, d, e, rfl⟩
 simp only [List.set_set, List.getElem_set_self, hc, five_set, zbE] at s4
 have hblk : ∀ k, k ≠ g -> (((((w.setCell ⟨g, i * 5, none⟩ (.int .i64 y.pre.addr)).setCell ⟨g, i * 5 + 1, none⟩ (.int .i64 y.pre.bits)).setCell ⟨g, i * 5 + 2, none⟩ (.bool y.here)).setCell ⟨g, i * 5 + 3, none⟩ (.int .i64 y.cost)).setCell ⟨g, i * 5 + 4, none⟩ vy).heap[k]? = w.heap[k]? := by
  intro k hk
  rw [zai _ _ _ _ (by exact hk), zai _ _ _ _ (by exact hk), zai _ _ _ _ (by exact hk), zai _ _ _ _ (by exact hk), zai _ _ _ _ (by exact hk)]
 refine OwR.of_css (css := css.set i [.int .i64 y.pre.addr, .int .i64 y.pre.bits, .bool y.here, .int .i64 y.cost, vy]) (by simp [c1]) (fun m cs x hcs hx => ?_) s4
 have hsz : (((((w.setCell ⟨g, i * 5, none⟩ (.int .i64 y.pre.addr)).setCell ⟨g, i * 5 + 1, none⟩ (.int .i64 y.pre.bits)).setCell ⟨g, i * 5 + 2, none⟩ (.bool y.here)).setCell ⟨g, i * 5 + 3, none⟩ (.int .i64 y.cost)).setCell ⟨g, i * 5 + 4, none⟩ vy).heap.size = w.heap.size := by simp [World.setCell]
 by_cases e : m = i
 · subst e
   rw [zbw (by omega)] at hcs hx
   injection hcs with hcs; injection hx with hx
   subst hcs hx
   exact ⟨vy, rfl, SlR.keep hy (fun k hk => hblk k hk.2) (fun k hk => ⟨by rw [hsz]; exact hk.1, fun e => by have e2 : g = k := Option.some.inj e; exact hk.2 e2.symm⟩), hw⟩
 · rw [zbD (fun x => e x.symm)] at hcs hx
   exact routeR.keep (c2 m cs x hcs hx) (fun k hk => hblk k (fun e2 => hk.2 (by rw [e2]; rfl))) (fun k hk => ⟨by rw [hsz]; exact hk.1, hk.2⟩)
theorem OwR.setHops {base : Nat} {w : World} {g n cap : Nat} {xs : List Route} (h : OwR routeR 130 base w (.slice (some ⟨g, 0, none⟩) n cap) xs) {i : Nat} (hi : i < xs.length) {l : List Int} {vy : Value}
  (hy : SlR intR w (fun k => k < w.heap.size /\ k ≠ g) vy l) :
  OwR routeR 130 base (w.setCell ⟨g, i * 5 + 4, none⟩ vy) (.slice (some ⟨g, 0, none⟩) n cap) (xs.set i { xs[i] with hops := l }) := by
 obtain ⟨css, c1, c2, c3⟩ := h.css
 have hvy : vy.oneCell' = true := by obtain ⟨A, c, rfl, _⟩ := hy; rfl
 have hi' : i < css.length := by omega
 have s4 := c3.setRaw (i := i) (j := 4) hi' (by decide) (u := vy) hvy
 obtain ⟨v0, hc, _, hwf⟩ := c2 i css[i] xs[i] (zac hi') (zac hi)
 have hset : css[i].set 4 vy = ({ xs[i] with hops := l } : Route).cells vy := by rw [hc]; rfl
 rw [hset] at s4
 refine OwR.of_css (by simp [c1]) (fun m cs x hcs hx => ?_) s4
 have hsz : (w.setCell ⟨g, i * 5 + 4, none⟩ vy).heap.size = w.heap.size := by simp [World.setCell]
 have hblk : ∀ k, k ≠ g -> (w.setCell ⟨g, i * 5 + 4, none⟩ vy).heap[k]? = w.heap[k]? := fun k hk => zai _ _ _ _ (by exact hk)
 by_cases e : m = i
 · subst e
   rw [zbw (by omega)] at hcs hx
   injection hcs with hcs; injection hx with hx
   subst hcs hx
   exact ⟨vy, rfl, SlR.keep hy (fun k hk => hblk k hk.2) (fun k hk => ⟨by rw [hsz]; exact hk.1, fun e => by have e2 : g = k := Option.some.inj e; exact hk.2 e2.symm⟩), hwf⟩
 · rw [zbD (fun x => e x.symm)] at hcs hx
   exact routeR.keep (c2 m cs x hcs hx) (fun k hk => hblk k (fun e2 => hk.2 (by rw [e2]; rfl))) (fun k hk => ⟨by rw [hsz]; exact hk.1, hk.2⟩)
theorem insertRoute_any (v : Value) (xs : List Route) (y : Route) (vy : Value) (i : Nat) (w : World) (vb base : Nat) (h : OwR routeR 130 base w v xs) (hi : i <= xs.length) (hl : xs.length <= 1000)
  (hvb : w.heap[vb]? = some (.cells (y.cells vy).toArray 130 (0, 0))) (hne : v.ownBlock ≠ some vb) (hy : SlR intR w (fun k => k < w.heap.size /\ v.ownBlock ≠ some k) vy y.hops) (hw : y.wf) :
  Calls Tryz.prog 123 #[v, .int .i64 (i : Nat), .slice (some ⟨vb, 0, none⟩) 1 1] w fun e w' => ∃ v', e = .returned v' /\ OwR routeR 130 base w' v' (xs.take i ++ y :: xs.drop i) /\ GrowTo w v w' v' := by
 obtain ⟨css, c1, c2, c3⟩ := h.css
 have hvy : vy.oneCell' = true := by obtain ⟨A, c, rfl, _⟩ := hy; rfl
 have hraw : RawK 5 (y.cells vy) := ⟨rfl, fun u hu => by
  simp [Route.cells] at hu
  rcases hu with rfl | rfl | rfl | rfl | rfl
  · rfl
  · rfl
  · rfl
  · rfl
  · exact hvy⟩
 refine (insert_anyR v css (y.cells vy) i w vb base c3 (by omega) (by omega) hvb hne hraw).mono ?_
 rintro e w' ⟨v', rfl, ho, hg⟩
 refine ⟨v', rfl, OwR.of_css (by simp [c1]) (fun m cs x hcs hx => ?_) ho, hg⟩
 have hblk : ∀ k, (k < w.heap.size /\ v.ownBlock ≠ some k) -> w'.heap[k]? = w.heap[k]? := fun k hk => hg.grown.block k hk.1 (fun e => hk.2 e.symm)
 have hsub : ∀ k, (k < w.heap.size /\ v.ownBlock ≠ some k) -> (k < w'.heap.size /\ v'.ownBlock ≠ some k) := fun k hk =>
  ⟨zan hk.1 hg.grown.size, fun e => by
   rcases hg.own k e with h1 | h1
   · exact hk.2 h1
   · omega⟩
 by_cases h1 : m < i
 · rw [zba (by rw [zaq]; omega), zbb, if_pos h1] at hcs hx
   exact routeR.keep (c2 m cs x hcs hx) hblk hsub
 · rw [zaR (by rw [zaq]; omega), zaq, Nat.min_eq_left (by omega)] at hcs hx
   by_cases h2 : m = i
   · subst h2
     rw [Nat.sub_self] at hcs hx
     simp at hcs hx
     subst hcs hx
     exact ⟨vy, rfl, SlR.keep hy hblk hsub, hw⟩
   · obtain ⟨q, hq⟩ : ∃ q, m - i = q + 1 := ⟨m - i - 1, by omega⟩
     rw [hq, zam, zbQ] at hcs hx
     exact routeR.keep (c2 _ cs x hcs hx) hblk hsub
end Go.Proofs.YtojojpjldkpmoaaGreatDoor
