/-
  Walks of the rib layer: same, Diff's closures, routeAt, sameRoute.
-/
import Derived.Test.YtbpamllmbdcdfaaRibP
import Derived.Test.YtbpamllmbdcdfaaSame
namespace Go.Proofs.Ytbpamllmbdcdfaa
open Go.RowKit Go.Deep

set_option maxHeartbeats 1000000 in
theorem equalI_any (v1 v2 : Value) (xs ys : List Int) (w : World) (h1 : Sl intR w v1 xs) (h2 : Sl intR w v2 ys) :
    Calls Try.prog 108 #[v1, v2] w fun e w' => e = .returned (.bool (xs == ys)) ∧ Below w.heap.size w w' := by
  have hl1 := h1.len_le
  have hl2 := h2.len_le
  obtain ⟨A1, c1, rfl⟩ := h1.form
  obtain ⟨A2, c2, rfl⟩ := h2.form
  have H1 := Go.Lib.hid h1
  have H2 := Go.Lib.hid h2
  clear h1 h2
  by_cases hlen : xs.length = ys.length
  · obtain ⟨n, hn⟩ : ∃ n, xs.length = n := ⟨_, rfl⟩
    have hn2 : ys.length = n := by omega
    have HN := Go.Lib.hid hn
    have HN2 := Go.Lib.hid hn2
    rw [hn, hn2]
    rw [hn] at hl1
    clear hlen hl2 hn hn2
    go_enter Try.func108, Try.ntmps108
    go_wp2_with fail
    go_loopw [5, 13] (fun _ s13 wr => ∃ k : Nat, k ≤ n ∧ s13 = .int .i64 k ∧ Below w.heap.size w wr ∧ ∀ j, (h : j < xs.length) → (h' : j < ys.length) → j < k → xs[j] = ys[j]) (fun _ s13 _ => n - (intOf s13).toNat)
    case atStart => exact ⟨0, Nat.zero_le _, rfl, Below.refl _ _, fun j _ _ h => absurd h (by omega)⟩
    case round =>
      obtain ⟨k, hk, rfl, hB, hall⟩ := hrel
      have HB := Go.Lib.hid hB
      have HA := Go.Lib.hid hall
      clear hall
      by_cases hlt : k < n
      · have k1 : k < xs.length := by rw [HN.out]; exact hlt
        have k2 : k < ys.length := by rw [HN2.out]; exact hlt
        obtain ⟨b1, o1, rfl, hb1⟩ := H1.out.at_ k1
        obtain ⟨b2, o2, rfl, hb2⟩ := H2.out.at_ k2
        obtain ⟨f1, _⟩ := (H1.out.below hB).int k1
        obtain ⟨g1, _⟩ := (H2.out.below hB).int k2
        have r0 : (0 : Int) ≤ (k : Int) := Int.natCast_nonneg _
        have r1 : (k : Int) < (n : Int) := by omega
        obtain ⟨x, hx⟩ : ∃ x, xs[k] = x := ⟨_, rfl⟩
        obtain ⟨y, hy⟩ : ∃ y, ys[k] = y := ⟨_, rfl⟩
        rw [hx] at f1
        rw [hy] at g1
        have HX := Go.Lib.hid hx
        have HY := Go.Lib.hid hy
        clear hB hx hy
        by_cases hxy : x = y
        · have t1 : (x != y) = false := by simp [hxy]
          have HXY := Go.Lib.hid hxy
          clear hxy
          go_wp2_with fail
          go_quiet (fail)
          go_wp2_with fail
          go_roundw
          case rel =>
            refine ⟨k + 1, by omega, by go_num, bDrewN HB.out _, fun j hj hj' hjk => ?_⟩
            by_cases e : j = k
            · subst e; rw [HX.out, HY.out, HXY.out]
            · exact HA.out j hj hj' (by omega)
          case measure => simp [intOf]; omega
        · have t1 : (x != y) = true := by simp [hxy]
          have HXY := Go.Lib.hid hxy
          clear hxy
          go_wp2_with fail
          go_quiet (fail)
          go_wp2_with fail
          go_ret
          refine ⟨eb ?_, bDrewN HB.out _⟩
          symm
          rw [beq_eq_false_iff_ne]
          intro e
          subst e
          exact HXY.out (HX.out.symm.trans HY.out)
      · clear hB
        go_wp2_with fail
        go_ret
        refine ⟨eb ?_, HB.out⟩
        symm
        rw [beq_iff_eq]
        exact List.ext_getElem (by rw [HN.out, HN2.out]) (fun j hj hj' => HA.out j hj hj' (by have := HN.out; omega))
  · have t1 : (((xs.length : Nat) : Int) != ((ys.length : Nat) : Int)) = true := by simp; omega
    have HL := Go.Lib.hid hlen
    clear hlen
    go_enter Try.func108, Try.ntmps108
    go_wp2_with fail
    go_ret
    refine ⟨eb ?_, Below.refl _ _⟩
    symm
    rw [beq_eq_false_iff_ne]
    intro e
    exact HL.out (by rw [e])

theorem two_boxes (w : World) (cs ds : Array Value) (t u : TypeId) : Below w.heap.size w ((w.alloc (.cells cs t)).alloc (.cells ds u)) := ((Below.refl _ _).alloc (Nat.le_refl _) _).alloc (by simp) _

set_option maxRecDepth 100000 in
set_option maxHeartbeats 1000000 in
theorem ribSame_any (x r : Route) (v1 v2 : Value) (w : World) (h1 : Sl intR w v1 x.hops) (h2 : Sl intR w v2 r.hops) :
    Calls Try.prog 87 #[x.agg v1, r.agg v2] w fun e w' => e = .returned (.bool (sameR x r)) ∧ Below w.heap.size w w' := by
  obtain ⟨⟨xa, xb⟩, xh, xc, xs⟩ := x
  obtain ⟨⟨ra, rb⟩, rh, rc, rs⟩ := r
  unfold Route.agg sameR sameP
  simp only at h1 h2 ⊢
  obtain ⟨A1, c1, rfl⟩ := h1.form
  obtain ⟨A2, c2, rfl⟩ := h2.form
  have hb := two_boxes w #[.int .i64 xa, .int .i64 xb, .bool xh, .int .i64 xc, .slice A1 xs.length c1] #[.int .i64 ra, .int .i64 rb, .bool rh, .int .i64 rc, .slice A2 rs.length c2] 54 54
  have HC := Go.Lib.hid (equalI_any _ _ xs rs _ (h1.below hb) (h2.below hb))
  have HB := Go.Lib.hid hb
  clear h1 h2 hb
  have q1 := eql_pref xa xb ra rb
  have q2 := fun a b => guard_pref .eql a b
  rcases hp : (xa == ra && xb == rb) with _ | _
  · rw [hp] at q1
    clear hp
    go_enter Try.func87, Try.ntmps87
    go_wp2_with fail
    go_ret
    exact ⟨rfl, HB.out⟩
  · rw [hp] at q1
    clear hp
    rcases hh : (xh == rh) with _ | _
    · go_enter Try.func87, Try.ntmps87
      go_wp2_with fail
      go_ret
      exact ⟨rfl, HB.out⟩
    · rcases hc : (xc == rc) with _ | _
      · go_enter Try.func87, Try.ntmps87
        go_wp2_with fail
        go_ret
        exact ⟨rfl, HB.out⟩
      · go_enter Try.func87, Try.ntmps87
        go_wp2_with fail
        refine HC.out.mono ?_
        rintro e w1 ⟨rfl, hb1⟩
        have HB1 := Go.Lib.hid (HB.out.trans (hb1.mono HB.out.size))
        clear hb1
        go_wp2_with fail
        go_ret
        exact ⟨rfl, HB1.out⟩

/-- the cells of a route in a box -/
def BoxAt (w : World) (g : Nat) (r : Route) (v : Value) : Prop := g < w.heap.size ∧ (∀ i, w.cell? ⟨g, i, none⟩ = #[Value.int .i64 r.pre.addr, .int .i64 r.pre.bits, .bool r.here, .int .i64 r.cost, v][i]?)
theorem BoxAt.keep {w w' : World} {g : Nat} {r : Route} {v : Value} (h : BoxAt w g r v) (hb : Below w.heap.size w w') : BoxAt w' g r v := ⟨Nat.lt_of_lt_of_le h.1 hb.size, fun i => (bAt hb h.1 i).trans (h.2 i)⟩

set_option maxRecDepth 100000 in
set_option maxHeartbeats 1000000 in
theorem diffC1_any (x r : Route) (v1 v2 : Value) (g : Nat) (w : World) (h1 : Sl intR w v1 x.hops) (h2 : Sl intR w v2 r.hops) (hg : BoxAt w g r v2) :
    Calls Try.prog 86 #[x.agg v1, .pointer (some ⟨g, 0, none⟩)] w fun e w' => e = .returned (.bool (sameR x r)) ∧ Below w.heap.size w w' := by
  obtain ⟨A1, c1, rfl⟩ := h1.form
  obtain ⟨A2, c2, rfl⟩ := h2.form
  have hb : Below w.heap.size w (w.alloc (.cells #[.int .i64 x.pre.addr, .int .i64 x.pre.bits, .bool x.here, .int .i64 x.cost, .slice A1 x.hops.length c1] 54)) := (Below.refl _ _).alloc (Nat.le_refl _) _
  have hcal := ribSame_any x r _ _ _ (h1.below hb) (h2.below hb)
  unfold Route.agg at hcal ⊢
  obtain ⟨hx, hhx⟩ : ∃ l, x.hops = l := ⟨_, rfl⟩
  obtain ⟨hr, hhr⟩ : ∃ l, r.hops = l := ⟨_, rfl⟩
  rw [hhx, hhr] at hcal
  rw [hhx] at hb ⊢
  rw [hhr] at hg
  obtain ⟨hg1, hg2⟩ := hg
  have HC := Go.Lib.hid hcal
  have HB := Go.Lib.hid hb
  clear h1 h2 hb hcal hhx hhr
  go_enter Try.func86, Try.ntmps86
  go_wp2_with fail
  refine HC.out.mono ?_
  rintro e w1 ⟨rfl, hb1⟩
  have HB1 := Go.Lib.hid (HB.out.trans (hb1.mono HB.out.size))
  clear hb1
  go_wp2_with fail
  go_ret
  exact ⟨rfl, HB1.out⟩

set_option maxRecDepth 100000 in
set_option maxHeartbeats 1000000 in
theorem diffC2_any (x r : Route) (v1 v2 : Value) (g : Nat) (w : World) (h1 : Sl intR w v1 x.hops) (hg : BoxAt w g r v2) :
    Calls Try.prog 88 #[x.agg v1, .pointer (some ⟨g, 0, none⟩)] w fun e w' => e = .returned (.bool (sameP x.pre r.pre)) ∧ Below w.heap.size w w' := by
  obtain ⟨A1, c1, rfl⟩ := h1.form
  have hb : Below w.heap.size w (w.alloc (.cells #[.int .i64 x.pre.addr, .int .i64 x.pre.bits, .bool x.here, .int .i64 x.cost, .slice A1 x.hops.length c1] 54)) := (Below.refl _ _).alloc (Nat.le_refl _) _
  obtain ⟨hx, hhx⟩ : ∃ l, x.hops = l := ⟨_, rfl⟩
  unfold Route.agg
  rw [hhx] at hb ⊢
  obtain ⟨hg1, hg2⟩ := hg
  have HB := Go.Lib.hid hb
  have q1 := eql_pref x.pre.addr x.pre.bits r.pre.addr r.pre.bits
  have q2 := fun a b => guard_pref .eql a b
  clear h1 hb hhx
  go_enter Try.func88, Try.ntmps88
  go_wp2_with fail
  go_ret
  exact ⟨rfl, HB.out⟩

/-- slices.IndexFunc over routes, whatever the function asks -/
def ask (p : Route → Bool) (fid : Nat) (cap : Value) (w : World) : Prop := ∀ (x : Route) (v : Value) (w' : World), Below w.heap.size w w' → Sl intR w' v x.hops → Calls Try.prog fid #[x.agg v, cap] w' fun e w'' => e = .returned (.bool (p x)) ∧ Below w'.heap.size w' w''

set_option maxRecDepth 100000 in
set_option maxHeartbeats 1000000 in
theorem idxR1_any (p : Route → Bool) (cap : Value) (v : Value) (xs : List Route) (w : World) (h : Sl routeR w v xs) (hl : xs.length ≤ 1000000) (hp : ask p 86 cap w) :
    Calls Try.prog 107 #[v, .func (.func 86) #[] #[cap]] w fun e w' => (∃ n : Int, e = .returned (.int .i64 n) ∧ decide (0 ≤ n) = xs.any p) ∧ Below w.heap.size w w' := by
  obtain ⟨A, c, rfl⟩ := h.form
  have H := Go.Lib.hid h
  have HP := Go.Lib.hid hp
  clear h hp
  go_enter Try.func107, Try.ntmps107
  go_wp2_with fail
  go_loopw [5, 8] (fun _ i wr => ∃ k : Nat, k ≤ xs.length ∧ i = .int .i64 k ∧ Below w.heap.size w wr ∧ ∀ j, (h : j < xs.length) → j < k → p xs[j] = false) (fun _ i _ => xs.length - (intOf i).toNat)
  case atStart => exact ⟨0, Nat.zero_le _, rfl, Below.refl _ _, fun j _ h => absurd h (by omega)⟩
  case round =>
    obtain ⟨k, hk, rfl, hB, hall⟩ := hrel
    have HA := Go.Lib.hid hall
    have HB := Go.Lib.hid hB
    clear hall
    by_cases hlt : k < xs.length
    · obtain ⟨b, off, rfl, hb⟩ := H.out.at_ hlt
      obtain ⟨vh, f1, f2, f3, f4, f5, hs, _⟩ := (H.out.below hB).route hlt
      have hcal := HP.out xs[k] vh wr hB hs
      unfold Route.agg at hcal
      have HC := Go.Lib.hid hcal
      clear hB hcal hs
      go_wp2_with fail
      refine HC.out.mono ?_
      rintro e w1 ⟨rfl, hb1⟩
      have HB1 := Go.Lib.hid (HB.out.trans (hb1.mono HB.out.size))
      clear hb1
      rcases hp : p xs[k] with _ | _
      · have HPX := Go.Lib.hid hp
        clear hp
        go_wp2_with fail
        go_roundw
        case rel =>
          refine ⟨k + 1, by omega, by go_num, HB1.out, fun j hj hjk => ?_⟩
          by_cases e : j = k
          · subst e; exact HPX.out
          · exact HA.out j hj (by omega)
        case measure => simp [intOf]; omega
      · have HPX := Go.Lib.hid hp
        clear hp
        go_wp2_with fail
        go_ret
        refine ⟨⟨(k : Int), rfl, ?_⟩, HB1.out⟩
        have : xs.any p = true := List.any_eq_true.2 ⟨xs[k], List.getElem_mem hlt, HPX.out⟩
        simp [this]
    · clear hB
      go_wp2_with fail
      go_ret
      refine ⟨⟨-1, rfl, ?_⟩, HB.out⟩
      have : xs.any p = false := by
        rw [List.any_eq_false]
        intro x hx
        obtain ⟨j, hj, rfl⟩ := List.getElem_of_mem hx
        simp [HA.out j hj (by omega)]
      simp [this]

set_option maxHeartbeats 1000000 in
theorem conR1_any (p : Route → Bool) (cap : Value) (v : Value) (xs : List Route) (w : World) (h : Sl routeR w v xs) (hl : xs.length ≤ 1000000) (hp : ask p 86 cap w) :
    Calls Try.prog 85 #[v, .func (.func 86) #[] #[cap]] w fun e w' => e = .returned (.bool (xs.any p)) ∧ Below w.heap.size w w' := by
  have HI := Go.Lib.hid (idxR1_any p cap v xs w h hl hp)
  clear h hp
  go_enter Try.func85, Try.ntmps85
  go_wp2_with fail
  refine HI.out.mono ?_
  rintro e w1 ⟨⟨n, rfl, hn⟩, hb1⟩
  have HB1 := Go.Lib.hid hb1
  clear hb1
  go_wp2_with fail
  go_ret
  exact ⟨by first | rfl | exact eb hn, HB1.out⟩
set_option maxRecDepth 100000 in
set_option maxHeartbeats 1000000 in
theorem idxR2_any (p : Route → Bool) (cap : Value) (v : Value) (xs : List Route) (w : World) (h : Sl routeR w v xs) (hl : xs.length ≤ 1000000) (hp : ask p 88 cap w) :
    Calls Try.prog 107 #[v, .func (.func 88) #[] #[cap]] w fun e w' => (∃ n : Int, e = .returned (.int .i64 n) ∧ decide (0 ≤ n) = xs.any p) ∧ Below w.heap.size w w' := by
  obtain ⟨A, c, rfl⟩ := h.form
  have H := Go.Lib.hid h
  have HP := Go.Lib.hid hp
  clear h hp
  go_enter Try.func107, Try.ntmps107
  go_wp2_with fail
  go_loopw [5, 8] (fun _ i wr => ∃ k : Nat, k ≤ xs.length ∧ i = .int .i64 k ∧ Below w.heap.size w wr ∧ ∀ j, (h : j < xs.length) → j < k → p xs[j] = false) (fun _ i _ => xs.length - (intOf i).toNat)
  case atStart => exact ⟨0, Nat.zero_le _, rfl, Below.refl _ _, fun j _ h => absurd h (by omega)⟩
  case round =>
    obtain ⟨k, hk, rfl, hB, hall⟩ := hrel
    have HA := Go.Lib.hid hall
    have HB := Go.Lib.hid hB
    clear hall
    by_cases hlt : k < xs.length
    · obtain ⟨b, off, rfl, hb⟩ := H.out.at_ hlt
      obtain ⟨vh, f1, f2, f3, f4, f5, hs, _⟩ := (H.out.below hB).route hlt
      have hcal := HP.out xs[k] vh wr hB hs
      unfold Route.agg at hcal
      have HC := Go.Lib.hid hcal
      clear hB hcal hs
      go_wp2_with fail
      refine HC.out.mono ?_
      rintro e w1 ⟨rfl, hb1⟩
      have HB1 := Go.Lib.hid (HB.out.trans (hb1.mono HB.out.size))
      clear hb1
      rcases hp : p xs[k] with _ | _
      · have HPX := Go.Lib.hid hp
        clear hp
        go_wp2_with fail
        go_roundw
        case rel =>
          refine ⟨k + 1, by omega, by go_num, HB1.out, fun j hj hjk => ?_⟩
          by_cases e : j = k
          · subst e; exact HPX.out
          · exact HA.out j hj (by omega)
        case measure => simp [intOf]; omega
      · have HPX := Go.Lib.hid hp
        clear hp
        go_wp2_with fail
        go_ret
        refine ⟨⟨(k : Int), rfl, ?_⟩, HB1.out⟩
        have : xs.any p = true := List.any_eq_true.2 ⟨xs[k], List.getElem_mem hlt, HPX.out⟩
        simp [this]
    · clear hB
      go_wp2_with fail
      go_ret
      refine ⟨⟨-1, rfl, ?_⟩, HB.out⟩
      have : xs.any p = false := by
        rw [List.any_eq_false]
        intro x hx
        obtain ⟨j, hj, rfl⟩ := List.getElem_of_mem hx
        simp [HA.out j hj (by omega)]
      simp [this]

set_option maxHeartbeats 1000000 in
theorem conR2_any (p : Route → Bool) (cap : Value) (v : Value) (xs : List Route) (w : World) (h : Sl routeR w v xs) (hl : xs.length ≤ 1000000) (hp : ask p 88 cap w) :
    Calls Try.prog 85 #[v, .func (.func 88) #[] #[cap]] w fun e w' => e = .returned (.bool (xs.any p)) ∧ Below w.heap.size w w' := by
  have HI := Go.Lib.hid (idxR2_any p cap v xs w h hl hp)
  clear h hp
  go_enter Try.func85, Try.ntmps85
  go_wp2_with fail
  refine HI.out.mono ?_
  rintro e w1 ⟨⟨n, rfl, hn⟩, hb1⟩
  have HB1 := Go.Lib.hid hb1
  clear hb1
  go_wp2_with fail
  go_ret
  exact ⟨by first | rfl | exact eb hn, HB1.out⟩
end Go.Proofs.Ytbpamllmbdcdfaa
