/-
  Walks of the rib layer: the document's sameRoute, routeAt.
-/
import Derived.Test.YtbpamllmbdcdfaaRibQ
namespace Go.Proofs.Ytbpamllmbdcdfaa
open Go.RowKit Go.Deep

set_option maxRecDepth 100000 in
set_option maxHeartbeats 2000000 in
theorem refSame_any (x r : Route) (v1 v2 : Value) (w : World) (h1 : Sl intR w v1 x.hops) (h2 : Sl intR w v2 r.hops) :
    Calls Try.prog 90 #[x.agg v1, r.agg v2] w fun e w' => e = .returned (.bool (sameR x r)) ∧ Below w.heap.size w w' := by
  obtain ⟨⟨xa, xb⟩, xh, xc, xs⟩ := x
  obtain ⟨⟨ra, rb⟩, rh, rc, rs⟩ := r
  unfold Route.agg sameR sameP
  simp only at h1 h2 ⊢
  have hl1 := h1.len_le
  have hl2 := h2.len_le
  obtain ⟨A1, c1, rfl⟩ := h1.form
  obtain ⟨A2, c2, rfl⟩ := h2.form
  have HS1 := Go.Lib.hid h1
  have HS2 := Go.Lib.hid h2
  have q1 := neq_pref xa xb ra rb
  have q2 := fun a b => guard_pref .neq a b
  clear h1 h2
  obtain ⟨n1, hn1⟩ : ∃ n, xs.length = n := ⟨_, rfl⟩
  obtain ⟨n2, hn2⟩ : ∃ n, rs.length = n := ⟨_, rfl⟩
  have HN1 := Go.Lib.hid hn1
  have HN2 := Go.Lib.hid hn2
  rw [hn1] at hl1
  rw [hn2] at hl2
  have HB := Go.Lib.hid (two_boxes w #[.int .i64 xa, .int .i64 xb, .bool xh, .int .i64 xc, .slice A1 n1 c1] #[.int .i64 ra, .int .i64 rb, .bool rh, .int .i64 rc, .slice A2 n2 c2] 54 54)
  rw [hn1, hn2]
  clear hn1 hn2
  rcases hp : (xa == ra && xb == rb) with _ | _
  · rw [hp] at q1
    clear hp
    go_enter Try.func90, Try.ntmps90
    go_wp2_with fail
    go_ret
    exact ⟨rfl, HB.out⟩
  rw [hp] at q1
  clear hp
  rcases hh : (xh == rh) with _ | _
  · go_enter Try.func90, Try.ntmps90
    go_wp2_with fail
    go_ret
    exact ⟨rfl, HB.out⟩
  rcases hc : (xc == rc) with _ | _
  · have t2 : (xc != rc) = true := by simp [bne, hc]
    go_enter Try.func90, Try.ntmps90
    go_wp2_with fail
    go_ret
    exact ⟨rfl, HB.out⟩
  have t2 : (xc != rc) = false := by simp [bne, hc]
  by_cases hln : n1 = n2
  · subst hln
    have hnn : ((n1 : Int) != (n1 : Int)) = false := by simp
    go_enter Try.func90, Try.ntmps90
    go_wp2_with fail
    go_loopw [5] (fun s5 wr => ∃ k : Nat, k ≤ n1 ∧ s5 = .int .i64 k ∧ Below (w.heap.size + 1 + 1) ((w.alloc (.cells #[.int .i64 xa, .int .i64 xb, .bool xh, .int .i64 xc, .slice A1 n1 c1] 54)).alloc (.cells #[.int .i64 ra, .int .i64 rb, .bool rh, .int .i64 rc, .slice A2 n1 c2] 54)) wr ∧ ∀ j, (h : j < xs.length) → (h' : j < rs.length) → j < k → xs[j] = rs[j]) (fun s5 _ => n1 - (intOf s5).toNat)
    case atStart => exact ⟨0, Nat.zero_le _, rfl, Below.refl _ _, fun j _ _ h => absurd h (by omega)⟩
    case round =>
      obtain ⟨k, hk, rfl, hB, hall⟩ := hrel
      have HBW := Go.Lib.hid hB
      have HA := Go.Lib.hid hall
      have hBB : Below w.heap.size w wr := HB.out.trans (hB.mono (by omega))
      have HBB := Go.Lib.hid hBB
      have hz : w.heap.size + 1 < wr.heap.size := by have := hB.size; simp at this; omega
      have c1' : ∀ i, wr.cell? ⟨w.heap.size, i, none⟩ = #[Value.int .i64 xa, .int .i64 xb, .bool xh, .int .i64 xc, .slice A1 n1 c1][i]? := fun i => by
        rw [bAt hB (by omega), World.cell?_alloc_lt _ _ _ (by simp), World.cell?_alloc_at _ _ _ _ rfl]
      have c2' : ∀ i, wr.cell? ⟨w.heap.size + 1, i, none⟩ = #[Value.int .i64 ra, .int .i64 rb, .bool rh, .int .i64 rc, .slice A2 n1 c2][i]? := fun i => by
        rw [bAt hB (by omega), World.cell?_alloc_at _ _ _ _ (by simp)]
      clear hall
      by_cases hlt : k < n1
      · have k1 : k < xs.length := by rw [HN1.out]; exact hlt
        have k2 : k < rs.length := by rw [HN2.out]; exact hlt
        obtain ⟨b1, o1, rfl, hb1⟩ := HS1.out.at_ k1
        obtain ⟨b2, o2, rfl, hb2⟩ := HS2.out.at_ k2
        have f1 := ((HS1.out).below hBB).int k1
        have g1 := ((HS2.out).below hBB).int k2
        obtain ⟨f1, _⟩ := f1
        obtain ⟨g1, _⟩ := g1
        have r0 : (0 : Int) ≤ (k : Int) := Int.natCast_nonneg _
        have r1 : (k : Int) < (n1 : Int) := by omega
        obtain ⟨x, hx⟩ : ∃ x, xs[k] = x := ⟨_, rfl⟩
        obtain ⟨y, hy⟩ : ∃ y, rs[k] = y := ⟨_, rfl⟩
        rw [hx] at f1
        rw [hy] at g1
        have HX := Go.Lib.hid hx
        have HY := Go.Lib.hid hy
        clear hB hBB hx hy
        by_cases hxy : x = y
        · have t3 : (x != y) = false := by simp [hxy]
          have HXY := Go.Lib.hid hxy
          clear hxy
          go_wp2_with fail
          go_quiet (fail)
          go_wp2_with fail
          go_roundw
          case rel =>
            refine ⟨k + 1, by omega, by go_num, bDrewN HBW.out _, fun j hj hj' hjk => ?_⟩
            by_cases e : j = k
            · subst e; rw [HX.out, HY.out, HXY.out]
            · exact HA.out j hj hj' (by omega)
          case measure => simp [intOf]; omega
        · have t3 : (x != y) = true := by simp [hxy]
          have HXY := Go.Lib.hid hxy
          clear hxy
          go_wp2_with fail
          go_quiet (fail)
          go_wp2_with fail
          go_ret
          refine ⟨eb ?_, bDrewN HBB.out _⟩
          have : (xs == rs) = false := by
            rw [beq_eq_false_iff_ne]
            intro e
            subst e
            exact HXY.out (HX.out.symm.trans HY.out)
          simp [this]
      · clear hB hBB
        go_wp2_with fail
        go_ret
        refine ⟨eb ?_, HBB.out⟩
        have : (xs == rs) = true := by
          rw [beq_iff_eq]
          exact List.ext_getElem (by rw [HN1.out, HN2.out]) (fun j hj hj' => HA.out j hj hj' (by have := HN1.out; omega))
        simp [this]
  · have hnn : ((n1 : Int) != (n2 : Int)) = true := by simp; omega
    have HLN := Go.Lib.hid hln
    clear hln
    go_enter Try.func90, Try.ntmps90
    go_wp2_with fail
    go_ret
    refine ⟨eb ?_, HB.out⟩
    have : (xs == rs) = false := by
      rw [beq_eq_false_iff_ne]
      intro e
      exact HLN.out (by rw [← HN1.out, ← HN2.out, e])
    simp [this]

theorem Sl.fiveB {w : World} {v : Value} {xs : List Int} {B : Nat} (h : SlR intR w (fun k => k < w.heap.size ∧ k ≠ B) v xs) (a b c d e : Value) :
    Sl intR (((((w.setCell ⟨B, 0, none⟩ a).setCell ⟨B, 1, none⟩ b).setCell ⟨B, 2, none⟩ c).setCell ⟨B, 3, none⟩ d).setCell ⟨B, 4, none⟩ e) v xs := by
  refine SlR.keep h (fun k hk => ?_) (fun k hk => ?_)
  · iterate 5 rw [Below.heap_setCell _ _ _ k hk.2]
  · simpa [World.setCell] using hk.1
def AtPost (xs : List Route) (p : Prefix) (w : World) (e : Ending) (w' : World) : Prop :=
  ∃ (r : Route) (v' : Value), e = .returned (.tuple #[r.agg v', .bool (atR xs p).isSome]) ∧ Sl intR w' v' r.hops ∧ (∀ j, atR xs p = some j → xs[j]? = some r) ∧ Below w.heap.size w w'
theorem b5B {w w1 : World} {B : Nat} (h : Below w.heap.size w w1) (hB : w.heap.size ≤ B) (a b c d e : Value) :
    Below w.heap.size w (((((w1.setCell ⟨B, 0, none⟩ a).setCell ⟨B, 1, none⟩ b).setCell ⟨B, 2, none⟩ c).setCell ⟨B, 3, none⟩ d).setCell ⟨B, 4, none⟩ e) :=
  ((((h.setCell hB _).setCell hB _).setCell hB _).setCell hB _).setCell hB _

set_option maxRecDepth 100000 in
set_option maxHeartbeats 2000000 in
theorem routeAt_any (v : Value) (xs : List Route) (p : Prefix) (w : World) (h : Sl routeR w v xs) (hl : xs.length ≤ 1000000) :
    Calls Try.prog 89 #[v, .agg #[.int .i64 p.addr, .int .i64 p.bits]] w (AtPost xs p w) := by
  obtain ⟨A, c, rfl⟩ := h.form
  have H := Go.Lib.hid h
  have HB := Go.Lib.hid (two_boxes w #[.int .i64 p.addr, .int .i64 p.bits] #[.int .i64 0, .int .i64 0, .bool false, .int .i64 0, .slice none 0 0] 52 54)
  have q2 := fun a b => guard_pref .eql a b
  clear h
  go_enter Try.func89, Try.ntmps89
  go_wp2_with fail
  go_loopw [6] (fun s6 wr => ∃ k : Nat, k ≤ xs.length ∧ s6 = .int .i64 k ∧ Below (w.heap.size + 1 + 1) ((w.alloc (.cells #[.int .i64 p.addr, .int .i64 p.bits] 52)).alloc (.cells #[.int .i64 0, .int .i64 0, .bool false, .int .i64 0, .slice none 0 0] 54)) wr ∧ ∀ j, (h : j < xs.length) → j < k → sameP xs[j].pre p = false) (fun s6 _ => xs.length - (intOf s6).toNat)
  case atStart => exact ⟨0, Nat.zero_le _, rfl, Below.refl _ _, fun j _ h => absurd h (by omega)⟩
  case round =>
    obtain ⟨k, hk, rfl, hB, hall⟩ := hrel
    have HBW := Go.Lib.hid hB
    have HA := Go.Lib.hid hall
    have hBB : Below w.heap.size w wr := HB.out.trans (hB.mono (by omega))
    have HBB := Go.Lib.hid hBB
    have hz : w.heap.size + 1 < wr.heap.size := by have := hB.size; simp at this; omega
    have hz0 : w.heap.size < wr.heap.size := by omega
    have c1' : ∀ i, wr.cell? ⟨w.heap.size, i, none⟩ = #[Value.int .i64 p.addr, .int .i64 p.bits][i]? := fun i => by
      rw [bAt hB (by omega), World.cell?_alloc_lt _ _ _ (by simp), World.cell?_alloc_at _ _ _ _ rfl]
    have c2' : ∀ i, wr.cell? ⟨w.heap.size + 1, i, none⟩ = #[Value.int .i64 0, .int .i64 0, .bool false, .int .i64 0, .slice none 0 0][i]? := fun i => by
      rw [bAt hB (by omega), World.cell?_alloc_at _ _ _ _ (by simp)]
    have z2' : ∀ i, wr.frozen? ⟨w.heap.size + 1, i, none⟩ = false := fun i => by
      rw [bFz hB (by omega)]; exact World.frozen?_alloc_at _ _ _ _ (by simp)
    clear hall
    by_cases hlt : k < xs.length
    · obtain ⟨b, off, rfl, hb⟩ := H.out.at_ hlt
      have hHS := H.out
      obtain ⟨vh, f1, f2, f3, f4, f5, hs, _⟩ := (H.out.below hBB).route hlt
      have hr0 : SlR intR wr (fun k => k < wr.heap.size ∧ k ≠ w.heap.size + 1) vh xs[k].hops := by
        obtain ⟨vh', _, _, _, _, f5', hs0, _⟩ := H.out.route hlt
        have : vh' = vh := by
          have e := (bAt hBB hb (off + k * 5 + 4)).trans f5'
          rw [f5] at e; injection e with e; exact e.symm
        subst this
        exact SlR.keep hs0 hBB.block (fun q hq => ⟨by omega, by omega⟩)
      have HR0 := Go.Lib.hid hr0
      have r0 : (0 : Int) ≤ (k : Int) := Int.natCast_nonneg _
      have r1 : (k : Int) < (xs.length : Int) := by omega
      have q1 := eql_pref xs[k].pre.addr xs[k].pre.bits p.addr p.bits
      rcases hp : sameP xs[k].pre p with _ | _
      · have HP := Go.Lib.hid hp
        unfold sameP at hp
        rw [hp] at q1
        clear hp hB hBB hs hr0 hHS
        go_wp2_with fail
        go_quiet (fail)
        go_wp2_with fail
        go_roundw
        case rel =>
          refine ⟨k + 1, by omega, by go_num, bDrewN HBW.out _, fun j hj hjk => ?_⟩
          by_cases e : j = k
          · subst e; exact HP.out
          · exact HA.out j hj (by omega)
        case measure => simp [intOf]; omega
      · have HAT := Go.Lib.hid (atR_some hlt HA.out hp)
        unfold sameP at hp
        rw [hp] at q1
        obtain ⟨Ah, ch, rfl⟩ := hs.form
        clear hp hB hBB hs hr0 hHS
        go_wp2_with fail
        go_quiet (fail)
        go_wp2_with fail
        refine bodyPost_ret (v := .tuple #[xs[k].agg (.slice Ah xs[k].hops.length ch), .bool true]) (by simp [results, Try.results89, go_sem, Route.agg, *]) rfl ⟨xs[k], _, by rw [HAT.out]; rfl, ?_, fun j hj => ?_, ?_⟩
        · exact Sl.fiveB (SlR.keep HR0.out (fun _ _ => rfl) (fun q hq => hq)) _ _ _ _ _
        · rw [HAT.out] at hj
          injection hj with hj
          subst hj
          exact List.getElem?_eq_getElem hlt
        · exact b5B (bDrewN HBB.out _) (by omega) _ _ _ _ _
    · have HAT := Go.Lib.hid (atR_none (l := xs) (p := p) fun j hj => HA.out j hj (by omega))
      clear hB hBB
      go_wp2_with fail
      refine bodyPost_ret (v := .tuple #[zeroR.agg (.slice none 0 0), .bool false]) (by simp [results, Try.results89, go_sem, Route.agg, zeroR, *]) rfl ⟨zeroR, _, by rw [HAT.out]; rfl, Sl.nil _ _, fun j hj => ?_, ?_⟩
      · rw [HAT.out] at hj; cases hj
      · exact b5B HBB.out (by omega) _ _ _ _ _
end Go.Proofs.Ytbpamllmbdcdfaa
