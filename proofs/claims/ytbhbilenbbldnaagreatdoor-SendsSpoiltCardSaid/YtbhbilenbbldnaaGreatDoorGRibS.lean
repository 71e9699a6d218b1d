/-
  
-/
import Derived.Test.YtbhbilenbbldnaaGreatDoorGRibF
import Derived.Test.YtbhbilenbbldnaaGreatDoorGOwn
import Derived.Laws.StructEq
import Derived.Test.YtbhbilenbbldnaaGreatDoorGTaB
import Derived.Test.YtbhbilenbbldnaaGreatDoorGIns2
set_option linter.unusedVariables false
set_option linter.unusedSimpArgs false
namespace Go.Proofs.YtbhbilenbbldnaaGreatDoor
open Go.RowKit Go.Sort
theorem OwR.lower {α : Type} {r : Rep α} {E base base' : Nat} {w : World} {v : Value} {xs : List α} (h : OwR r E base w v xs) (hb : base' ≤ base) : OwR r E base' w v xs := by
 obtain ⟨css, g1, g2, g3, g4⟩ := h
 refine ⟨css, g1, g2, ⟨g3.1, ?_⟩, by omega⟩
 rcases g3.2 with h | ⟨g, cap, cur, a1, a2, a3⟩
 · exact .inl h
 · exact .inr ⟨g, cap, cur, a1, by omega, a3⟩
theorem OwR.form {α : Type} {r : Rep α} {E base : Nat} {w : World} {v : Value} {xs : List α} (h : OwR r E base w v xs) : ∃ A c, v = .slice A xs.length c := by
 obtain ⟨css, g1, g2, g3, g4⟩ := h
 rcases g3.2 with ⟨rfl, h⟩ | ⟨g, cap, cur, rfl, _⟩
 · exact ⟨none, 0, by rw [h]⟩
 · exact ⟨_, _, rfl⟩
theorem pastAlloc2F {wr w1 : World} {cs ds : Array Value} {t u : TypeId} (h : Below ((wr.alloc (.cells cs t)).alloc (.cells ds u)).heap.size ((wr.alloc (.cells cs t)).alloc (.cells ds u)) w1) :
  (∀ i, w1.frozen? ⟨wr.heap.size, i, none⟩ = false) ∧ (∀ i, w1.frozen? ⟨wr.heap.size + 1, i, none⟩ = false) := by
 obtain ⟨h1, h2, h3, h4⟩ := pastAlloc h
 rw [World.size_alloc] at h1 h2 h3 h4
 obtain ⟨g1, g2, g3, _⟩ := pastAlloc (wr := wr) (w1 := w1) (cs := cs) (t := t) (by rw [World.size_alloc]; exact h1)
 exact ⟨g3, h3⟩
theorem grown_setCell (w : World) (p : Addr) (u : Value) : w.grownBy (w.setCell p u) (some p.block) :=
 ⟨rfl, rfl, rfl, by simp [World.setCell], fun k _ hne => Below.heap_setCell _ _ _ _ (fun e => hne (by rw [e]))⟩
theorem OwR.setCellI {E base : Nat} {w : World} {v : Value} {xs : List Int} (h : OwR intR E base w v xs) {p : Addr} (hp : p.block < base) (u : Value) : OwR intR E base (w.setCell p u) v xs :=
 h.kept (grown_setCell w p u) (.inr (fun e => by have := (h.base_le _ e).1; omega))
def CopPost (w : World) (r : Route) (e : Ending) (w' : World) : Prop :=
 ∃ v', e = .returned (.agg #[.int .i64 r.pre.addr, .int .i64 r.pre.bits, .bool r.here, .int .i64 r.cost, v']) ∧ OwR intR 3 w.heap.size w' v' r.hops ∧ Below w.heap.size w w'
set_option maxHeartbeats 1000000 in
theorem copied_any (r : Route) (v : Value) (w : World) (h : Sl intR w v r.hops) (hl : r.hops.length ≤ 1000) :
  Calls Tryz.prog 63 #[.agg #[.int .i64 r.pre.addr, .int .i64 r.pre.bits, .bool r.here, .int .i64 r.cost, v]] w (CopPost w r) := by
 obtain ⟨A, c, rfl⟩ := h.form
 obtain ⟨hs, hhs⟩ : ∃ hs, r.hops = hs := ⟨_, rfl⟩
 rw [hhs] at h hl ⊢
 have HHS := Go.Lib.hid hhs
 have hb : Below w.heap.size w ((w.alloc (.cells #[.int .i64 r.pre.addr, .int .i64 r.pre.bits, .bool r.here, .int .i64 r.cost, .slice A hs.length c] 75)).alloc (.cells #[.int .i64 0, .int .i64 0, .bool false, .int .i64 0, .slice none 0 0] 75)) := ((Below.refl _ _).alloc (Nat.le_refl _) _).alloc (by simp) _
 have hcl := cloneI_any _ hs _ (h.below hb) (by omega)
 have HCL := Go.Lib.hid hcl
 clear h hb hcl hhs
 go_enter Tryz.func63, Tryz.ntmps63
 go_wp2_with fail
 refine HCL.out.mono ?_
 rintro e w1 ⟨v1, rfl, ho1, hb1⟩
 obtain ⟨A1, c1, rfl⟩ := ho1.form
 obtain ⟨hA, hN, hM, hS⟩ := pastAlloc2 hb1
 obtain ⟨hF1, hF2⟩ := pastAlloc2F hb1
 have HA := Go.Lib.hid hA
 have HO := Go.Lib.hid ho1
 clear hA hb1 ho1 HCL
 go_wp2_with fail
 refine bodyPost_ret (v := .agg #[.int .i64 r.pre.addr, .int .i64 r.pre.bits, .bool r.here, .int .i64 r.cost, .slice A1 hs.length c1]) (by simp [results, Tryz.results63, go_sem, *]) rfl ⟨_, rfl, ?_, ?_⟩
 · have h0 : OwR intR 3 (w.heap.size + 1 + 1) w1 (.slice A1 hs.length c1) hs := by
    have := HO.out
    rw [World.size_alloc, World.size_alloc] at this
    exact this
   rw [HHS.out]
   refine OwR.lower (base := w.heap.size + 1 + 1) ?_ (by omega)
   iterate 6 refine OwR.setCellI ?_ (by dsimp only; omega) _
   exact h0
 · iterate 6 refine Below.setCell ?_ (by dsimp only; omega) _
   exact HA.out
end Go.Proofs.YtbhbilenbbldnaaGreatDoor

namespace Go.Proofs.YtbhbilenbbldnaaGreatDoor
open Go.RowKit
end Go.Proofs.YtbhbilenbbldnaaGreatDoor

namespace Go.Proofs.YtbhbilenbbldnaaGreatDoor
open Go.RowKit
theorem eql_pref (a b c d : Int) (w : World) :
  (binOp .eql 32 (.agg #[.int .i64 a, .int .i64 b]) (.agg #[.int .i64 c, .int .i64 d])).run Tryz.prog w = .ok (.bool (a == c && b == d)) w := by
 have hS : Tryz.prog.underlying 32 = some (.struct (Tryz.prog.fieldsOf 32)) := by kernel_rfl
 have hp : Tryz.prog.stoodInHeld 32 = false := by kernel_rfl
 have u3 := Tryz.underlying3
 have a3 := Tryz.isAgg3
 have z3 := Tryz.sizeOf3
 rw [run_eql_struct, show (10000 : Nat) = 9999 + 1 from rfl, run_equalIn_agg w 9999 32 _ _ hS hp]
 simp only [Program.fieldsOf, Tryz.underlying32]
 go_simp
 by_cases h1 : a = c <;> by_cases h2 : b = d <;> simp [h1, h2]
theorem guard_pref (op : BinOp) (a b : Operand) (x y : Array Value) (w : World) : (eqGuard op 32 a b (.agg x) (.agg y)).run Tryz.prog w = .ok () w :=
 run_eqGuard_agg w op _ a b x y (by kernel_rfl)
def Route.agg (r : Route) (v : Value) : Value := .agg #[.int .i64 r.pre.addr, .int .i64 r.pre.bits, .bool r.here, .int .i64 r.cost, v]
end Go.Proofs.YtbhbilenbbldnaaGreatDoor

namespace Go.Proofs.YtbhbilenbbldnaaGreatDoor
open Go.RowKit Go.Deep
set_option maxHeartbeats 1000000 in
theorem equalI_any (v1 v2 : Value) (xs ys : List Int) (w : World) (h1 : Sl intR w v1 xs) (h2 : Sl intR w v2 ys) :
  Calls Tryz.prog 22 #[v1, v2] w fun e w' => e = .returned (.bool (xs == ys)) ∧ Below w.heap.size w w' := by
 have hl1 := h1.len_le
 have hl2 := h2.len_le
 obtain ⟨A1, c1, rfl⟩ := h1.form
 obtain ⟨A2, c2, rfl⟩ := h2.form
 have H1 := Go.Lib.hid h1
 have H2 := Go.Lib.hid h2
 clear h1 h2
 by_cases hlen : xs.length = ys.length
 · obtain ⟨n, hn⟩ : ∃ n, xs.length = n := ⟨_, rfl⟩
   have hn2 : ys.length = n := by omega
   have HN := Go.Lib.hid hn
   have HN2 := Go.Lib.hid hn2
   rw [hn, hn2]
   rw [hn] at hl1
   clear hlen hl2 hn hn2
   go_enter Tryz.func22, Tryz.ntmps22
   go_wp2_with fail
   go_loopw [5, 13] (fun _ s13 wr => ∃ k : Nat, k ≤ n ∧ s13 = .int .i64 k ∧ Below w.heap.size w wr ∧ ∀ j, (h : j < xs.length) → (h' : j < ys.length) → j < k → xs[j] = ys[j]) (fun _ s13 _ => n - (intOf s13).toNat)
   case atStart => exact ⟨0, Nat.zero_le _, rfl, Below.refl _ _, fun j _ _ h => absurd h (by omega)⟩
   case round =>
    obtain ⟨k, hk, rfl, hB, hall⟩ := hrel
    have HB := Go.Lib.hid hB
    have HA := Go.Lib.hid hall
    clear hall
    by_cases hlt : k < n
    · have k1 : k < xs.length := by rw [HN.out]; exact hlt
      have k2 : k < ys.length := by rw [HN2.out]; exact hlt
      obtain ⟨b1, o1, rfl, hb1⟩ := H1.out.at_ k1
      obtain ⟨b2, o2, rfl, hb2⟩ := H2.out.at_ k2
      obtain ⟨f1, _⟩ := (H1.out.below hB).int k1
      obtain ⟨g1, _⟩ := (H2.out.below hB).int k2
      have r0 : (0 : Int) ≤ (k : Int) := Int.natCast_nonneg _
      have r1 : (k : Int) < (n : Int) := by omega
      obtain ⟨x, hx⟩ : ∃ x, xs[k] = x := ⟨_, rfl⟩
      obtain ⟨y, hy⟩ : ∃ y, ys[k] = y := ⟨_, rfl⟩
      rw [hx] at f1
      rw [hy] at g1
      have HX := Go.Lib.hid hx
      have HY := Go.Lib.hid hy
      clear hB hx hy
      by_cases hxy : x = y
      · have t1 : (x != y) = false := by simp [hxy]
        have HXY := Go.Lib.hid hxy
        clear hxy
        go_wp2_with fail
        go_quiet (fail)
        go_wp2_with fail
        go_roundw
        case rel =>
         refine ⟨k + 1, by omega, by go_num, bDrewN HB.out _, fun j hj hj' hjk => ?_⟩
         by_cases e : j = k
         · subst e; rw [HX.out, HY.out, HXY.out]
         · exact HA.out j hj hj' (by omega)
        case measure => simp [intOf]; omega
      · have t1 : (x != y) = true := by simp [hxy]
        have HXY := Go.Lib.hid hxy
        clear hxy
        go_wp2_with fail
        go_quiet (fail)
        go_wp2_with fail
        go_ret
        refine ⟨eb ?_, bDrewN HB.out _⟩
        symm
        rw [beq_eq_false_iff_ne]
        intro e
        subst e
        exact HXY.out (HX.out.symm.trans HY.out)
    · clear hB
      go_wp2_with fail
      go_ret
      refine ⟨eb ?_, HB.out⟩
      symm
      rw [beq_iff_eq]
      exact List.ext_getElem (by rw [HN.out, HN2.out]) (fun j hj hj' => HA.out j hj hj' (by have := HN.out; omega))
 · have t1 : (((xs.length : Nat) : Int) != ((ys.length : Nat) : Int)) = true := by simp; omega
   have HL := Go.Lib.hid hlen
   clear hlen
   go_enter Tryz.func22, Tryz.ntmps22
   go_wp2_with fail
   go_ret
   refine ⟨eb ?_, Below.refl _ _⟩
   symm
   rw [beq_eq_false_iff_ne]
   intro e
   exact HL.out (by rw [e])
theorem two_boxes (w : World) (cs ds : Array Value) (t u : TypeId) : Below w.heap.size w ((w.alloc (.cells cs t)).alloc (.cells ds u)) := ((Below.refl _ _).alloc (Nat.le_refl _) _).alloc (by simp) _
set_option maxRecDepth 100000 in
set_option maxHeartbeats 1000000 in
theorem ribSame_any (x r : Route) (v1 v2 : Value) (w : World) (h1 : Sl intR w v1 x.hops) (h2 : Sl intR w v2 r.hops) :
  Calls Tryz.prog 135 #[x.agg v1, r.agg v2] w fun e w' => e = .returned (.bool (sameR x r)) ∧ Below w.heap.size w w' := by
 obtain ⟨⟨xa, xb⟩, xh, xc, xs⟩ := x
 obtain ⟨⟨ra, rb⟩, rh, rc, rs⟩ := r
 unfold Route.agg sameR sameP
 simp only at h1 h2 ⊢
 obtain ⟨A1, c1, rfl⟩ := h1.form
 obtain ⟨A2, c2, rfl⟩ := h2.form
 have hb := two_boxes w #[.int .i64 xa, .int .i64 xb, .bool xh, .int .i64 xc, .slice A1 xs.length c1] #[.int .i64 ra, .int .i64 rb, .bool rh, .int .i64 rc, .slice A2 rs.length c2] 75 75
 have HC := Go.Lib.hid (equalI_any _ _ xs rs _ (h1.below hb) (h2.below hb))
 have HB := Go.Lib.hid hb
 clear h1 h2 hb
 have q1 := eql_pref xa xb ra rb
 have q2 := fun a b => guard_pref .eql a b
 rcases hp : (xa == ra && xb == rb) with _ | _
 · rw [hp] at q1
   clear hp
   go_enter Tryz.func135, Tryz.ntmps135
   go_wp2_with fail
   go_ret
   exact ⟨rfl, HB.out⟩
 · rw [hp] at q1
   clear hp
   rcases hh : (xh == rh) with _ | _
   · go_enter Tryz.func135, Tryz.ntmps135
     go_wp2_with fail
     go_ret
     exact ⟨rfl, HB.out⟩
   · rcases hc : (xc == rc) with _ | _
     · go_enter Tryz.func135, Tryz.ntmps135
       go_wp2_with fail
       go_ret
       exact ⟨rfl, HB.out⟩
     · go_enter Tryz.func135, Tryz.ntmps135
       go_wp2_with fail
       refine HC.out.mono ?_
       rintro e w1 ⟨rfl, hb1⟩
       have HB1 := Go.Lib.hid (HB.out.trans (hb1.mono HB.out.size))
       clear hb1
       go_wp2_with fail
       go_ret
       exact ⟨rfl, HB1.out⟩
def BoxAt (w : World) (g : Nat) (r : Route) (v : Value) : Prop := g < w.heap.size ∧ (∀ i, w.cell? ⟨g, i, none⟩ = #[Value.int .i64 r.pre.addr, .int .i64 r.pre.bits, .bool r.here, .int .i64 r.cost, v][i]?)
theorem BoxAt.keep {w w' : World} {g : Nat} {r : Route} {v : Value} (h : BoxAt w g r v) (hb : Below w.heap.size w w') : BoxAt w' g r v := ⟨Nat.lt_of_lt_of_le h.1 hb.size, fun i => (bAt hb h.1 i).trans (h.2 i)⟩
set_option maxRecDepth 100000 in
set_option maxHeartbeats 1000000 in
theorem diffC1_any (x r : Route) (v1 v2 : Value) (g : Nat) (w : World) (h1 : Sl intR w v1 x.hops) (h2 : Sl intR w v2 r.hops) (hg : BoxAt w g r v2) :
  Calls Tryz.prog 134 #[x.agg v1, .pointer (some ⟨g, 0, none⟩)] w fun e w' => e = .returned (.bool (sameR x r)) ∧ Below w.heap.size w w' := by
 obtain ⟨A1, c1, rfl⟩ := h1.form
 obtain ⟨A2, c2, rfl⟩ := h2.form
 have hb : Below w.heap.size w (w.alloc (.cells #[.int .i64 x.pre.addr, .int .i64 x.pre.bits, .bool x.here, .int .i64 x.cost, .slice A1 x.hops.length c1] 75)) := (Below.refl _ _).alloc (Nat.le_refl _) _
 have hcal := ribSame_any x r _ _ _ (h1.below hb) (h2.below hb)
 unfold Route.agg at hcal ⊢
 obtain ⟨hx, hhx⟩ : ∃ l, x.hops = l := ⟨_, rfl⟩
 obtain ⟨hr, hhr⟩ : ∃ l, r.hops = l := ⟨_, rfl⟩
 rw [hhx, hhr] at hcal
 rw [hhx] at hb ⊢
 rw [hhr] at hg
 obtain ⟨hg1, hg2⟩ := hg
 have HC := Go.Lib.hid hcal
 have HB := Go.Lib.hid hb
 clear h1 h2 hb hcal hhx hhr
 go_enter Tryz.func134, Tryz.ntmps134
 go_wp2_with fail
 refine HC.out.mono ?_
 rintro e w1 ⟨rfl, hb1⟩
 have HB1 := Go.Lib.hid (HB.out.trans (hb1.mono HB.out.size))
 clear hb1
 go_wp2_with fail
 go_ret
 exact ⟨rfl, HB1.out⟩
set_option maxRecDepth 100000 in
set_option maxHeartbeats 1000000 in
theorem diffC2_any (x r : Route) (v1 v2 : Value) (g : Nat) (w : World) (h1 : Sl intR w v1 x.hops) (hg : BoxAt w g r v2) :
  Calls Tryz.prog 136 #[x.agg v1, .pointer (some ⟨g, 0, none⟩)] w fun e w' => e = .returned (.bool (sameP x.pre r.pre)) ∧ Below w.heap.size w w' := by
 obtain ⟨A1, c1, rfl⟩ := h1.form
 have hb : Below w.heap.size w (w.alloc (.cells #[.int .i64 x.pre.addr, .int .i64 x.pre.bits, .bool x.here, .int .i64 x.cost, .slice A1 x.hops.length c1] 75)) := (Below.refl _ _).alloc (Nat.le_refl _) _
 obtain ⟨hx, hhx⟩ : ∃ l, x.hops = l := ⟨_, rfl⟩
 unfold Route.agg
 rw [hhx] at hb ⊢
 obtain ⟨hg1, hg2⟩ := hg
 have HB := Go.Lib.hid hb
 have q1 := eql_pref x.pre.addr x.pre.bits r.pre.addr r.pre.bits
 have q2 := fun a b => guard_pref .eql a b
 clear h1 hb hhx
 go_enter Tryz.func136, Tryz.ntmps136
 go_wp2_with fail
 go_ret
 exact ⟨rfl, HB.out⟩
def ask (p : Route → Bool) (fid : Nat) (cap : Value) (w : World) : Prop := ∀ (x : Route) (v : Value) (w' : World), Below w.heap.size w w' → Sl intR w' v x.hops → Calls Tryz.prog fid #[x.agg v, cap] w' fun e w'' => e = .returned (.bool (p x)) ∧ Below w'.heap.size w' w''
set_option maxRecDepth 100000 in
set_option maxHeartbeats 1000000 in
theorem idxR1_any (p : Route → Bool) (cap : Value) (v : Value) (xs : List Route) (w : World) (h : Sl routeR w v xs) (hl : xs.length ≤ 1000000) (hp : ask p 134 cap w) :
  Calls Tryz.prog 170 #[v, .func (.func 134) #[] #[cap]] w fun e w' => (∃ n : Int, e = .returned (.int .i64 n) ∧ decide (0 ≤ n) = xs.any p) ∧ Below w.heap.size w w' := by
 obtain ⟨A, c, rfl⟩ := h.form
 have H := Go.Lib.hid h
 have HP := Go.Lib.hid hp
 clear h hp
 go_enter Tryz.func170, Tryz.ntmps170
 go_wp2_with fail
 go_loopw [5, 8] (fun _ i wr => ∃ k : Nat, k ≤ xs.length ∧ i = .int .i64 k ∧ Below w.heap.size w wr ∧ ∀ j, (h : j < xs.length) → j < k → p xs[j] = false) (fun _ i _ => xs.length - (intOf i).toNat)
 case atStart => exact ⟨0, Nat.zero_le _, rfl, Below.refl _ _, fun j _ h => absurd h (by omega)⟩
 case round =>
  obtain ⟨k, hk, rfl, hB, hall⟩ := hrel
  have HA := Go.Lib.hid hall
  have HB := Go.Lib.hid hB
  clear hall
  by_cases hlt : k < xs.length
  · obtain ⟨b, off, rfl, hb⟩ := H.out.at_ hlt
    obtain ⟨vh, f1, f2, f3, f4, f5, hs, _⟩ := (H.out.below hB).route hlt
    have hcal := HP.out xs[k] vh wr hB hs
    unfold Route.agg at hcal
    have HC := Go.Lib.hid hcal
    clear hB hcal hs
    go_wp2_with fail
    refine HC.out.mono ?_
    rintro e w1 ⟨rfl, hb1⟩
    have HB1 := Go.Lib.hid (HB.out.trans (hb1.mono HB.out.size))
    clear hb1
    rcases hp : p xs[k] with _ | _
    · have HPX := Go.Lib.hid hp
      clear hp
      go_wp2_with fail
      go_roundw
      case rel =>
       refine ⟨k + 1, by omega, by go_num, HB1.out, fun j hj hjk => ?_⟩
       by_cases e : j = k
       · subst e; exact HPX.out
       · exact HA.out j hj (by omega)
      case measure => simp [intOf]; omega
    · have HPX := Go.Lib.hid hp
      clear hp
      go_wp2_with fail
      go_ret
      refine ⟨⟨(k : Int), rfl, ?_⟩, HB1.out⟩
      have : xs.any p = true := List.any_eq_true.2 ⟨xs[k], List.getElem_mem hlt, HPX.out⟩
      simp [this]
  · clear hB
    go_wp2_with fail
    go_ret
    refine ⟨⟨-1, rfl, ?_⟩, HB.out⟩
    have : xs.any p = false := by
     rw [List.any_eq_false]
     intro x hx
     obtain ⟨j, hj, rfl⟩ := List.getElem_of_mem hx
     simp [HA.out j hj (by omega)]
    simp [this]
set_option maxHeartbeats 1000000 in
theorem conR1_any (p : Route → Bool) (cap : Value) (v : Value) (xs : List Route) (w : World) (h : Sl routeR w v xs) (hl : xs.length ≤ 1000000) (hp : ask p 134 cap w) :
  Calls Tryz.prog 133 #[v, .func (.func 134) #[] #[cap]] w fun e w' => e = .returned (.bool (xs.any p)) ∧ Below w.heap.size w w' := by
 have HI := Go.Lib.hid (idxR1_any p cap v xs w h hl hp)
 clear h hp
 go_enter Tryz.func133, Tryz.ntmps133
 go_wp2_with fail
 refine HI.out.mono ?_
 rintro e w1 ⟨⟨n, rfl, hn⟩, hb1⟩
 have HB1 := Go.Lib.hid hb1
 clear hb1
 go_wp2_with fail
 go_ret
 exact ⟨by first | rfl | exact eb hn, HB1.out⟩
set_option maxRecDepth 100000 in
set_option maxHeartbeats 1000000 in
theorem idxR2_any (p : Route → Bool) (cap : Value) (v : Value) (xs : List Route) (w : World) (h : Sl routeR w v xs) (hl : xs.length ≤ 1000000) (hp : ask p 136 cap w) :
  Calls Tryz.prog 170 #[v, .func (.func 136) #[] #[cap]] w fun e w' => (∃ n : Int, e = .returned (.int .i64 n) ∧ decide (0 ≤ n) = xs.any p) ∧ Below w.heap.size w w' := by
 obtain ⟨A, c, rfl⟩ := h.form
 have H := Go.Lib.hid h
 have HP := Go.Lib.hid hp
 clear h hp
 go_enter Tryz.func170, Tryz.ntmps170
 go_wp2_with fail
 go_loopw [5, 8] (fun _ i wr => ∃ k : Nat, k ≤ xs.length ∧ i = .int .i64 k ∧ Below w.heap.size w wr ∧ ∀ j, (h : j < xs.length) → j < k → p xs[j] = false) (fun _ i _ => xs.length - (intOf i).toNat)
 case atStart => exact ⟨0, Nat.zero_le _, rfl, Below.refl _ _, fun j _ h => absurd h (by omega)⟩
 case round =>
  obtain ⟨k, hk, rfl, hB, hall⟩ := hrel
  have HA := Go.Lib.hid hall
  have HB := Go.Lib.hid hB
  clear hall
  by_cases hlt : k < xs.length
  · obtain ⟨b, off, rfl, hb⟩ := H.out.at_ hlt
    obtain ⟨vh, f1, f2, f3, f4, f5, hs, _⟩ := (H.out.below hB).route hlt
    have hcal := HP.out xs[k] vh wr hB hs
    unfold Route.agg at hcal
    have HC := Go.Lib.hid hcal
    clear hB hcal hs
    go_wp2_with fail
    refine HC.out.mono ?_
    rintro e w1 ⟨rfl, hb1⟩
    have HB1 := Go.Lib.hid (HB.out.trans (hb1.mono HB.out.size))
    clear hb1
    rcases hp : p xs[k] with _ | _
    · have HPX := Go.Lib.hid hp
      clear hp
      go_wp2_with fail
      go_roundw
      case rel =>
       refine ⟨k + 1, by omega, by go_num, HB1.out, fun j hj hjk => ?_⟩
       by_cases e : j = k
       · subst e; exact HPX.out
       · exact HA.out j hj (by omega)
      case measure => simp [intOf]; omega
    · have HPX := Go.Lib.hid hp
      clear hp
      go_wp2_with fail
      go_ret
      refine ⟨⟨(k : Int), rfl, ?_⟩, HB1.out⟩
      have : xs.any p = true := List.any_eq_true.2 ⟨xs[k], List.getElem_mem hlt, HPX.out⟩
      simp [this]
  · clear hB
    go_wp2_with fail
    go_ret
    refine ⟨⟨-1, rfl, ?_⟩, HB.out⟩
    have : xs.any p = false := by
     rw [List.any_eq_false]
     intro x hx
     obtain ⟨j, hj, rfl⟩ := List.getElem_of_mem hx
     simp [HA.out j hj (by omega)]
    simp [this]
set_option maxHeartbeats 1000000 in
theorem conR2_any (p : Route → Bool) (cap : Value) (v : Value) (xs : List Route) (w : World) (h : Sl routeR w v xs) (hl : xs.length ≤ 1000000) (hp : ask p 136 cap w) :
  Calls Tryz.prog 133 #[v, .func (.func 136) #[] #[cap]] w fun e w' => e = .returned (.bool (xs.any p)) ∧ Below w.heap.size w w' := by
 have HI := Go.Lib.hid (idxR2_any p cap v xs w h hl hp)
 clear h hp
 go_enter Tryz.func133, Tryz.ntmps133
 go_wp2_with fail
 refine HI.out.mono ?_
 rintro e w1 ⟨⟨n, rfl, hn⟩, hb1⟩
 have HB1 := Go.Lib.hid hb1
 clear hb1
 go_wp2_with fail
 go_ret
 exact ⟨by first | rfl | exact eb hn, HB1.out⟩
end Go.Proofs.YtbhbilenbbldnaaGreatDoor

namespace Go.Proofs.YtbhbilenbbldnaaGreatDoor
open Go.RowKit Go.Deep
end Go.Proofs.YtbhbilenbbldnaaGreatDoor

namespace Go.Proofs.YtbhbilenbbldnaaGreatDoor
open Go.RowKit Go.Deep
theorem OwR.slC {E base : Nat} {w : World} {v : Value} {xs : List Int} (h : OwR intR E base w v xs) : SlR intR w (fun k => k < w.heap.size ∧ base ≤ k) v xs := by
 obtain ⟨A, c, rfl, h1, h2, h3⟩ := h.sl (by decide)
 refine ⟨A, c, rfl, h1, h2, fun i x hx => ?_⟩
 obtain ⟨b, off, cs, rfl, hS, hb, hh, hc⟩ := h3 i x hx
 exact ⟨b, off, cs, rfl, ⟨hb, (h.base_le b rfl).1⟩, hb, hh, hc⟩
def DiffPost (r : List Route × List Prefix × Int) (w : World) (e : Ending) (w' : World) : Prop :=
 ∃ v' u', e = .returned (.tuple #[v', u', .int .i64 r.2.2]) ∧ Sl routeR w' v' r.1 ∧ Sl prefR w' u' r.2.1 ∧ Below w.heap.size w w'
theorem d_fin {r : List Route × List Prefix × Int} {w w' : World} {v' u' : Value} {ys : List Route} {ks : List Prefix} {n : Int} (h : r = (ys, ks, n)) (h1 : Sl routeR w' v' ys) (h2 : Sl prefR w' u' ks) (hb : Below w.heap.size w w') :
 DiffPost r w (.returned (.tuple #[v', u', .int .i64 n])) w' := ⟨v', u', by rw [h], by rw [h]; exact h1, by rw [h]; exact h2, hb⟩
theorem elt_route : Elt Tryz.prog 71 75 5 56 := ⟨Tryz.underlying71, by
 have h : (Tryz.prog.info? 75).map (fun i => (i.zero, i.size, i.bytes)) = some (some (.agg #[.int .i64 0, .int .i64 0, .bool false, .int .i64 0, .slice none 0 0]), 5, 56) := by kernel_rfl
 obtain ⟨i, h1, h2, h3, h4⟩ := info_parts h
 exact ⟨i, _, h1, h2, h3, h4, rfl⟩, by decide⟩
theorem elt_pref : Elt Tryz.prog 63 32 2 16 := ⟨Tryz.underlying63, by
 have h : (Tryz.prog.info? 32).map (fun i => (i.zero, i.size, i.bytes)) = some (some (.agg #[.int .i64 0, .int .i64 0]), 2, 16) := by kernel_rfl
 obtain ⟨i, h1, h2, h3, h4⟩ := info_parts h
 exact ⟨i, _, h1, h2, h3, h4, rfl⟩, by decide⟩
theorem wpList_route {ops : Array Oper} {rest : List Oper} {o : Oper} {a : Act} {Q : Exit → Act → World → Prop} {w : World} {base : Nat} (hgd : o.guard = none) (s x : Operand)
  (ho : o.op = .call { callee := .builtin .append, args := #[s, x], argTypes := #[71, 71] }) {v vh : Value} {xs : List Route} {r : Route} {S : Nat → Prop}
  (hown : OwR routeR 75 base w v xs) (hh : SlR intR w S vh r.hops) (hw : r.wf) (hS : ∀ k, S k → k < w.heap.size ∧ v.ownBlock ≠ some k) (hs : a.eval s = v)
  {B : Nat} (hx : a.eval x = .slice (some ⟨B, 0, none⟩) 1 1) (hB : B = w.heap.size) (hb : xs.length ≤ 1000000)
  (h : ∀ v' w', OwR routeR 75 base w' v' (xs ++ [r]) → GrowTo (w.alloc (.cells #[.int .i64 r.pre.addr, .int .i64 r.pre.bits, .bool r.here, .int .i64 r.cost, vh] 75)) v w' v' → wpList Tryz.prog ops Q rest (a.put o.dst v') w') :
  wpList Tryz.prog ops Q (o :: rest) a (w.alloc (.cells #[.int .i64 r.pre.addr, .int .i64 r.pre.bits, .bool r.here, .int .i64 r.cost, vh] 75)) :=
 wpList_plain hgd fun _ hK => by
  subst hB
  have hone : SlR routeR (w.alloc (.cells #[.int .i64 r.pre.addr, .int .i64 r.pre.bits, .bool r.here, .int .i64 r.cost, vh] 75)) (fun k => S k ∨ k = w.heap.size) (.slice (some ⟨w.heap.size, 0, none⟩) 1 1) [r] := by
   refine ⟨some ⟨w.heap.size, 0, none⟩, 1, rfl, by simp, by decide, fun i y hy => ?_⟩
   match i, hy with
   | 0, hy =>
     simp at hy; subst hy
     refine ⟨w.heap.size, 0, r.cells vh, rfl, .inr rfl, by simp, ⟨vh, rfl, SlR.keep hh (fun k hk => Below.heap_alloc _ _ _ (hS k hk).1) (fun k hk => .inl hk), hw⟩, fun j u hu => ?_⟩
     rw [World.cell?_alloc_at _ _ _ _ rfl]
     simpa [Route.cells] using hu
   | i + 1, hy => simp at hy
  obtain ⟨v', w', hrun, r2, r3, r4⟩ := run_own_append (ty := o.type) elt_route (hown.alloc1 _) hone (fun cs y hy => routeR.keep hy (fun _ _ => rfl) (fun k hk => by
   rcases hk with hk | hk
   · have := hS k hk; exact ⟨by simp; omega, this.2⟩
   · subst hk; exact ⟨by simp, fun e => by have := (hown.base_le _ e).2; omega⟩)) (by unfold maxLen; simp; omega) (by simp; omega)
  unfold Oper.wp execOp
  simp only [ho, resolve, invoke, builtin, Sem.run_bind, Sem.run_pure, Result.andThen_ok, List.map_toArray, List.map_cons, List.map_nil, hs, hx, hrun]
  exact hK _ _ (h v' w' r2 (GrowTo.of_at r3 r4))
theorem wpList_pref {ops : Array Oper} {rest : List Oper} {o : Oper} {a : Act} {Q : Exit → Act → World → Prop} {w : World} {base : Nat} (hgd : o.guard = none) (s x : Operand)
  (ho : o.op = .call { callee := .builtin .append, args := #[s, x], argTypes := #[63, 63] }) {v : Value} {xs : List Prefix} {r : Prefix}
  (hown : OwR prefR 32 base w v xs) (hw : inR r.addr ∧ inR r.bits) (hs : a.eval s = v) {B : Nat} (hx : a.eval x = .slice (some ⟨B, 0, none⟩) 1 1) (hB : B = w.heap.size) (hb : xs.length ≤ 1000000)
  (h : ∀ v' w', OwR prefR 32 base w' v' (xs ++ [r]) → GrowTo (w.alloc (.cells #[.int .i64 r.addr, .int .i64 r.bits] 32)) v w' v' → wpList Tryz.prog ops Q rest (a.put o.dst v') w') :
  wpList Tryz.prog ops Q (o :: rest) a (w.alloc (.cells #[.int .i64 r.addr, .int .i64 r.bits] 32)) :=
 wpList_plain hgd fun _ hK => by
  subst hB
  have hone := SlR.one_new (r := prefR) (w := w) (cs := [.int .i64 r.addr, .int .i64 r.bits]) (x := r) (E := 32) ⟨rfl, hw⟩
  obtain ⟨v', w', hrun, r2, r3, r4⟩ := run_own_append (ty := o.type) elt_pref (hown.alloc1 _) hone (fun _ _ h => h) (by unfold maxLen; simp; omega) (by simp; omega)
  unfold Oper.wp execOp
  simp only [ho, resolve, invoke, builtin, Sem.run_bind, Sem.run_pure, Result.andThen_ok, List.map_toArray, List.map_cons, List.map_nil, hs, hx, hrun]
  exact hK _ _ (h v' w' r2 (GrowTo.of_at r3 r4))
set_option maxRecDepth 100000 in
set_option maxHeartbeats 4000000 in
theorem diff_any (v1 v2 : Value) (xs ys : List Route) (w : World) (h1 : Sl routeR w v1 xs) (h2 : Sl routeR w v2 ys) : Calls Tryz.prog 103 #[v1, v2] w (DiffPost (diffS xs ys) w) := by
 have hlen := h2.len_le
 have hlen1 := h1.len_le
 obtain ⟨A1, c1, rfl⟩ := h1.form
 obtain ⟨A2, c2, rfl⟩ := h2.form
 have H1 := Go.Lib.hid h1
 have H2 := Go.Lib.hid h2
 clear h1 h2
 go_enter Tryz.func103, Tryz.ntmps103
 go_wp2_with fail
 refine (ribCheck_any _ xs _ H1.out).mono ?_
 rintro r w1 ⟨rfl, hb1⟩
 have HB1 := Go.Lib.hid hb1
 have hz1 := hb1.size
 clear hb1
 by_cases hc : chkRoutes xs = 0
 · have t1 : (chkRoutes xs != 0) = false := by simp [hc]
   have HC := Go.Lib.hid hc
   clear hc
   go_wp2_with fail
   refine (ribCheck_any _ ys _ (H2.out.below HB1.out)).mono ?_
   rintro r w2 ⟨rfl, hb2⟩
   have HB2 := Go.Lib.hid (HB1.out.trans (hb2.mono hz1))
   have hz2 := HB2.out.size
   clear hb2
   by_cases hc2 : chkRoutes ys = 0
   · have t2 : (chkRoutes ys != 0) = false := by simp [hc2]
     have HOKA := Go.Lib.hid (routes_ok HC.out)
     have HOKB := Go.Lib.hid (routes_ok hc2)
     have hl2 := HOKB.out.1
     have hl1 := HOKA.out.1
     have HF := Go.Lib.hid (diff_ok HC.out hc2)
     clear hc2
     go_wp2_with fail
     go_loopw [9, 11, 27] (fun s9 _ s27 wr => ∃ k : Nat, k ≤ ys.length ∧ s27 = .int .i64 k ∧ OwR routeR 75 w.heap.size wr s9 ((ys.take k).filter fun r => !inTab xs r) ∧ Below w.heap.size w wr) (fun _ _ s27 _ => ys.length - (intOf s27).toNat)
     case atStart => exact ⟨0, Nat.zero_le _, rfl, OwR.nil _ _ HB2.out.size, HB2.out⟩
     case round =>
      obtain ⟨k, hk, rfl, hown, hB⟩ := hrel
      have HO := Go.Lib.hid hown
      have HB := Go.Lib.hid hB
      have hez := hB.size
      by_cases hlt : k < ys.length
      · obtain ⟨b, off, rfl, hb⟩ := H2.out.at_ hlt
        obtain ⟨vh, f1, f2, f3, f4, f5, hs, hrw⟩ := (H2.out.below hB).route hlt
        have hset := set_to (a := xs) hlt
        have hhl := (routeBad_iff (HOKB.out.2 k hlt)).2
        obtain ⟨y, hy⟩ : ∃ y, ys[k] = y := ⟨_, rfl⟩
        rw [hy] at f1 f2 f3 f4 hs hrw hset hhl
        have HRW := Go.Lib.hid hrw
        have HSET := Go.Lib.hid hset
        have hba : Below wr.heap.size wr (wr.alloc (.cells #[.int .i64 y.pre.addr, .int .i64 y.pre.bits, .bool y.here, .int .i64 y.cost, vh] 75)) := (Below.refl _ _).alloc (Nat.le_refl _) _
        have hbx : BoxAt (wr.alloc (.cells #[.int .i64 y.pre.addr, .int .i64 y.pre.bits, .bool y.here, .int .i64 y.cost, vh] 75)) wr.heap.size y vh := ⟨by simp, fun i => World.cell?_alloc_at _ _ _ _ rfl⟩
        have hask : ask (fun x => sameR x y) 134 (.pointer (some ⟨wr.heap.size, 0, none⟩)) (wr.alloc (.cells #[.int .i64 y.pre.addr, .int .i64 y.pre.bits, .bool y.here, .int .i64 y.cost, vh] 75)) := fun x v w' hb' hs' =>
         diffC1_any x y v vh wr.heap.size w' hs' ((hs.below hba).below hb') (hbx.keep hb')
        have HCON := Go.Lib.hid (conR1_any _ _ _ xs _ ((H1.out.below hB).below hba) (by omega) hask)
        have HS := Go.Lib.hid (hs.below hba)
        obtain ⟨Ah, ch, hvh⟩ := hs.form
        subst hvh
        have HHL := Go.Lib.hid hhl
        have r0 : (0 : Int) ≤ (k : Int) := Int.natCast_nonneg _
        have r1 : (k : Int) < (ys.length : Int) := by omega
        clear hown hB hy hrw hset hba hbx hask hs hhl
        go_wp2_with fail
        refine HCON.out.mono ?_
        rintro e w3 ⟨rfl, hb3⟩
        obtain ⟨hA, hN, hM, hS⟩ := pastAlloc hb3
        have HB3 := Go.Lib.hid (HB.out.trans (hA.mono hez))
        have HO3 := Go.Lib.hid (HO.out.keep hA)
        have HS3 := Go.Lib.hid (HS.out.below hb3)
        clear hb3 hA f1 f2 f3 f4 f5
        rcases hin : xs.any (fun x => sameR x y) with _ | _
        · have HIN := Go.Lib.hid (show inTab xs y = false from hin)
          obtain ⟨hh, hhe⟩ : ∃ l, y.hops = l := ⟨_, rfl⟩
          have HCP := Go.Lib.hid (copied_any y _ w3 HS3.out (by have := HHL.out; omega))
          have HHE := Go.Lib.hid hhe
          rw [hhe] at HCP hN ⊢
          clear hin hhe
          go_wp2_with fail
          refine HCP.out.mono ?_
          rintro e w4 ⟨v4, rfl, ho4, hb4⟩
          have HO4 := Go.Lib.hid (HO3.out.keep hb4)
          have HB4 := Go.Lib.hid (HB3.out.trans (hb4.mono HB3.out.size))
          have HH4 := Go.Lib.hid ho4.slC
          have HKS := Go.Lib.hid (show ∀ k, (k < w4.heap.size ∧ w3.heap.size ≤ k) → k < w4.heap.size ∧ u9.ownBlock ≠ some k from fun k hk => ⟨hk.1, fun e => by have := (HO3.out.base_le _ e).2; omega⟩)
          have HFL := Go.Lib.hid (show ((ys.take k).filter fun r => !inTab xs r).length ≤ 1000000 by have := filt_len (fun r => !inTab xs r) ys k; omega)
          clear ho4 hb4 hN hM
          go_wp2_with (at_builtin; refine wpList_route (w := w4) (base := w.heap.size) (r := y) rfl (.tmp 35) (.tmp 38) rfl HO4.out HH4.out HRW.out HKS.out rfl rfl (by first | rfl | simp) HFL.out ?_; intro v5 w5 ho5 hg5)
          go_roundw
          case rel =>
           refine ⟨k + 1, by omega, by go_num, ?_, (HB4.out.alloc HB4.out.size _).grown hg5.grown (by simp; have := HB4.out.size; omega) (fun q e => (HO4.out.base_le q e).1)⟩
           rw [HSET.out, if_neg (by rw [HIN.out]; simp)]
           exact ho5
          case measure => simp [intOf]; omega
        · have HIN := Go.Lib.hid (show inTab xs y = true from hin)
          clear hin
          go_wp2_with fail
          go_roundw
          case rel =>
           refine ⟨k + 1, by omega, by go_num, ?_, HB3.out⟩
           rw [HSET.out, if_pos HIN.out, List.append_nil]
           exact HO3.out
          case measure => simp [intOf]; omega
      · obtain rfl : k = ys.length := by omega
        have hset : ((ys.take ys.length).filter fun r => !inTab xs r) = diffSet xs ys := by unfold diffSet; rw [List.take_length]
        rw [hset] at hown
        have HSL := Go.Lib.hid (hown.sl (by decide))
        clear hown hB hset HO
        go_wp2_with fail
        obtain ⟨wm, rfl⟩ : ∃ m, m = wr := ⟨wr, rfl⟩
        go_loopw [12, 14, 43] (fun s12 _ s43 wq => ∃ k : Nat, k ≤ xs.length ∧ s43 = .int .i64 k ∧ OwR prefR 32 wm.heap.size wq s12 (((xs.take k).filter fun r => !inPre ys r).map Route.pre) ∧ Below wm.heap.size wm wq) (fun _ _ s43 _ => xs.length - (intOf s43).toNat)
        case atStart => exact ⟨0, Nat.zero_le _, rfl, OwR.nil _ _ (Nat.le_refl _), Below.refl _ _⟩
        case round =>
         obtain ⟨k, hk, rfl, hown, hBq⟩ := hrel
         have hB := HB.out.trans (hBq.mono hez)
         have HO := Go.Lib.hid hown
         have HBQ := Go.Lib.hid hBq
         have hezq := hBq.size
         by_cases hlt : k < xs.length
         · obtain ⟨b, off, rfl, hb⟩ := H1.out.at_ hlt
           obtain ⟨vh, f1, f2, f3, f4, f5, hs, hrw⟩ := (H1.out.below hB).route hlt
           have hset := gone_to (b := ys) hlt
           obtain ⟨y, hy⟩ : ∃ y, xs[k] = y := ⟨_, rfl⟩
           rw [hy] at f1 f2 f3 f4 hs hrw hset
           have HRW := Go.Lib.hid hrw
           have HSET := Go.Lib.hid hset
           have hba : Below wr.heap.size wr (wr.alloc (.cells #[.int .i64 y.pre.addr, .int .i64 y.pre.bits, .bool y.here, .int .i64 y.cost, vh] 75)) := (Below.refl _ _).alloc (Nat.le_refl _) _
           have hbx : BoxAt (wr.alloc (.cells #[.int .i64 y.pre.addr, .int .i64 y.pre.bits, .bool y.here, .int .i64 y.cost, vh] 75)) wr.heap.size y vh := ⟨by simp, fun i => World.cell?_alloc_at _ _ _ _ rfl⟩
           have hask : ask (fun x => sameP x.pre y.pre) 136 (.pointer (some ⟨wr.heap.size, 0, none⟩)) (wr.alloc (.cells #[.int .i64 y.pre.addr, .int .i64 y.pre.bits, .bool y.here, .int .i64 y.cost, vh] 75)) := fun x v w' hb' hs' =>
            diffC2_any x y v vh wr.heap.size w' hs' (hbx.keep hb')
           have HCON := Go.Lib.hid (conR2_any _ _ _ ys _ ((H2.out.below hB).below hba) (by omega) hask)
           have r0 : (0 : Int) ≤ (k : Int) := Int.natCast_nonneg _
           have r1 : (k : Int) < (xs.length : Int) := by omega
           obtain ⟨Ah, ch, hvh⟩ := hs.form
           subst hvh
           clear hown hBq hB hy hrw hset hba hbx hask hs
           go_wp2_with fail
           refine HCON.out.mono ?_
           rintro e w3 ⟨rfl, hb3⟩
           obtain ⟨hA, hN, hM, hS⟩ := pastAlloc hb3
           have HB3 := Go.Lib.hid (HBQ.out.trans (hA.mono hezq))
           have HO3 := Go.Lib.hid (HO.out.keep hA)
           clear hb3 hA f1 f2 f3 f4 f5
           rcases hin : ys.any (fun x => sameP x.pre y.pre) with _ | _
           · have HIN := Go.Lib.hid (show inPre ys y = false from hin)
             have HFL := Go.Lib.hid (show (((xs.take k).filter fun r => !inPre ys r).map Route.pre).length ≤ 1000000 by rw [List.length_map]; have := filt_len (fun r => !inPre ys r) xs k; omega)
             clear hin
             go_wp2_with (at_builtin; refine wpList_pref (w := w3) (base := wm.heap.size) (r := y.pre) rfl (.tmp 51) (.tmp 54) rfl HO3.out ⟨HRW.out.1, HRW.out.2.1⟩ rfl rfl (by first | rfl | simp) HFL.out ?_; intro v5 w5 ho5 hg5)
             go_roundw
             case rel =>
              refine ⟨k + 1, by omega, by go_num, ?_, (HB3.out.alloc HB3.out.size _).grown hg5.grown (by simp; have := HB3.out.size; omega) (fun q e => (HO3.out.base_le q e).1)⟩
              rw [HSET.out, if_neg (by rw [HIN.out]; simp)]
              exact ho5
             case measure => simp [intOf]; omega
           · have HIN := Go.Lib.hid (show inPre ys y = true from hin)
             clear hin
             go_wp2_with fail
             go_roundw
             case rel =>
              refine ⟨k + 1, by omega, by go_num, ?_, HB3.out⟩
              rw [HSET.out, if_pos HIN.out, List.append_nil]
              exact HO3.out
             case measure => simp [intOf]; omega
         · obtain rfl : k = xs.length := by omega
           have hset : (((xs.take xs.length).filter fun r => !inPre ys r).map Route.pre) = diffGone xs ys := by unfold diffGone; rw [List.take_length]
           rw [hset] at hown
           have HSG := Go.Lib.hid (hown.sl (by decide))
           clear hown hBq hset HO
           go_wp2_with fail
           go_ret3
           exact d_fin HF.out (HSL.out.below HBQ.out) HSG.out hB
   · have t2 : (chkRoutes ys != 0) = true := by simp [hc2]
     have HF := Go.Lib.hid (diff_bad2 HC.out hc2)
     clear hc2
     go_wp2_with fail
     go_ret3
     exact d_fin HF.out (Sl.nil _ _) (Sl.nil _ _) HB2.out
 · have t1 : (chkRoutes xs != 0) = true := by simp [hc]
   have HF := Go.Lib.hid (diff_bad1 (b := ys) hc)
   clear hc
   go_wp2_with fail
   go_ret3
   exact d_fin HF.out (Sl.nil _ _) (Sl.nil _ _) HB1.out
end Go.Proofs.YtbhbilenbbldnaaGreatDoor
