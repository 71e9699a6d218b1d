/-
  
-/
import Derived.Test.YtojojpjldkpmoaaGreatDoorGRibF
import Derived.Test.YtojojpjldkpmoaaGreatDoorGOwn
import Derived.Laws.StructEq
import Derived.Test.YtojojpjldkpmoaaGreatDoorGTaB
set_option linter.unusedVariables false
set_option linter.unusedSimpArgs false
set_option maxHeartbeats 16000000
namespace Go.Proofs.YtojojpjldkpmoaaGreatDoor
section
open Go.RowKit Go.Sort
theorem OwR.lower {α : Type} {r : Rep α} {E base base' : Nat} {w : World} {v : Value} {xs : List α} (h : OwR r E base w v xs) (hb : base' <= base) : OwR r E base' w v xs := by
 obtain ⟨css, g1, g2, g3, g4⟩ := h
 refine ⟨css, g1, g2, ⟨g3.1, ?_⟩, by omega⟩
 rcases g3.2 with h | ⟨g, cap, cur, a1, a2, a3⟩
 · exact .inl h
 · exact .inr ⟨g, cap, cur, a1, by omega, a3⟩
theorem OwR.form {α : Type} {r : Rep α} {E base : Nat} {w : World} {v : Value} {xs : List α} (h : OwR r E base w v xs) : ∃ A c, v = .slice A xs.length c := by
 obtain ⟨css, g1, g2, g3, g4⟩ := h
 rcases g3.2 with ⟨rfl, h⟩ | ⟨g, cap, cur, rfl, _⟩
 · exact ⟨none, 0, by rw [h]⟩
 · exact ⟨_, _, rfl⟩
theorem pastAlloc2F {wr w1 : World} {cs ds : Array Value} {t u : TypeId} (h : Below ((wr.alloc (.cells cs t)).alloc (.cells ds u)).heap.size ((wr.alloc (.cells cs t)).alloc (.cells ds u)) w1) :
  (∀ i, w1.frozen? ⟨wr.heap.size, i, none⟩ = false) /\ (∀ i, w1.frozen? ⟨wr.heap.size + 1, i, none⟩ = false) := by
 obtain ⟨h1, h2, h3, h4⟩ := pastAlloc h
 rw [zbp] at h1 h2 h3 h4
 obtain ⟨g1, g2, g3, _⟩ := pastAlloc (wr := wr) (w1 := w1) (cs := cs) (t := t) (by rw [zbp]; exact h1)
 exact ⟨g3, h3⟩
theorem grown_setCell (w : World) (p : Addr) (u : Value) : w.grownBy (w.setCell p u) (some p.block) :=
 ⟨rfl, rfl, rfl, by simp [World.setCell], fun k _ hne => zai _ _ _ _ (fun e => hne (by rw [e]))⟩
theorem OwR.setCellI {E base : Nat} {w : World} {v : Value} {xs : List Int} (h : OwR intR E base w v xs) {p : Addr} (hp : p.block < base) (u : Value) : OwR intR E base (w.setCell p u) v xs :=
 h.kept (grown_setCell w p u) (.inr (fun e => by have := (h.base_le _ e).1; omega))
def CopPost (w : World) (r : Route) (e : Ending) (w' : World) : Prop :=
 ∃ v', e = .returned (.agg #[.int .i64 r.pre.addr, .int .i64 r.pre.bits, .bool r.here, .int .i64 r.cost, v']) /\ OwR intR 3 w.heap.size w' v' r.hops /\ Below w.heap.size w w'
theorem copied_any (r : Route) (v : Value) (w : World) (h : Sl intR w v r.hops) (hl : r.hops.length <= 1000) :
  Calls Tryz.prog 117 #[.agg #[.int .i64 r.pre.addr, .int .i64 r.pre.bits, .bool r.here, .int .i64 r.cost, v]] w (CopPost w r) := by
 obtain ⟨A, c, rfl⟩ := h.form
 obtain ⟨hs, hhs⟩ : ∃ hs, r.hops = hs := ⟨_, rfl⟩
 rw [hhs] at h hl ⊢
 have HHS := zaa hhs
 have hb : Below w.heap.size w ((w.alloc (.cells #[.int .i64 r.pre.addr, .int .i64 r.pre.bits, .bool r.here, .int .i64 r.cost, .slice A hs.length c] 130)).alloc (.cells #[.int .i64 0, .int .i64 0, .bool false, .int .i64 0, .slice none 0 0] 130)) := ((zad _ _).alloc (zab _) _).alloc (by simp) _
 have hcl := cloneI_any _ hs _ (h.below hb) (by omega)
 have HCL := zaa hcl
 clear h hb hcl hhs
 go_enter Tryz.func117, Tryz.ntmps117
 go_wp2_with fail
 refine HCL.out.mono ?_
 rintro e w1 ⟨v1, rfl, ho1, hb1⟩
 obtain ⟨A1, c1, rfl⟩ := ho1.form
 obtain ⟨hA, hN, hM, hS⟩ := pastAlloc2 hb1
 obtain ⟨hF1, hF2⟩ := pastAlloc2F hb1
 have HA := zaa hA
 have HO := zaa ho1
 clear hA hb1 ho1 HCL
 go_wp2_with fail
 refine bodyPost_ret (v := .agg #[.int .i64 r.pre.addr, .int .i64 r.pre.bits, .bool r.here, .int .i64 r.cost, .slice A1 hs.length c1]) (by simp [results, Tryz.results117, go_sem, *]) rfl ⟨_, rfl, ?_, ?_⟩
 · have h0 : OwR intR 3 (w.heap.size + 1 + 1) w1 (.slice A1 hs.length c1) hs := by
    have := HO.out
    rw [zbp, zbp] at this
    exact this
   rw [HHS.out]
   refine OwR.lower (base := w.heap.size + 1 + 1) ?_ (by omega)
   iterate 6 refine OwR.setCellI ?_ (by dsimp only; omega) _
   exact h0
 · iterate 6 refine Below.setCell ?_ (by dsimp only; omega) _
   exact HA.out
end
section
open Go.RowKit
end
section
open Go.RowKit
theorem eql_pref (a b c d : Int) (w : World) :
  (binOp .eql 32 (.agg #[.int .i64 a, .int .i64 b]) (.agg #[.int .i64 c, .int .i64 d])).run Tryz.prog w = .ok (.bool (a == c && b == d)) w := by
 have hS : Tryz.prog.underlying 32 = some (.struct (Tryz.prog.fieldsOf 32)) := by kernel_rfl
 have hp : Tryz.prog.stoodInHeld 32 = false := by kernel_rfl
 have u3 := Tryz.underlying3
 have a3 := Tryz.isAgg3
 have z3 := Tryz.sizeOf3
 rw [run_eql_struct, show (10000 : Nat) = 9999 + 1 from rfl, run_equalIn_agg w 9999 32 _ _ hS hp]
 simp only [Program.fieldsOf, Tryz.underlying32]
 go_simp
 by_cases h1 : a = c <;> by_cases h2 : b = d <;> simp [h1, h2]
theorem guard_pref (op : BinOp) (a b : Operand) (x y : Array Value) (w : World) : (eqGuard op 32 a b (.agg x) (.agg y)).run Tryz.prog w = .ok () w :=
 run_eqGuard_agg w op _ a b x y (by kernel_rfl)
def Route.agg (r : Route) (v : Value) : Value := .agg #[.int .i64 r.pre.addr, .int .i64 r.pre.bits, .bool r.here, .int .i64 r.cost, v]
end
section
open Go.RowKit Go.Deep
theorem equalI_any (v1 v2 : Value) (xs ys : List Int) (w : World) (h1 : Sl intR w v1 xs) (h2 : Sl intR w v2 ys) :
  Calls Tryz.prog 155 #[v1, v2] w fun e w' => e = .returned (.bool (xs == ys)) /\ Below w.heap.size w w' := by
 have hl1 := h1.len_le
 have hl2 := h2.len_le
 obtain ⟨A1, c1, rfl⟩ := h1.form
 obtain ⟨A2, c2, rfl⟩ := h2.form
 have H1 := zaa h1
 have H2 := zaa h2
 clear h1 h2
 by_cases hlen : xs.length = ys.length
 · obtain ⟨n, hn⟩ : ∃ n, xs.length = n := ⟨_, rfl⟩
   have hn2 : ys.length = n := by omega
   have HN := zaa hn
   have HN2 := zaa hn2
   rw [hn, hn2]
   rw [hn] at hl1
   clear hlen hl2 hn hn2
   go_enter Tryz.func155, Tryz.ntmps155
   go_wp2_with fail
   go_loopw [5, 13] (fun _ s13 wr => ∃ k : Nat, k <= n /\ s13 = .int .i64 k /\ Below w.heap.size w wr /\ ∀ j, (h : j < xs.length) -> (h' : j < ys.length) -> j < k -> xs[j] = ys[j]) (fun _ s13 _ => n - (intOf s13).toNat)
   case atStart => exact ⟨0, zak _, rfl, zad _ _, fun j _ _ h => absurd h (by omega)⟩
   case round =>
    obtain ⟨k, hk, rfl, hB, hall⟩ := hrel
    have HB := zaa hB
    have HA := zaa hall
    clear hall
    by_cases hlt : k < n
    · have k1 : k < xs.length := by rw [HN.out]; exact hlt
      have k2 : k < ys.length := by rw [HN2.out]; exact hlt
      obtain ⟨b1, o1, rfl, hb1⟩ := H1.out.at_ k1
      obtain ⟨b2, o2, rfl, hb2⟩ := H2.out.at_ k2
      obtain ⟨f1, _⟩ := (H1.out.below hB).int k1
      obtain ⟨g1, _⟩ := (H2.out.below hB).int k2
      have r0 : (0 : Int) <= (k : Int) := zaf _
      have r1 : (k : Int) < (n : Int) := by omega
      obtain ⟨x, hx⟩ : ∃ x, xs[k] = x := ⟨_, rfl⟩
      obtain ⟨y, hy⟩ : ∃ y, ys[k] = y := ⟨_, rfl⟩
      rw [hx] at f1
      rw [hy] at g1
      have HX := zaa hx
      have HY := zaa hy
      clear hB hx hy
      by_cases hxy : x = y
      · have t1 : (x != y) = false := by simp [hxy]
        have HXY := zaa hxy
        clear hxy
        go_wp2_with fail
        go_quiet (fail)
        go_wp2_with fail
        go_roundw
        case rel =>
         refine ⟨k + 1, by omega, by go_num, bDrewN HB.out _, fun j hj hj' hjk => ?_⟩
         by_cases e : j = k
         · subst e; rw [HX.out, HY.out, HXY.out]
         · exact HA.out j hj hj' (by omega)
        case measure => simp [intOf]; omega
      · have t1 : (x != y) = true := by simp [hxy]
        have HXY := zaa hxy
        clear hxy
        go_wp2_with fail
        go_quiet (fail)
        go_wp2_with fail
        go_ret
        refine ⟨eb ?_, bDrewN HB.out _⟩
        symm
        rw [beq_eq_false_iff_ne]
        intro e
        subst e
        exact HXY.out (HX.out.symm.trans HY.out)
    · clear hB
      go_wp2_with fail
      go_ret
      refine ⟨eb ?_, HB.out⟩
      symm
      rw [beq_iff_eq]
      exact List.ext_getElem (by rw [HN.out, HN2.out]) (fun j hj hj' => HA.out j hj hj' (by have := HN.out; omega))
 · have t1 : (((xs.length : Nat) : Int) != ((ys.length : Nat) : Int)) = true := by simp; omega
   have HL := zaa hlen
   clear hlen
   go_enter Tryz.func155, Tryz.ntmps155
   go_wp2_with fail
   go_ret
   refine ⟨eb ?_, zad _ _⟩
   symm
   rw [beq_eq_false_iff_ne]
   intro e
   exact HL.out (by rw [e])
theorem two_boxes (w : World) (cs ds : Array Value) (t u : TypeId) : Below w.heap.size w ((w.alloc (.cells cs t)).alloc (.cells ds u)) := ((zad _ _).alloc (zab _) _).alloc (by simp) _
set_option maxRecDepth 100000 in
theorem ribSame_any (x r : Route) (v1 v2 : Value) (w : World) (h1 : Sl intR w v1 x.hops) (h2 : Sl intR w v2 r.hops) :
  Calls Tryz.prog 116 #[x.agg v1, r.agg v2] w fun e w' => e = .returned (.bool (sameR x r)) /\ Below w.heap.size w w' := by
 obtain ⟨⟨xa, xb⟩, xh, xc, xs⟩ := x
 obtain ⟨⟨ra, rb⟩, rh, rc, rs⟩ := r
 unfold Route.agg sameR sameP
 simp only at h1 h2 ⊢
 obtain ⟨A1, c1, rfl⟩ := h1.form
 obtain ⟨A2, c2, rfl⟩ := h2.form
 have hb := two_boxes w #[.int .i64 xa, .int .i64 xb, .bool xh, .int .i64 xc, .slice A1 xs.length c1] #[.int .i64 ra, .int .i64 rb, .bool rh, .int .i64 rc, .slice A2 rs.length c2] 130 130
 have HC := zaa (equalI_any _ _ xs rs _ (h1.below hb) (h2.below hb))
 have HB := zaa hb
 clear h1 h2 hb
 have q1 := eql_pref xa xb ra rb
 have q2 := fun a b => guard_pref .eql a b
 rcases hp : (xa == ra && xb == rb) with _ | _
 · rw [hp] at q1
   clear hp
   go_enter Tryz.func116, Tryz.ntmps116
   go_wp2_with fail
   go_ret
   exact ⟨rfl, HB.out⟩
 · rw [hp] at q1
   clear hp
   rcases hh : (xh == rh) with _ | _
   · go_enter Tryz.func116, Tryz.ntmps116
     go_wp2_with fail
     go_ret
     exact ⟨rfl, HB.out⟩
   · rcases hc : (xc == rc) with _ | _
     · go_enter Tryz.func116, Tryz.ntmps116
       go_wp2_with fail
       go_ret
       exact ⟨rfl, HB.out⟩
     · go_enter Tryz.func116, Tryz.ntmps116
       go_wp2_with fail
       refine HC.out.mono ?_
       rintro e w1 ⟨rfl, hb1⟩
       have HB1 := zaa (HB.out.trans (hb1.mono HB.out.size))
       clear hb1
       go_wp2_with fail
       go_ret
       exact ⟨rfl, HB1.out⟩
def BoxAt (w : World) (g : Nat) (r : Route) (v : Value) : Prop := g < w.heap.size /\ (∀ i, w.cell? ⟨g, i, none⟩ = #[Value.int .i64 r.pre.addr, .int .i64 r.pre.bits, .bool r.here, .int .i64 r.cost, v][i]?)
theorem BoxAt.keep {w w' : World} {g : Nat} {r : Route} {v : Value} (h : BoxAt w g r v) (hb : Below w.heap.size w w') : BoxAt w' g r v := ⟨zan h.1 hb.size, fun i => (bAt hb h.1 i).trans (h.2 i)⟩
set_option maxRecDepth 100000 in
theorem diffC1_any (x r : Route) (v1 v2 : Value) (g : Nat) (w : World) (h1 : Sl intR w v1 x.hops) (h2 : Sl intR w v2 r.hops) (hg : BoxAt w g r v2) :
  Calls Tryz.prog 115 #[x.agg v1, .pointer (some ⟨g, 0, none⟩)] w fun e w' => e = .returned (.bool (sameR x r)) /\ Below w.heap.size w w' := by
 obtain ⟨A1, c1, rfl⟩ := h1.form
 obtain ⟨A2, c2, rfl⟩ := h2.form
 have hb : Below w.heap.size w (w.alloc (.cells #[.int .i64 x.pre.addr, .int .i64 x.pre.bits, .bool x.here, .int .i64 x.cost, .slice A1 x.hops.length c1] 130)) := (zad _ _).alloc (zab _) _
 have hcal := ribSame_any x r _ _ _ (h1.below hb) (h2.below hb)
 unfold Route.agg at hcal ⊢
 obtain ⟨hx, hhx⟩ : ∃ l, x.hops = l := ⟨_, rfl⟩
 obtain ⟨hr, hhr⟩ : ∃ l, r.hops = l := ⟨_, rfl⟩
 rw [hhx, hhr] at hcal
 rw [hhx] at hb ⊢
 rw [hhr] at hg
 obtain ⟨hg1, hg2⟩ := hg
 have HC := zaa hcal
 have HB := zaa hb
 clear h1 h2 hb hcal hhx hhr
 go_enter Tryz.func115, Tryz.ntmps115
 go_wp2_with fail
 refine HC.out.mono ?_
 rintro e w1 ⟨rfl, hb1⟩
 have HB1 := zaa (HB.out.trans (hb1.mono HB.out.size))
 clear hb1
 go_wp2_with fail
 go_ret
 exact ⟨rfl, HB1.out⟩
set_option maxRecDepth 100000 in
theorem diffC2_any (x r : Route) (v1 v2 : Value) (g : Nat) (w : World) (h1 : Sl intR w v1 x.hops) (hg : BoxAt w g r v2) :
  Calls Tryz.prog 118 #[x.agg v1, .pointer (some ⟨g, 0, none⟩)] w fun e w' => e = .returned (.bool (sameP x.pre r.pre)) /\ Below w.heap.size w w' := by
 obtain ⟨A1, c1, rfl⟩ := h1.form
 have hb : Below w.heap.size w (w.alloc (.cells #[.int .i64 x.pre.addr, .int .i64 x.pre.bits, .bool x.here, .int .i64 x.cost, .slice A1 x.hops.length c1] 130)) := (zad _ _).alloc (zab _) _
 obtain ⟨hx, hhx⟩ : ∃ l, x.hops = l := ⟨_, rfl⟩
 unfold Route.agg
 rw [hhx] at hb ⊢
 obtain ⟨hg1, hg2⟩ := hg
 have HB := zaa hb
 have q1 := eql_pref x.pre.addr x.pre.bits r.pre.addr r.pre.bits
 have q2 := fun a b => guard_pref .eql a b
 clear h1 hb hhx
 go_enter Tryz.func118, Tryz.ntmps118
 go_wp2_with fail
 go_ret
 exact ⟨rfl, HB.out⟩
def ask (p : Route -> Bool) (fid : Nat) (cap : Value) (w : World) : Prop := ∀ (x : Route) (v : Value) (w' : World), Below w.heap.size w w' -> Sl intR w' v x.hops -> Calls Tryz.prog fid #[x.agg v, cap] w' fun e w'' => e = .returned (.bool (p x)) /\ Below w'.heap.size w' w''
set_option maxRecDepth 100000 in
theorem idxR1_any (p : Route -> Bool) (cap : Value) (v : Value) (xs : List Route) (w : World) (h : Sl routeR w v xs) (hl : xs.length <= 1000000) (hp : ask p 115 cap w) :
  Calls Tryz.prog 154 #[v, .func (.func 115) #[] #[cap]] w fun e w' => (∃ n : Int, e = .returned (.int .i64 n) /\ decide (0 <= n) = xs.any p) /\ Below w.heap.size w w' := by
 obtain ⟨A, c, rfl⟩ := h.form
 have H := zaa h
 have HP := zaa hp
 clear h hp
 go_enter Tryz.func154, Tryz.ntmps154
 go_wp2_with fail
 go_loopw [5, 8] (fun _ i wr => ∃ k : Nat, k <= xs.length /\ i = .int .i64 k /\ Below w.heap.size w wr /\ ∀ j, (h : j < xs.length) -> j < k -> p xs[j] = false) (fun _ i _ => xs.length - (intOf i).toNat)
 case atStart => exact ⟨0, zak _, rfl, zad _ _, fun j _ h => absurd h (by omega)⟩
 case round =>
  obtain ⟨k, hk, rfl, hB, hall⟩ := hrel
  have HA := zaa hall
  have HB := zaa hB
  clear hall
  by_cases hlt : k < xs.length
  · obtain ⟨b, off, rfl, hb⟩ := H.out.at_ hlt
    obtain ⟨vh, f1, f2, f3, f4, f5, hs, _⟩ := (H.out.below hB).route hlt
    have hcal := HP.out xs[k] vh wr hB hs
    unfold Route.agg at hcal
    have HC := zaa hcal
    clear hB hcal hs
    go_wp2_with fail
    refine HC.out.mono ?_
    rintro e w1 ⟨rfl, hb1⟩
    have HB1 := zaa (HB.out.trans (hb1.mono HB.out.size))
    clear hb1
    rcases hp : p xs[k] with _ | _
    · have HPX := zaa hp
      clear hp
      go_wp2_with fail
      go_roundw
      case rel =>
       refine ⟨k + 1, by omega, by go_num, HB1.out, fun j hj hjk => ?_⟩
       by_cases e : j = k
       · subst e; exact HPX.out
       · exact HA.out j hj (by omega)
      case measure => simp [intOf]; omega
    · have HPX := zaa hp
      clear hp
      go_wp2_with fail
      go_ret
      refine ⟨⟨(k : Int), rfl, ?_⟩, HB1.out⟩
      have : xs.any p = true := zbo.2 ⟨xs[k], zas hlt, HPX.out⟩
      simp [this]
  · clear hB
    go_wp2_with fail
    go_ret
    refine ⟨⟨-1, rfl, ?_⟩, HB.out⟩
    have : xs.any p = false := by
     rw [List.any_eq_false]
     intro x hx
     obtain ⟨j, hj, rfl⟩ := zaj hx
     simp [HA.out j hj (by omega)]
    simp [this]
theorem conR1_any (p : Route -> Bool) (cap : Value) (v : Value) (xs : List Route) (w : World) (h : Sl routeR w v xs) (hl : xs.length <= 1000000) (hp : ask p 115 cap w) :
  Calls Tryz.prog 114 #[v, .func (.func 115) #[] #[cap]] w fun e w' => e = .returned (.bool (xs.any p)) /\ Below w.heap.size w w' := by
 have HI := zaa (idxR1_any p cap v xs w h hl hp)
 clear h hp
 go_enter Tryz.func114, Tryz.ntmps114
 go_wp2_with fail
 refine HI.out.mono ?_
 rintro e w1 ⟨⟨n, rfl, hn⟩, hb1⟩
 have HB1 := zaa hb1
 clear hb1
 go_wp2_with fail
 go_ret
 exact ⟨by first | rfl | exact eb hn, HB1.out⟩
set_option maxRecDepth 100000 in
theorem idxR2_any (p : Route -> Bool) (cap : Value) (v : Value) (xs : List Route) (w : World) (h : Sl routeR w v xs) (hl : xs.length <= 1000000) (hp : ask p 118 cap w) :
  Calls Tryz.prog 154 #[v, .func (.func 118) #[] #[cap]] w fun e w' => (∃ n : Int, e = .returned (.int .i64 n) /\ decide (0 <= n) = xs.any p) /\ Below w.heap.size w w' := by
 obtain ⟨A, c, rfl⟩ := h.form
 have H := zaa h
 have HP := zaa hp
 clear h hp
 go_enter Tryz.func154, Tryz.ntmps154
 go_wp2_with fail
 go_loopw [5, 8] (fun _ i wr => ∃ k : Nat, k <= xs.length /\ i = .int .i64 k /\ Below w.heap.size w wr /\ ∀ j, (h : j < xs.length) -> j < k -> p xs[j] = false) (fun _ i _ => xs.length - (intOf i).toNat)
 case atStart => exact ⟨0, zak _, rfl, zad _ _, fun j _ h => absurd h (by omega)⟩
 case round =>
  obtain ⟨k, hk, rfl, hB, hall⟩ := hrel
  have HA := zaa hall
  have HB := zaa hB
  clear hall
  by_cases hlt : k < xs.length
  · obtain ⟨b, off, rfl, hb⟩ := H.out.at_ hlt
    obtain ⟨vh, f1, f2, f3, f4, f5, hs, _⟩ := (H.out.below hB).route hlt
    have hcal := HP.out xs[k] vh wr hB hs
    unfold Route.agg at hcal
    have HC := zaa hcal
    clear hB hcal hs
    go_wp2_with fail
    refine HC.out.mono ?_
    rintro e w1 ⟨rfl, hb1⟩
    have HB1 := zaa (HB.out.trans (hb1.mono HB.out.size))
    clear hb1
    rcases hp : p xs[k] with _ | _
    · have HPX := zaa hp
      clear hp
      go_wp2_with fail
      go_roundw
      case rel =>
       refine ⟨k + 1, by omega, by go_num, HB1.out, fun j hj hjk => ?_⟩
       by_cases e : j = k
       · subst e; exact HPX.out
       · exact HA.out j hj (by omega)
      case measure => simp [intOf]; omega
    · have HPX := zaa hp
      clear hp
      go_wp2_with fail
      go_ret
      refine ⟨⟨(k : Int), rfl, ?_⟩, HB1.out⟩
      have : xs.any p = true := zbo.2 ⟨xs[k], zas hlt, HPX.out⟩
      simp [this]
  · clear hB
    go_wp2_with fail
    go_ret
    refine ⟨⟨-1, rfl, ?_⟩, HB.out⟩
    have : xs.any p = false := by
     rw [List.any_eq_false]
     intro x hx
     obtain ⟨j, hj, rfl⟩ := zaj hx
     simp [HA.out j hj (by omega)]
    simp [this]
theorem conR2_any (p : Route -> Bool) (cap : Value) (v : Value) (xs : List Route) (w : World) (h : Sl routeR w v xs) (hl : xs.length <= 1000000) (hp : ask p 118 cap w) :
  Calls Tryz.prog 114 #[v, .func (.func 118) #[] #[cap]] w fun e w' => e = .returned (.bool (xs.any p)) /\ Below w.heap.size w w' := by
 have HI := zaa (idxR2_any p cap v xs w h hl hp)
 clear h hp
 go_enter Tryz.func114, Tryz.ntmps114
 go_wp2_with fail
 refine HI.out.mono ?_
 rintro e w1 ⟨⟨n, rfl, hn⟩, hb1⟩
 have HB1 := zaa hb1
 clear hb1
 go_wp2_with fail
 go_ret
 exact ⟨by first | rfl | exact eb hn, HB1.out⟩
end
end Go.Proofs.YtojojpjldkpmoaaGreatDoor
