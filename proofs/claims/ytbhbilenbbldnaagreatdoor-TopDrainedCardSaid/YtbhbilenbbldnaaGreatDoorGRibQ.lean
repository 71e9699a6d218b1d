/-
  
-/
import Derived.Test.YtbhbilenbbldnaaGreatDoorGRibF
import Derived.Test.YtbhbilenbbldnaaGreatDoorGOwn
import Derived.Laws.StructEq
import Derived.Test.YtbhbilenbbldnaaGreatDoorGRibH
set_option linter.unusedVariables false
set_option linter.unusedSimpArgs false
set_option maxHeartbeats 16000000
namespace Go.Proofs.YtbhbilenbbldnaaGreatDoor
section
open Go.RowKit
def sameP (a b : Prefix) : Bool := a.addr == b.addr && a.bits == b.bits
def sameR (x r : Route) : Bool := sameP x.pre r.pre && (x.here == r.here && (x.cost == r.cost && x.hops == r.hops))
theorem sameP_iff (a b : Prefix) : sameP a b = true ↔ a = b := by
 cases a; cases b
 simp [sameP]
theorem sameP_refl (a : Prefix) : sameP a a = true := (sameP_iff a a).2 rfl
def inTab (a : List Route) (r : Route) : Bool := a.any fun x => sameR x r
def inPre (b : List Route) (r : Route) : Bool := b.any fun x => sameP x.pre r.pre
def diffSet (a b : List Route) : List Route := b.filter fun r => !inTab a r
def diffGone (a b : List Route) : List Prefix := (a.filter fun r => !inPre b r).map Route.pre
def diffS (a b : List Route) : List Route × List Prefix × Int :=
 if chkRoutes a ≠ 0 then ([], [], chkRoutes a) else if chkRoutes b ≠ 0 then ([], [], chkRoutes b) else (diffSet a b, diffGone a b, 0)
theorem diff_bad1 {a b : List Route} (h : chkRoutes a ≠ 0) : diffS a b = ([], [], chkRoutes a) := by unfold diffS; rw [if_pos h]
theorem diff_bad2 {a b : List Route} (h : chkRoutes a = 0) (h2 : chkRoutes b ≠ 0) : diffS a b = ([], [], chkRoutes b) := by unfold diffS; rw [if_neg (by simp [h]), if_pos h2]
theorem diff_ok {a b : List Route} (h : chkRoutes a = 0) (h2 : chkRoutes b = 0) : diffS a b = (diffSet a b, diffGone a b, 0) := by unfold diffS; rw [if_neg (by simp [h]), if_neg (by simp [h2])]
theorem ord_trans {p q r : Prefix} (h : prefOrd p q = true) (h' : prefOrd q r = true) : prefOrd p r = true := by
 rw [prefOrd_iff] at *; omega
theorem ord_ne {p q : Prefix} (h : prefOrd p q = true) : sameP p q = false := by
 rw [Bool.eq_false_iff]
 intro e
 rw [(sameP_iff p q).1 e, prefOrd_iff] at h
 omega
theorem routes_ord {xs : List Route} (h : chkRoutes xs = 0) {i j : Nat} (hij : i < j) (hj : j < xs.length) : prefOrd xs[i].pre xs[j].pre = true := by
 have hseq : seqChk routeBad routeOrd xs (xs.length - 0) 0 = 0 := by
  unfold chkRoutes at h
  split at h
  · cases h
  · exact h
 have adj : ∀ m, (hm : m + 1 < xs.length) -> prefOrd xs[m].pre xs[m + 1].pre = true := by
  intro m hm
  obtain ⟨h1, h2⟩ := seq_ok xs _ 0 (by omega) hseq (m + 1) (by omega) hm
  exact h2 m rfl h1 (by omega)
 have key : ∀ d i, (h : i + d + 1 < xs.length) -> prefOrd xs[i].pre xs[i + d + 1].pre = true := by
  intro d
  induction d with
  | zero => intro i h; exact adj i h
  | succ d ih => intro i h; exact ord_trans (ih i (by omega)) (adj (i + d + 1) (by omega))
 have := key (j - i - 1) i (by omega)
 have e : i + (j - i - 1) + 1 = j := by omega
 simpa only [e] using this
theorem set_to {a b : List Route} {k : Nat} (h : k < b.length) : ((b.take (k + 1)).filter fun r => !inTab a r) = ((b.take k).filter fun r => !inTab a r) ++ (if inTab a b[k] then [] else [b[k]]) := by
 rw [zas h, zbx]
 congr 1
 rcases e : inTab a b[k] with _ | _ <;> simp [e]
theorem gone_to {a b : List Route} {k : Nat} (h : k < a.length) : (((a.take (k + 1)).filter fun r => !inPre b r).map Route.pre) = (((a.take k).filter fun r => !inPre b r).map Route.pre) ++ (if inPre b a[k] then [] else [a[k].pre]) := by
 rw [zas h, zbx, zbd]
 congr 1
 rcases e : inPre b a[k] with _ | _ <;> simp [e]
theorem filt_len {α : Type} (p : α -> Bool) (l : List α) (k : Nat) : ((l.take k).filter p).length <= l.length := by
 refine zax (zbS _ _) ?_
 rw [zan]; omega
end
section
open Go.RowKit
end
section
open Go.RowKit
theorem eql_pref (a b c d : Int) (w : World) :
  (binOp .eql 32 (.agg #[.int .i64 a, .int .i64 b]) (.agg #[.int .i64 c, .int .i64 d])).run Tryz.prog w = .ok (.bool (a == c && b == d)) w := by
 have hS : Tryz.prog.underlying 32 = some (.struct (Tryz.prog.fieldsOf 32)) := by kernel_rfl
 have hp : Tryz.prog.stoodInHeld 32 = false := by kernel_rfl
 have u3 := Tryz.underlying3
 have a3 := Tryz.isAgg3
 have z3 := Tryz.sizeOf3
 rw [run_eql_struct, show (10000 : Nat) = 9999 + 1 from rfl, run_equalIn_agg w 9999 32 _ _ hS hp]
 simp only [Program.fieldsOf, Tryz.underlying32]
 go_simp
 by_cases h1 : a = c <;> by_cases h2 : b = d <;> simp [h1, h2]
theorem guard_pref (op : BinOp) (a b : Operand) (x y : Array Value) (w : World) : (eqGuard op 32 a b (.agg x) (.agg y)).run Tryz.prog w = .ok () w :=
 run_eqGuard_agg w op _ a b x y (by kernel_rfl)
def Route.agg (r : Route) (v : Value) : Value := .agg #[.int .i64 r.pre.addr, .int .i64 r.pre.bits, .bool r.here, .int .i64 r.cost, v]
end
section
open Go.RowKit Go.Deep
theorem equalI_any (v1 v2 : Value) (xs ys : List Int) (w : World) (h1 : Sl intR w v1 xs) (h2 : Sl intR w v2 ys) :
  Calls Tryz.prog 22 #[v1, v2] w fun e w' => e = .returned (.bool (xs == ys)) /\ Below w.heap.size w w' := by
 have hl1 := h1.len_le
 have hl2 := h2.len_le
 obtain ⟨A1, c1, rfl⟩ := h1.form
 obtain ⟨A2, c2, rfl⟩ := h2.form
 have H1 := zaa h1
 have H2 := zaa h2
 clear h1 h2
 by_cases hlen : xs.length = ys.length
 · obtain ⟨n, hn⟩ : ∃ n, xs.length = n := ⟨_, rfl⟩
   have hn2 : ys.length = n := by omega
   have HN := zaa hn
   have HN2 := zaa hn2
   rw [hn, hn2]
   rw [hn] at hl1
   clear hlen hl2 hn hn2
   go_enter Tryz.func22, Tryz.ntmps22
   go_wp2_with fail
   go_loopw [5, 13] (fun _ s13 wr => ∃ k : Nat, k <= n /\ s13 = .int .i64 k /\ Below w.heap.size w wr /\ ∀ j, (h : j < xs.length) -> (h' : j < ys.length) -> j < k -> xs[j] = ys[j]) (fun _ s13 _ => n - (intOf s13).toNat)
   case atStart => exact ⟨0, zam _, rfl, zad _ _, fun j _ _ h => absurd h (by omega)⟩
   case round =>
    obtain ⟨k, hk, rfl, hB, hall⟩ := hrel
    have HB := zaa hB
    have HA := zaa hall
    clear hall
    by_cases hlt : k < n
    · have k1 : k < xs.length := by rw [HN.out]; exact hlt
      have k2 : k < ys.length := by rw [HN2.out]; exact hlt
      obtain ⟨b1, o1, rfl, hb1⟩ := H1.out.at_ k1
      obtain ⟨b2, o2, rfl, hb2⟩ := H2.out.at_ k2
      obtain ⟨f1, _⟩ := (H1.out.below hB).int k1
      obtain ⟨g1, _⟩ := (H2.out.below hB).int k2
      have r0 : (0 : Int) <= (k : Int) := zae _
      have r1 : (k : Int) < (n : Int) := by omega
      obtain ⟨x, hx⟩ : ∃ x, xs[k] = x := ⟨_, rfl⟩
      obtain ⟨y, hy⟩ : ∃ y, ys[k] = y := ⟨_, rfl⟩
      rw [hx] at f1
      rw [hy] at g1
      have HX := zaa hx
      have HY := zaa hy
      clear hB hx hy
      by_cases hxy : x = y
      · have t1 : (x != y) = false := by simp [hxy]
        have HXY := zaa hxy
        clear hxy
        go_wp2_with fail
        go_quiet (fail)
        go_wp2_with fail
        go_roundw
        case rel =>
         refine ⟨k + 1, by omega, by go_num, bDrewN HB.out _, fun j hj hj' hjk => ?_⟩
         by_cases e : j = k
         · subst e; rw [HX.out, HY.out, HXY.out]
         · exact HA.out j hj hj' (by omega)
        case measure => simp [intOf]; omega
      · have t1 : (x != y) = true := by simp [hxy]
        have HXY := zaa hxy
        clear hxy
        go_wp2_with fail
        go_quiet (fail)
        go_wp2_with fail
        go_ret
        refine ⟨eb ?_, bDrewN HB.out _⟩
        symm
        rw [beq_eq_false_iff_ne]
        intro e
        subst e
        exact HXY.out (HX.out.symm.trans HY.out)
    · clear hB
      go_wp2_with fail
      go_ret
      refine ⟨eb ?_, HB.out⟩
      symm
      rw [beq_iff_eq]
      exact List.ext_getElem (by rw [HN.out, HN2.out]) (fun j hj hj' => HA.out j hj hj' (by have := HN.out; omega))
 · have t1 : (((xs.length : Nat) : Int) != ((ys.length : Nat) : Int)) = true := by simp; omega
   have HL := zaa hlen
   clear hlen
   go_enter Tryz.func22, Tryz.ntmps22
   go_wp2_with fail
   go_ret
   refine ⟨eb ?_, zad _ _⟩
   symm
   rw [beq_eq_false_iff_ne]
   intro e
   exact HL.out (by rw [e])
theorem two_boxes (w : World) (cs ds : Array Value) (t u : TypeId) : Below w.heap.size w ((w.alloc (.cells cs t)).alloc (.cells ds u)) := ((zad _ _).alloc (zab _) _).alloc (by simp) _
set_option maxRecDepth 100000 in
theorem ribSame_any (x r : Route) (v1 v2 : Value) (w : World) (h1 : Sl intR w v1 x.hops) (h2 : Sl intR w v2 r.hops) :
  Calls Tryz.prog 135 #[x.agg v1, r.agg v2] w fun e w' => e = .returned (.bool (sameR x r)) /\ Below w.heap.size w w' := by
 obtain ⟨⟨xa, xb⟩, xh, xc, xs⟩ := x
 obtain ⟨⟨ra, rb⟩, rh, rc, rs⟩ := r
 unfold Route.agg sameR sameP
 simp only at h1 h2 ⊢
 obtain ⟨A1, c1, rfl⟩ := h1.form
 obtain ⟨A2, c2, rfl⟩ := h2.form
 have hb := two_boxes w #[.int .i64 xa, .int .i64 xb, .bool xh, .int .i64 xc, .slice A1 xs.length c1] #[.int .i64 ra, .int .i64 rb, .bool rh, .int .i64 rc, .slice A2 rs.length c2] 75 75
 have HC := zaa (equalI_any _ _ xs rs _ (h1.below hb) (h2.below hb))
 have HB := zaa hb
 clear h1 h2 hb
 have q1 := eql_pref xa xb ra rb
 have q2 := fun a b => guard_pref .eql a b
 rcases hp : (xa == ra && xb == rb) with _ | _
 · rw [hp] at q1
   clear hp
   go_enter Tryz.func135, Tryz.ntmps135
   go_wp2_with fail
   go_ret
   exact ⟨rfl, HB.out⟩
 · rw [hp] at q1
   clear hp
   rcases hh : (xh == rh) with _ | _
   · go_enter Tryz.func135, Tryz.ntmps135
     go_wp2_with fail
     go_ret
     exact ⟨rfl, HB.out⟩
   · rcases hc : (xc == rc) with _ | _
     · go_enter Tryz.func135, Tryz.ntmps135
       go_wp2_with fail
       go_ret
       exact ⟨rfl, HB.out⟩
     · go_enter Tryz.func135, Tryz.ntmps135
       go_wp2_with fail
       refine HC.out.mono ?_
       rintro e w1 ⟨rfl, hb1⟩
       have HB1 := zaa (HB.out.trans (hb1.mono HB.out.size))
       clear hb1
       go_wp2_with fail
       go_ret
       exact ⟨rfl, HB1.out⟩
def BoxAt (w : World) (g : Nat) (r : Route) (v : Value) : Prop := g < w.heap.size /\ (∀ i, w.cell? ⟨g, i, none⟩ = #[Value.int .i64 r.pre.addr, .int .i64 r.pre.bits, .bool r.here, .int .i64 r.cost, v][i]?)
theorem BoxAt.keep {w w' : World} {g : Nat} {r : Route} {v : Value} (h : BoxAt w g r v) (hb : Below w.heap.size w w') : BoxAt w' g r v := ⟨zai h.1 hb.size, fun i => (bAt hb h.1 i).trans (h.2 i)⟩
set_option maxRecDepth 100000 in
theorem diffC1_any (x r : Route) (v1 v2 : Value) (g : Nat) (w : World) (h1 : Sl intR w v1 x.hops) (h2 : Sl intR w v2 r.hops) (hg : BoxAt w g r v2) :
  Calls Tryz.prog 134 #[x.agg v1, .pointer (some ⟨g, 0, none⟩)] w fun e w' => e = .returned (.bool (sameR x r)) /\ Below w.heap.size w w' := by
 obtain ⟨A1, c1, rfl⟩ := h1.form
 obtain ⟨A2, c2, rfl⟩ := h2.form
 have hb : Below w.heap.size w (w.alloc (.cells #[.int .i64 x.pre.addr, .int .i64 x.pre.bits, .bool x.here, .int .i64 x.cost, .slice A1 x.hops.length c1] 75)) := (zad _ _).alloc (zab _) _
 have hcal := ribSame_any x r _ _ _ (h1.below hb) (h2.below hb)
 unfold Route.agg at hcal ⊢
 obtain ⟨hx, hhx⟩ : ∃ l, x.hops = l := ⟨_, rfl⟩
 obtain ⟨hr, hhr⟩ : ∃ l, r.hops = l := ⟨_, rfl⟩
 rw [hhx, hhr] at hcal
 rw [hhx] at hb ⊢
 rw [hhr] at hg
 obtain ⟨hg1, hg2⟩ := hg
 have HC := zaa hcal
 have HB := zaa hb
 clear h1 h2 hb hcal hhx hhr
 go_enter Tryz.func134, Tryz.ntmps134
 go_wp2_with fail
 refine HC.out.mono ?_
 rintro e w1 ⟨rfl, hb1⟩
 have HB1 := zaa (HB.out.trans (hb1.mono HB.out.size))
 clear hb1
 go_wp2_with fail
 go_ret
 exact ⟨rfl, HB1.out⟩
set_option maxRecDepth 100000 in
theorem diffC2_any (x r : Route) (v1 v2 : Value) (g : Nat) (w : World) (h1 : Sl intR w v1 x.hops) (hg : BoxAt w g r v2) :
  Calls Tryz.prog 136 #[x.agg v1, .pointer (some ⟨g, 0, none⟩)] w fun e w' => e = .returned (.bool (sameP x.pre r.pre)) /\ Below w.heap.size w w' := by
 obtain ⟨A1, c1, rfl⟩ := h1.form
 have hb : Below w.heap.size w (w.alloc (.cells #[.int .i64 x.pre.addr, .int .i64 x.pre.bits, .bool x.here, .int .i64 x.cost, .slice A1 x.hops.length c1] 75)) := (zad _ _).alloc (zab _) _
 obtain ⟨hx, hhx⟩ : ∃ l, x.hops = l := ⟨_, rfl⟩
 unfold Route.agg
 rw [hhx] at hb ⊢
 obtain ⟨hg1, hg2⟩ := hg
 have HB := zaa hb
 have q1 := eql_pref x.pre.addr x.pre.bits r.pre.addr r.pre.bits
 have q2 := fun a b => guard_pref .eql a b
 clear h1 hb hhx
 go_enter Tryz.func136, Tryz.ntmps136
 go_wp2_with fail
 go_ret
 exact ⟨rfl, HB.out⟩
def ask (p : Route -> Bool) (fid : Nat) (cap : Value) (w : World) : Prop := ∀ (x : Route) (v : Value) (w' : World), Below w.heap.size w w' -> Sl intR w' v x.hops -> Calls Tryz.prog fid #[x.agg v, cap] w' fun e w'' => e = .returned (.bool (p x)) /\ Below w'.heap.size w' w''
set_option maxRecDepth 100000 in
theorem idxR1_any (p : Route -> Bool) (cap : Value) (v : Value) (xs : List Route) (w : World) (h : Sl routeR w v xs) (hl : xs.length <= 1000000) (hp : ask p 134 cap w) :
  Calls Tryz.prog 170 #[v, .func (.func 134) #[] #[cap]] w fun e w' => (∃ n : Int, e = .returned (.int .i64 n) /\ decide (0 <= n) = xs.any p) /\ Below w.heap.size w w' := by
 obtain ⟨A, c, rfl⟩ := h.form
 have H := zaa h
 have HP := zaa hp
 clear h hp
 go_enter Tryz.func170, Tryz.ntmps170
 go_wp2_with fail
 go_loopw [5, 8] (fun _ i wr => ∃ k : Nat, k <= xs.length /\ i = .int .i64 k /\ Below w.heap.size w wr /\ ∀ j, (h : j < xs.length) -> j < k -> p xs[j] = false) (fun _ i _ => xs.length - (intOf i).toNat)
 case atStart => exact ⟨0, zam _, rfl, zad _ _, fun j _ h => absurd h (by omega)⟩
 case round =>
  obtain ⟨k, hk, rfl, hB, hall⟩ := hrel
  have HA := zaa hall
  have HB := zaa hB
  clear hall
  by_cases hlt : k < xs.length
  · obtain ⟨b, off, rfl, hb⟩ := H.out.at_ hlt
    obtain ⟨vh, f1, f2, f3, f4, f5, hs, _⟩ := (H.out.below hB).route hlt
    have hcal := HP.out xs[k] vh wr hB hs
    unfold Route.agg at hcal
    have HC := zaa hcal
    clear hB hcal hs
    go_wp2_with fail
    refine HC.out.mono ?_
    rintro e w1 ⟨rfl, hb1⟩
    have HB1 := zaa (HB.out.trans (hb1.mono HB.out.size))
    clear hb1
    rcases hp : p xs[k] with _ | _
    · have HPX := zaa hp
      clear hp
      go_wp2_with fail
      go_roundw
      case rel =>
       refine ⟨k + 1, by omega, by go_num, HB1.out, fun j hj hjk => ?_⟩
       by_cases e : j = k
       · subst e; exact HPX.out
       · exact HA.out j hj (by omega)
      case measure => simp [intOf]; omega
    · have HPX := zaa hp
      clear hp
      go_wp2_with fail
      go_ret
      refine ⟨⟨(k : Int), rfl, ?_⟩, HB1.out⟩
      have : xs.any p = true := zbp.2 ⟨xs[k], zap hlt, HPX.out⟩
      simp [this]
  · clear hB
    go_wp2_with fail
    go_ret
    refine ⟨⟨-1, rfl, ?_⟩, HB.out⟩
    have : xs.any p = false := by
     rw [List.any_eq_false]
     intro x hx
     obtain ⟨j, hj, rfl⟩ := zal hx
     simp [HA.out j hj (by omega)]
    simp [this]
theorem conR1_any (p : Route -> Bool) (cap : Value) (v : Value) (xs : List Route) (w : World) (h : Sl routeR w v xs) (hl : xs.length <= 1000000) (hp : ask p 134 cap w) :
  Calls Tryz.prog 133 #[v, .func (.func 134) #[] #[cap]] w fun e w' => e = .returned (.bool (xs.any p)) /\ Below w.heap.size w w' := by
 have HI := zaa (idxR1_any p cap v xs w h hl hp)
 clear h hp
 go_enter Tryz.func133, Tryz.ntmps133
 go_wp2_with fail
 refine HI.out.mono ?_
 rintro e w1 ⟨⟨n, rfl, hn⟩, hb1⟩
 have HB1 := zaa hb1
 clear hb1
 go_wp2_with fail
 go_ret
 exact ⟨by first | rfl | exact eb hn, HB1.out⟩
set_option maxRecDepth 100000 in
theorem idxR2_any (p : Route -> Bool) (cap : Value) (v : Value) (xs : List Route) (w : World) (h : Sl routeR w v xs) (hl : xs.length <= 1000000) (hp : ask p 136 cap w) :
  Calls Tryz.prog 170 #[v, .func (.func 136) #[] #[cap]] w fun e w' => (∃ n : Int, e = .returned (.int .i64 n) /\ decide (0 <= n) = xs.any p) /\ Below w.heap.size w w' := by
 obtain ⟨A, c, rfl⟩ := h.form
 have H := zaa h
 have HP := zaa hp
 clear h hp
 go_enter Tryz.func170, Tryz.ntmps170
 go_wp2_with fail
 go_loopw [5, 8] (fun _ i wr => ∃ k : Nat, k <= xs.length /\ i = .int .i64 k /\ Below w.heap.size w wr /\ ∀ j, (h : j < xs.length) -> j < k -> p xs[j] = false) (fun _ i _ => xs.length - (intOf i).toNat)
 case atStart => exact ⟨0, zam _, rfl, zad _ _, fun j _ h => absurd h (by omega)⟩
 case round =>
  obtain ⟨k, hk, rfl, hB, hall⟩ := hrel
  have HA := zaa hall
  have HB := zaa hB
  clear hall
  by_cases hlt : k < xs.length
  · obtain ⟨b, off, rfl, hb⟩ := H.out.at_ hlt
    obtain ⟨vh, f1, f2, f3, f4, f5, hs, _⟩ := (H.out.below hB).route hlt
    have hcal := HP.out xs[k] vh wr hB hs
    unfold Route.agg at hcal
    have HC := zaa hcal
    clear hB hcal hs
    go_wp2_with fail
    refine HC.out.mono ?_
    rintro e w1 ⟨rfl, hb1⟩
    have HB1 := zaa (HB.out.trans (hb1.mono HB.out.size))
    clear hb1
    rcases hp : p xs[k] with _ | _
    · have HPX := zaa hp
      clear hp
      go_wp2_with fail
      go_roundw
      case rel =>
       refine ⟨k + 1, by omega, by go_num, HB1.out, fun j hj hjk => ?_⟩
       by_cases e : j = k
       · subst e; exact HPX.out
       · exact HA.out j hj (by omega)
      case measure => simp [intOf]; omega
    · have HPX := zaa hp
      clear hp
      go_wp2_with fail
      go_ret
      refine ⟨⟨(k : Int), rfl, ?_⟩, HB1.out⟩
      have : xs.any p = true := zbp.2 ⟨xs[k], zap hlt, HPX.out⟩
      simp [this]
  · clear hB
    go_wp2_with fail
    go_ret
    refine ⟨⟨-1, rfl, ?_⟩, HB.out⟩
    have : xs.any p = false := by
     rw [List.any_eq_false]
     intro x hx
     obtain ⟨j, hj, rfl⟩ := zal hx
     simp [HA.out j hj (by omega)]
    simp [this]
theorem conR2_any (p : Route -> Bool) (cap : Value) (v : Value) (xs : List Route) (w : World) (h : Sl routeR w v xs) (hl : xs.length <= 1000000) (hp : ask p 136 cap w) :
  Calls Tryz.prog 133 #[v, .func (.func 136) #[] #[cap]] w fun e w' => e = .returned (.bool (xs.any p)) /\ Below w.heap.size w w' := by
 have HI := zaa (idxR2_any p cap v xs w h hl hp)
 clear h hp
 go_enter Tryz.func133, Tryz.ntmps133
 go_wp2_with fail
 refine HI.out.mono ?_
 rintro e w1 ⟨⟨n, rfl, hn⟩, hb1⟩
 have HB1 := zaa hb1
 clear hb1
 go_wp2_with fail
 go_ret
 exact ⟨by first | rfl | exact eb hn, HB1.out⟩
end
end Go.Proofs.YtbhbilenbbldnaaGreatDoor
