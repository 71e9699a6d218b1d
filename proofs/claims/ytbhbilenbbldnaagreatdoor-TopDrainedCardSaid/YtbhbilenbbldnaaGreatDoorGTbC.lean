/-
  
-/
import Derived.Test.YtbhbilenbbldnaaGreatDoorGTbB
import Derived.Test.YtbhbilenbbldnaaGreatDoorGTaE
import Derived.Lib.QuietBelow
set_option linter.unusedVariables false
set_option linter.unusedSimpArgs false
set_option maxHeartbeats 16000000
namespace Go.Proofs.YtbhbilenbbldnaaGreatDoor
open Go Go.RowKit Go.Deep
def lbP (l : List Route) (p : Prefix) : Nat := (l.takeWhile fun x => prefOrd x.pre p).length
def hasP (l : List Route) (p : Prefix) : Bool := l.any fun x => sameP x.pre p
theorem tw_le {α : Type} (P : α -> Bool) : ∀ l : List α, (l.takeWhile P).length <= l.length
 | [] => by simp
 | a :: r => by rw [zbk]; have := tw_le P r; split <;> simp <;> omega
theorem tw_eq {α : Type} (P : α -> Bool) : ∀ (l : List α) (i : Nat), i <= l.length -> (∀ j, (h : j < l.length) -> j < i -> P l[j] = true) -> ((h : i < l.length) -> P l[i] = false) -> (l.takeWhile P).length = i
 | [], i, hi, _, _ => by simp at hi; subst hi; rfl
 | a :: r, 0, _, _, h2 => by
   have := h2 (by simp)
   rw [zbk]; simp at this; rw [this]; rfl
 | a :: r, i + 1, hi, h1, h2 => by
   have h0 := h1 0 (by simp) (by omega)
   simp at h0
   rw [zbk, h0]
   have := tw_eq P r i (by simpa using hi) (fun j hj hji => by have := h1 (j + 1) (by simp; omega) (by omega); rw [zbO] at this; exact this) (fun h => by have := h2 (by simp; omega); rw [zbO] at this; exact this)
   simp [this]
theorem lbP_iff {l : List Route} (h : SortedR l) {p : Prefix} {i j : Nat} (hij : i <= j) (hj : j < l.length) (hl : prefOrd l[j].pre p = true) : prefOrd (l[i]'(by omega)).pre p = true := by
 rcases Nat.lt_or_eq_of_le hij with e | e
 · exact ord_trans (zaG.1 h i j (by omega) hj e) hl
 · subst e; exact hl
theorem lbP_of {l : List Route} (h : SortedR l) {p : Prefix} {i : Nat} (hi : i < l.length) (he : l[i].pre = p) : lbP l p = i := by
 refine tw_eq _ l i (by omega) (fun j hj hji => ?_) (fun _ => ?_)
 · rw [<- he]; exact zaG.1 h j i hj hi hji
 · rw [he]; exact ord_irr p
theorem hasP_iff {l : List Route} (h : SortedR l) (p : Prefix) : hasP l p = true ↔ ∃ hl : lbP l p < l.length, l[lbP l p].pre = p := by
 unfold hasP
 rw [zbp]
 constructor
 · rintro ⟨x, hx, hs⟩
   obtain ⟨i, hi, rfl⟩ := zal hx
   have he := (sameP_iff _ _).1 hs
   have := lbP_of h hi he
   exact ⟨by omega, by simp only [this]; exact he⟩
 · rintro ⟨hl, he⟩
   exact ⟨_, zap hl, by rw [he]; exact sameP_refl p⟩
theorem addR_no : ∀ {l : List Route} {r : Route}, SortedR l -> hasP l r.pre = false -> addR l r = l.take (lbP l r.pre) ++ r :: l.drop (lbP l r.pre)
 | [], r, _, _ => rfl
 | x :: l, r, hs, hp => by
   obtain ⟨h1, h2⟩ := zaC.1 hs
   have hpx : sameP x.pre r.pre = false /\ hasP l r.pre = false := by unfold hasP at hp ⊢; simpa using hp
   unfold addR lbP
   rw [zbk]
   by_cases ho : prefOrd x.pre r.pre = true
   · rw [if_pos ho, ho]
     simp only [if_true, zay, zbj, zbB, zcb]
     rw [addR_no h2 hpx.2]; rfl
   · have ho' : prefOrd x.pre r.pre = false := by simpa using ho
     rw [if_neg ho, if_neg (by rw [hpx.1]; simp), ho']
     rfl
theorem addR_yes : ∀ {l : List Route} {r : Route}, SortedR l -> hasP l r.pre = true -> ∃ h : lbP l r.pre < l.length, l[lbP l r.pre].pre = r.pre /\ addR l r = l.set (lbP l r.pre) (updR l[lbP l r.pre] r)
 | [], r, _, hp => by unfold hasP at hp; simp at hp
 | x :: l, r, hs, hp => by
   obtain ⟨h1, h2⟩ := zaC.1 hs
   by_cases ho : prefOrd x.pre r.pre = true
   · have hne := ord_ne ho
     have hp2 : hasP l r.pre = true := by unfold hasP at hp ⊢; rw [List.any_cons, hne, Bool.false_or] at hp; exact hp
     obtain ⟨hl, he, ha⟩ := addR_yes h2 hp2
     have hlb : lbP (x :: l) r.pre = lbP l r.pre + 1 := by unfold lbP; rw [zbk, ho]; rfl
     refine ⟨by rw [hlb]; simpa using hl, by simp only [hlb]; simpa using he, ?_⟩
     unfold addR
     rw [if_pos ho, ha]
     simp only [hlb, zbK, zbO]
   · have ho' : prefOrd x.pre r.pre = false := by simpa using ho
     have hsm : sameP x.pre r.pre = true := by
      unfold hasP at hp
      rw [List.any_cons] at hp
      cases hx : sameP x.pre r.pre with
      | true => rfl
      | false =>
        rw [hx, Bool.false_or, zbp] at hp
        obtain ⟨y, hy, hys⟩ := hp
        have h3 := h1 y hy
        rw [(sameP_iff _ _).1 hys] at h3
        rw [ho'] at h3; cases h3
     have hlb : lbP (x :: l) r.pre = 0 := by unfold lbP; rw [zbk, ho']; rfl
     refine ⟨by rw [hlb]; simp, by simp only [hlb]; exact (sameP_iff _ _).1 hsm, ?_⟩
     unfold addR
     rw [if_neg ho, if_pos hsm]
     simp only [hlb, List.set_cons_zero, zcc]
theorem cmpP_bounds {a b : Prefix} (ha : prefBad a = 0) (hb : prefBad b = 0) : (cmpP a b < 0 ↔ prefOrd a b = true) /\ (cmpP a b = 0 ↔ a = b) /\ -1000 <= cmpP a b /\ cmpP a b <= 1000 := by
 have h1 := prefBad_ok ha
 have h2 := prefBad_ok hb
 have hw : ∀ x : Int, -1000 <= x -> x <= 1000 -> wrap64 x = x := by
  intro x h3 h4
  unfold wrap64
  omega
 unfold cmpP
 by_cases e : a.addr = b.addr
 · rw [if_neg (by simpa using e), hw _ (by omega) (by omega), prefOrd_iff]
   refine ⟨by omega, ⟨fun h => ?_, fun h => by rw [h]; omega⟩, by omega, by omega⟩
   cases a; cases b
   simp at e h ⊢
   exact ⟨e, by omega⟩
 · rw [if_pos e, hw _ (by omega) (by omega), prefOrd_iff]
   refine ⟨by omega, ⟨fun h => by omega, fun h => by rw [h] at e; exact absurd rfl e⟩, by omega, by omega⟩
theorem cmpCA_any (x : Route) (p : Prefix) (v : Value) (w : World) (h : Sl intR w v x.hops) :
  Calls Tryz.prog 90 #[x.agg v, .agg #[.int .i64 p.addr, .int .i64 p.bits]] w fun e w' => e = .returned (.int .i64 (cmpP x.pre p)) /\ Below w.heap.size w w' := by
 obtain ⟨A, c, rfl⟩ := h.form
 obtain ⟨hs, hhs⟩ : ∃ l, x.hops = l := ⟨_, rfl⟩
 unfold Route.agg
 rw [hhs]
 have hb : Below w.heap.size w ((w.alloc (.cells #[.int .i64 x.pre.addr, .int .i64 x.pre.bits, .bool x.here, .int .i64 x.cost, .slice A hs.length c] 75)).alloc (.cells #[.int .i64 p.addr, .int .i64 p.bits] 32)) := ((zad _ _).alloc (zab _) _).alloc (by simp) _
 have HB := zaa hb
 clear h hhs hb
 go_enter Tryz.func90, Tryz.ntmps90
 go_wp2_with fail
 refine (ribCompare_any x.pre p _).mono ?_
 rintro e w1 ⟨rfl, hb1⟩
 have HB1 := zaa (HB.out.trans (hb1.mono HB.out.size))
 clear hb1
 go_wp2_with fail
 go_ret
 exact ⟨rfl, HB1.out⟩
theorem cmpCP_any (x : Route) (p : Prefix) (v : Value) (w : World) (h : Sl intR w v x.hops) :
  Calls Tryz.prog 138 #[x.agg v, .agg #[.int .i64 p.addr, .int .i64 p.bits]] w fun e w' => e = .returned (.int .i64 (cmpP x.pre p)) /\ Below w.heap.size w w' := by
 obtain ⟨A, c, rfl⟩ := h.form
 obtain ⟨hs, hhs⟩ : ∃ l, x.hops = l := ⟨_, rfl⟩
 unfold Route.agg
 rw [hhs]
 have hb : Below w.heap.size w ((w.alloc (.cells #[.int .i64 x.pre.addr, .int .i64 x.pre.bits, .bool x.here, .int .i64 x.cost, .slice A hs.length c] 75)).alloc (.cells #[.int .i64 p.addr, .int .i64 p.bits] 32)) := ((zad _ _).alloc (zab _) _).alloc (by simp) _
 have HB := zaa hb
 clear h hhs hb
 go_enter Tryz.func138, Tryz.ntmps138
 go_wp2_with fail
 refine (ribCompare_any x.pre p _).mono ?_
 rintro e w1 ⟨rfl, hb1⟩
 have HB1 := zaa (HB.out.trans (hb1.mono HB.out.size))
 clear hb1
 go_wp2_with fail
 go_ret
 exact ⟨rfl, HB1.out⟩
set_option maxRecDepth 100000 in
theorem bsearchRA_any (v : Value) (xs : List Route) (p : Prefix) (w : World) (h : Sl routeR w v xs) (hord : SortedR xs) (hbad : ∀ x ∈ xs, prefBad x.pre = 0) (hp : prefBad p = 0) (hl : xs.length <= 1000000) :
  Calls Tryz.prog 89 #[v, .agg #[.int .i64 p.addr, .int .i64 p.bits], .func (.func 90) #[] #[]] w fun e w' => e = .returned (.tuple #[.int .i64 (lbP xs p : Nat), .bool (hasP xs p)]) /\ Below w.heap.size w w' := by
 obtain ⟨A, c, rfl⟩ := h.form
 have hal := (zad w.heap.size w).alloc (zab _) (.cells #[.int .i64 p.addr, .int .i64 p.bits] 32)
 have H := zaa (h.below hal)
 have HAL := zaa hal
 have HO := zaa hord
 have HG := zaa hbad
 have HPB := zaa hp
 have q0 : (w.alloc (.cells #[.int .i64 p.addr, .int .i64 p.bits] 32)).cell? ⟨w.heap.size, 0, none⟩ = some (.int .i64 p.addr) := by rw [zaf _ _ _ _ rfl]; rfl
 have q1 : (w.alloc (.cells #[.int .i64 p.addr, .int .i64 p.bits] 32)).cell? ⟨w.heap.size, 1, none⟩ = some (.int .i64 p.bits) := by rw [zaf _ _ _ _ rfl]; rfl
 have HQ0 := zaa q0
 have HQ1 := zaa q1
 have HLT := zaa (show w.heap.size < (w.alloc (.cells #[.int .i64 p.addr, .int .i64 p.bits] 32)).heap.size by simp)
 obtain ⟨W, hW⟩ : ∃ W, W = w.alloc (.cells #[.int .i64 p.addr, .int .i64 p.bits] 32) := ⟨_, rfl⟩
 rw [<- hW] at H HAL HQ0 HQ1 HLT
 clear h hord hbad hp hal q0 q1
 go_enter Tryz.func89, Tryz.ntmps89
 go_wp2_with fail
 rw [<- hW]
 clear hW
 obtain ⟨B, hB⟩ : ∃ B, B = w.heap.size := ⟨_, rfl⟩
 rw [<- hB] at HQ0 HQ1 HLT
 rw [<- hB]
 clear hB
 go_loopw [9, 10, 11] (fun i j _ wr => ∃ lo hi : Nat, i = .int .i64 lo /\ j = .int .i64 hi /\ lo <= hi /\ hi <= xs.length /\ Below W.heap.size W wr /\ (∀ t, (h : t < xs.length) -> t < lo -> prefOrd xs[t].pre p = true) /\ (∀ t, (h : t < xs.length) -> hi <= t -> prefOrd xs[t].pre p = false)) (fun i j _ _ => (intOf j).toNat - (intOf i).toNat)
 case atStart => exact ⟨0, xs.length, rfl, rfl, zam _, zab _, zad _ _, fun t _ ht => absurd ht (Nat.not_lt_zero _), fun t h1 h2 => by omega⟩
 case round =>
  obtain ⟨lo, hi, rfl, rfl, hlh, hin, hBB, hI1, hI2⟩ := hrel
  have I1 := zaa hI1
  have I2 := zaa hI2
  have HBB := zaa hBB
  have p0 := cell_keep hBB HQ0.out
  have p1 := cell_keep hBB HQ1.out
  clear hI1 hI2 hBB
  by_cases hlt : lo < hi
  · obtain ⟨md, hmd⟩ : ∃ md, md = (lo + hi) / 2 := ⟨_, rfl⟩
    have hm : md < xs.length := by omega
    obtain ⟨b, off, rfl, hb⟩ := H.out.at_ hm
    obtain ⟨vh, f1, f2, f3, f4, f5, hs, _⟩ := (H.out.below HBB.out).route hm
    obtain ⟨y, hy⟩ : ∃ y, xs[md] = y := ⟨_, rfl⟩
    rw [hy] at f1 f2 f3 f4 hs
    have hyb := HG.out _ (zap hm)
    rw [hy] at hyb
    have HCB := zaa (cmpP_bounds hyb HPB.out)
    have Y := zaa hy
    have HHS := zaa hs
    have cS : ∀ d os, Calls Tryz.prog 90 #[.agg #[.int .i64 y.pre.addr, .int .i64 y.pre.bits, .bool y.here, .int .i64 y.cost, vh], .agg #[.int .i64 p.addr, .int .i64 p.bits]] (Sort.grow (redrawn wr d) os) fun e w'' => e = .returned (.int .i64 (cmpP y.pre p)) /\ ∃ q : Regrown, w'' = Sort.grow (redrawn wr q.d) q.os := fun d os => Calls.regrown_of (cmpCA_any y p vh _ (HHS.out.below (below_regrown wr d os)))
    have l1 := cell_regrown f1
    have l2 := cell_regrown f2
    have l3 := cell_regrown f3
    have l4 := cell_regrown f4
    have l5 := cell_regrown f5
    have m1 := cell_regrown p0
    have m2 := cell_regrown p1
    have hdiv : ((lo : Int) + (hi : Int)) / 2 = (((lo + hi) / 2 : Nat) : Int) := by omega
    rw [<- hmd] at hdiv
    have HMD := zaa hmd
    have hmb : md <= 1000000 := by omega
    clear hmd
    clear hy hyb hs f1 f2 f3 f4 f5 p0 p1
    go_wp2_with fail
    refine wp_region_quiet_below (by kernel_rfl) (by kernel_rfl) ?_
    repeat (quiet_step (fail))
    quiet_step (exact cS _ _)
    repeat (quiet_step (fail))
    refine wpQuiet_nil ?_
    intro _ hw'
    obtain ⟨⟨dq, osq⟩, hw''⟩ := hw'
    subst hw''
    have HB1 := zaa (HBB.out.trans ((below_regrown wr dq osq).mono HBB.out.size))
    clear cS l1 l2 l3 l4 l5 m1 m2
    generalize Sort.grow (redrawn wr dq) osq = w5 at HB1 ⊢
    by_cases hc : cmpP y.pre p < 0
    · have HL := zaa (HCB.out.1.1 hc)
      go_wp2_with fail
      go_roundw
      case rel =>
       refine ⟨md + 1, hi, by first | rfl | go_num, rfl, by have := HMD.out; omega, hin, HB1.out, fun t ht htl => ?_, I2.out⟩
       exact lbP_iff HO.out (by omega) hm (by rw [Y.out]; exact HL.out)
      case measure => have := HMD.out; simp [intOf]; omega
    · have HL := zaa (show prefOrd y.pre p = false by rw [Bool.eq_false_iff]; exact fun e => hc (HCB.out.1.2 e))
      go_wp2_with fail
      go_roundw
      case rel =>
       refine ⟨lo, md, rfl, by first | rfl | go_num, by have := HMD.out; omega, by have := HMD.out; omega, HB1.out, I1.out, fun t ht htl => ?_⟩
       rw [Bool.eq_false_iff]
       intro e
       have := lbP_iff HO.out htl ht e
       rw [Y.out, HL.out] at this
       cases this
      case measure => have := HMD.out; simp [intOf]; omega
  · obtain rfl : lo = hi := by omega
    have hlb : lbP xs p = lo := tw_eq _ xs lo hin I1.out (fun h => I2.out lo h (zab _))
    have HLB := zaa hlb
    clear hlb
    by_cases hn : lo < xs.length
    · obtain ⟨b, off, rfl, hb⟩ := H.out.at_ hn
      obtain ⟨vh, f1, f2, f3, f4, f5, hs, _⟩ := (H.out.below HBB.out).route hn
      have hhas := hasP_iff HO.out p
      simp only [HLB.out] at hhas
      obtain ⟨y, hy⟩ : ∃ y, xs[lo] = y := ⟨_, rfl⟩
      rw [hy] at f1 f2 f3 f4 hs
      have hyb := HG.out _ (zap hn)
      rw [hy] at hyb
      have hcb := cmpP_bounds hyb HPB.out
      have HH := zaa (show hasP xs p = (cmpP y.pre p == 0) by
       rw [Bool.eq_iff_iff, hhas, beq_iff_eq, hcb.2.1, <- hy]; exact ⟨fun ⟨_, h⟩ => h, fun h => ⟨hn, h⟩⟩)
      have HHS := zaa hs
      have cS : ∀ d os, Calls Tryz.prog 90 #[.agg #[.int .i64 y.pre.addr, .int .i64 y.pre.bits, .bool y.here, .int .i64 y.cost, vh], .agg #[.int .i64 p.addr, .int .i64 p.bits]] (Sort.grow (redrawn wr d) os) fun e w'' => e = .returned (.int .i64 (cmpP y.pre p)) /\ ∃ q : Regrown, w'' = Sort.grow (redrawn wr q.d) q.os := fun d os => Calls.regrown_of (cmpCA_any y p vh _ (HHS.out.below (below_regrown wr d os)))
      have l1 := cell_regrown f1
      have l2 := cell_regrown f2
      have l3 := cell_regrown f3
      have l4 := cell_regrown f4
      have l5 := cell_regrown f5
      have m1 := cell_regrown p0
      have m2 := cell_regrown p1
      have hni : (lo : Int) < (xs.length : Int) := by omega
      clear hhas hcb hy hyb hs f1 f2 f3 f4 f5 p0 p1
      go_wp2_with fail
      refine wp_region_quiet_below (by kernel_rfl) (by kernel_rfl) ?_
      repeat (quiet_step (fail))
      quiet_step (exact cS _ _)
      repeat (quiet_step (fail))
      refine wpQuiet_nil ?_
      intro _ hw'
      obtain ⟨⟨dq, osq⟩, hw''⟩ := hw'
      subst hw''
      have HB1 := zaa (HBB.out.trans ((below_regrown wr dq osq).mono HBB.out.size))
      clear cS l1 l2 l3 l4 l5 m1 m2
      go_wp2_with fail
      go_ret2
      refine ⟨?_, HAL.out.trans (HB1.out.mono HAL.out.size)⟩
      rw [HLB.out, HH.out]
      rfl
    · have hni : ¬ (lo : Int) < (xs.length : Int) := by omega
      have HH := zaa (show hasP xs p = false by
       rw [Bool.eq_false_iff]
       intro e
       obtain ⟨h1, _⟩ := (hasP_iff HO.out p).1 e
       rw [HLB.out] at h1
       exact hn h1)
      go_wp2_with fail
      go_quiet (fail)
      go_wp2_with fail
      go_ret2
      refine ⟨by rw [HLB.out, HH.out]; rfl, HAL.out.trans ((bDrewN HBB.out _).mono HAL.out.size)⟩
set_option maxRecDepth 100000 in
theorem bsearchRP_any (v : Value) (xs : List Route) (p : Prefix) (w : World) (h : Sl routeR w v xs) (hord : SortedR xs) (hbad : ∀ x ∈ xs, prefBad x.pre = 0) (hp : prefBad p = 0) (hl : xs.length <= 1000000) :
  Calls Tryz.prog 89 #[v, .agg #[.int .i64 p.addr, .int .i64 p.bits], .func (.func 138) #[] #[]] w fun e w' => e = .returned (.tuple #[.int .i64 (lbP xs p : Nat), .bool (hasP xs p)]) /\ Below w.heap.size w w' := by
 obtain ⟨A, c, rfl⟩ := h.form
 have hal := (zad w.heap.size w).alloc (zab _) (.cells #[.int .i64 p.addr, .int .i64 p.bits] 32)
 have H := zaa (h.below hal)
 have HAL := zaa hal
 have HO := zaa hord
 have HG := zaa hbad
 have HPB := zaa hp
 have q0 : (w.alloc (.cells #[.int .i64 p.addr, .int .i64 p.bits] 32)).cell? ⟨w.heap.size, 0, none⟩ = some (.int .i64 p.addr) := by rw [zaf _ _ _ _ rfl]; rfl
 have q1 : (w.alloc (.cells #[.int .i64 p.addr, .int .i64 p.bits] 32)).cell? ⟨w.heap.size, 1, none⟩ = some (.int .i64 p.bits) := by rw [zaf _ _ _ _ rfl]; rfl
 have HQ0 := zaa q0
 have HQ1 := zaa q1
 have HLT := zaa (show w.heap.size < (w.alloc (.cells #[.int .i64 p.addr, .int .i64 p.bits] 32)).heap.size by simp)
 obtain ⟨W, hW⟩ : ∃ W, W = w.alloc (.cells #[.int .i64 p.addr, .int .i64 p.bits] 32) := ⟨_, rfl⟩
 rw [<- hW] at H HAL HQ0 HQ1 HLT
 clear h hord hbad hp hal q0 q1
 go_enter Tryz.func89, Tryz.ntmps89
 go_wp2_with fail
 rw [<- hW]
 clear hW
 obtain ⟨B, hB⟩ : ∃ B, B = w.heap.size := ⟨_, rfl⟩
 rw [<- hB] at HQ0 HQ1 HLT
 rw [<- hB]
 clear hB
 go_loopw [9, 10, 11] (fun i j _ wr => ∃ lo hi : Nat, i = .int .i64 lo /\ j = .int .i64 hi /\ lo <= hi /\ hi <= xs.length /\ Below W.heap.size W wr /\ (∀ t, (h : t < xs.length) -> t < lo -> prefOrd xs[t].pre p = true) /\ (∀ t, (h : t < xs.length) -> hi <= t -> prefOrd xs[t].pre p = false)) (fun i j _ _ => (intOf j).toNat - (intOf i).toNat)
 case atStart => exact ⟨0, xs.length, rfl, rfl, zam _, zab _, zad _ _, fun t _ ht => absurd ht (Nat.not_lt_zero _), fun t h1 h2 => by omega⟩
 case round =>
  obtain ⟨lo, hi, rfl, rfl, hlh, hin, hBB, hI1, hI2⟩ := hrel
  have I1 := zaa hI1
  have I2 := zaa hI2
  have HBB := zaa hBB
  have p0 := cell_keep hBB HQ0.out
  have p1 := cell_keep hBB HQ1.out
  clear hI1 hI2 hBB
  by_cases hlt : lo < hi
  · obtain ⟨md, hmd⟩ : ∃ md, md = (lo + hi) / 2 := ⟨_, rfl⟩
    have hm : md < xs.length := by omega
    obtain ⟨b, off, rfl, hb⟩ := H.out.at_ hm
    obtain ⟨vh, f1, f2, f3, f4, f5, hs, _⟩ := (H.out.below HBB.out).route hm
    obtain ⟨y, hy⟩ : ∃ y, xs[md] = y := ⟨_, rfl⟩
    rw [hy] at f1 f2 f3 f4 hs
    have hyb := HG.out _ (zap hm)
    rw [hy] at hyb
    have HCB := zaa (cmpP_bounds hyb HPB.out)
    have Y := zaa hy
    have HHS := zaa hs
    have cS : ∀ d os, Calls Tryz.prog 138 #[.agg #[.int .i64 y.pre.addr, .int .i64 y.pre.bits, .bool y.here, .int .i64 y.cost, vh], .agg #[.int .i64 p.addr, .int .i64 p.bits]] (Sort.grow (redrawn wr d) os) fun e w'' => e = .returned (.int .i64 (cmpP y.pre p)) /\ ∃ q : Regrown, w'' = Sort.grow (redrawn wr q.d) q.os := fun d os => Calls.regrown_of (cmpCP_any y p vh _ (HHS.out.below (below_regrown wr d os)))
    have l1 := cell_regrown f1
    have l2 := cell_regrown f2
    have l3 := cell_regrown f3
    have l4 := cell_regrown f4
    have l5 := cell_regrown f5
    have m1 := cell_regrown p0
    have m2 := cell_regrown p1
    have hdiv : ((lo : Int) + (hi : Int)) / 2 = (((lo + hi) / 2 : Nat) : Int) := by omega
    rw [<- hmd] at hdiv
    have HMD := zaa hmd
    have hmb : md <= 1000000 := by omega
    clear hmd
    clear hy hyb hs f1 f2 f3 f4 f5 p0 p1
    go_wp2_with fail
    refine wp_region_quiet_below (by kernel_rfl) (by kernel_rfl) ?_
    repeat (quiet_step (fail))
    quiet_step (exact cS _ _)
    repeat (quiet_step (fail))
    refine wpQuiet_nil ?_
    intro _ hw'
    obtain ⟨⟨dq, osq⟩, hw''⟩ := hw'
    subst hw''
    have HB1 := zaa (HBB.out.trans ((below_regrown wr dq osq).mono HBB.out.size))
    clear cS l1 l2 l3 l4 l5 m1 m2
    generalize Sort.grow (redrawn wr dq) osq = w5 at HB1 ⊢
    by_cases hc : cmpP y.pre p < 0
    · have HL := zaa (HCB.out.1.1 hc)
      go_wp2_with fail
      go_roundw
      case rel =>
       refine ⟨md + 1, hi, by first | rfl | go_num, rfl, by have := HMD.out; omega, hin, HB1.out, fun t ht htl => ?_, I2.out⟩
       exact lbP_iff HO.out (by omega) hm (by rw [Y.out]; exact HL.out)
      case measure => have := HMD.out; simp [intOf]; omega
    · have HL := zaa (show prefOrd y.pre p = false by rw [Bool.eq_false_iff]; exact fun e => hc (HCB.out.1.2 e))
      go_wp2_with fail
      go_roundw
      case rel =>
       refine ⟨lo, md, rfl, by first | rfl | go_num, by have := HMD.out; omega, by have := HMD.out; omega, HB1.out, I1.out, fun t ht htl => ?_⟩
       rw [Bool.eq_false_iff]
       intro e
       have := lbP_iff HO.out htl ht e
       rw [Y.out, HL.out] at this
       cases this
      case measure => have := HMD.out; simp [intOf]; omega
  · obtain rfl : lo = hi := by omega
    have hlb : lbP xs p = lo := tw_eq _ xs lo hin I1.out (fun h => I2.out lo h (zab _))
    have HLB := zaa hlb
    clear hlb
    by_cases hn : lo < xs.length
    · obtain ⟨b, off, rfl, hb⟩ := H.out.at_ hn
      obtain ⟨vh, f1, f2, f3, f4, f5, hs, _⟩ := (H.out.below HBB.out).route hn
      have hhas := hasP_iff HO.out p
      simp only [HLB.out] at hhas
      obtain ⟨y, hy⟩ : ∃ y, xs[lo] = y := ⟨_, rfl⟩
      rw [hy] at f1 f2 f3 f4 hs
      have hyb := HG.out _ (zap hn)
      rw [hy] at hyb
      have hcb := cmpP_bounds hyb HPB.out
      have HH := zaa (show hasP xs p = (cmpP y.pre p == 0) by
       rw [Bool.eq_iff_iff, hhas, beq_iff_eq, hcb.2.1, <- hy]; exact ⟨fun ⟨_, h⟩ => h, fun h => ⟨hn, h⟩⟩)
      have HHS := zaa hs
      have cS : ∀ d os, Calls Tryz.prog 138 #[.agg #[.int .i64 y.pre.addr, .int .i64 y.pre.bits, .bool y.here, .int .i64 y.cost, vh], .agg #[.int .i64 p.addr, .int .i64 p.bits]] (Sort.grow (redrawn wr d) os) fun e w'' => e = .returned (.int .i64 (cmpP y.pre p)) /\ ∃ q : Regrown, w'' = Sort.grow (redrawn wr q.d) q.os := fun d os => Calls.regrown_of (cmpCP_any y p vh _ (HHS.out.below (below_regrown wr d os)))
      have l1 := cell_regrown f1
      have l2 := cell_regrown f2
      have l3 := cell_regrown f3
      have l4 := cell_regrown f4
      have l5 := cell_regrown f5
      have m1 := cell_regrown p0
      have m2 := cell_regrown p1
      have hni : (lo : Int) < (xs.length : Int) := by omega
      clear hhas hcb hy hyb hs f1 f2 f3 f4 f5 p0 p1
      go_wp2_with fail
      refine wp_region_quiet_below (by kernel_rfl) (by kernel_rfl) ?_
      repeat (quiet_step (fail))
      quiet_step (exact cS _ _)
      repeat (quiet_step (fail))
      refine wpQuiet_nil ?_
      intro _ hw'
      obtain ⟨⟨dq, osq⟩, hw''⟩ := hw'
      subst hw''
      have HB1 := zaa (HBB.out.trans ((below_regrown wr dq osq).mono HBB.out.size))
      clear cS l1 l2 l3 l4 l5 m1 m2
      go_wp2_with fail
      go_ret2
      refine ⟨?_, HAL.out.trans (HB1.out.mono HAL.out.size)⟩
      rw [HLB.out, HH.out]
      rfl
    · have hni : ¬ (lo : Int) < (xs.length : Int) := by omega
      have HH := zaa (show hasP xs p = false by
       rw [Bool.eq_false_iff]
       intro e
       obtain ⟨h1, _⟩ := (hasP_iff HO.out p).1 e
       rw [HLB.out] at h1
       exact hn h1)
      go_wp2_with fail
      go_quiet (fail)
      go_wp2_with fail
      go_ret2
      refine ⟨by rw [HLB.out, HH.out]; rfl, HAL.out.trans ((bDrewN HBB.out _).mono HAL.out.size)⟩
end Go.Proofs.YtbhbilenbbldnaaGreatDoor
