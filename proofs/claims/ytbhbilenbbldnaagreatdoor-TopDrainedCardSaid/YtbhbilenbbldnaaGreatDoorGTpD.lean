/-
  
-/
import Derived.Test.YtbhbilenbbldnaaGreatDoorGPaA
import Derived.Test.YtbhbilenbbldnaaGreatDoorGKmA
import Derived.Deep.RegionHeld3
set_option linter.unusedVariables false
set_option linter.unusedSimpArgs false
set_option maxHeartbeats 16000000
namespace Go.Proofs.YtbhbilenbbldnaaGreatDoor
section
open Go
theorem tab_at {xs : List Entry} {s : Nat} (hs : s < 12) (p : Prefix) : atP (tabTo xs s 12) p = refRoute xs s p := by
 rw [(tab_find (xs := xs) (s := s) (fun n => (prefs_fine (prefsAt_chk xs n)).2.2) 12).2 p, acc_ref hs p]
theorem way_self (xs : List Entry) (s : Nat) : (wayTo xs s s).cost = 0 := by unfold wayTo; rw [if_pos rfl]
theorem way_pos {xs : List Entry} {s q : Nat} (h : q ≠ s) : (wayTo xs s q).cost ≠ 0 := by
 rcases cost_cases xs h with ⟨r1, _⟩ | ⟨m, r1, r2⟩
 · omega
 · have := r2.1.lt.2.2; omega
theorem ref_least {xs : List Entry} {s : Nat} {p : Prefix} {r : Route} (hs : s < 12) (h : refRoute xs s p = some r) :
  r.pre = p /\ (∃ k, k < 12 /\ p ∈ prefsAt xs k /\ 0 <= (wayTo xs s k).cost /\ (wayTo xs s k).cost = r.cost) /\ (∀ k, k < 12 -> p ∈ prefsAt xs k -> 0 <= (wayTo xs s k).cost -> r.cost <= (wayTo xs s k).cost) /\ (r.here = true ↔ r.cost = 0) := by
 unfold refRoute at h
 split at h
 · rename_i hin
   injection h with h; subst h
   exact ⟨rfl, ⟨s, hs, (inP_iff _ _).1 hin, by rw [way_self]; exact zbF _, way_self xs s⟩, fun k _ _ h0 => h0, by simp⟩
 · rename_i hin
   split at h
   · cases h
   · rename_i hc
     injection h with h; subst h
     obtain ⟨hb, hle⟩ := refCost_ok (xs := xs) (s := s) (p := p) 12
     have hex : ∀ n, 0 <= refCost xs s p n -> ∃ k, k < n /\ okN xs s p k = true /\ (wayTo xs s k).cost = refCost xs s p n := by
      intro n
      induction n with
      | zero => intro h0; unfold refCost at h0; omega
      | succ n ih =>
        intro h0
        unfold refCost at h0 ⊢
        split
        · rename_i hk
          exact ⟨n, by omega, hk.1, rfl⟩
        · rename_i hk
          rw [if_neg hk] at h0
          obtain ⟨k, h1, h2, h3⟩ := ih h0
          exact ⟨k, by omega, h2, h3⟩
     obtain ⟨k, h1, h2, h3⟩ := hex 12 (by omega)
     have h2' := h2
     unfold okN at h2'
     simp only [Bool.and_eq_true, decide_eq_true_eq] at h2'
     refine ⟨rfl, ⟨k, h1, (inP_iff _ _).1 h2'.2, h2'.1.2, h3⟩, fun j hj hp h0 => ?_, ?_⟩
     · have hjs : j ≠ s := fun e => by subst e; exact hin ((inP_iff _ _).2 hp)
       exact (hle j hj (by unfold okN; simp [hjs, h0, (inP_iff _ _).2 hp])).2
     · have hne := way_pos (xs := xs) h2'.1.1
       show (false = true ↔ refCost xs s p 12 = 0)
       rw [<- h3]
       exact Iff.intro (fun e => by cases e) (fun e => absurd e hne)
theorem ref_some {xs : List Entry} {s : Nat} {p : Prefix} {k : Nat} (hk : k < 12) (hp : p ∈ prefsAt xs k) (h0 : 0 <= (wayTo xs s k).cost) : ∃ r, refRoute xs s p = some r := by
 unfold refRoute
 split
 · exact ⟨_, rfl⟩
 · rename_i hin
   have hks : k ≠ s := fun e => by subst e; exact hin ((inP_iff _ _).2 hp)
   have := (refCost_ok (xs := xs) (s := s) (p := p) 12).2 k hk (by unfold okN; simp [hks, h0, (inP_iff _ _).2 hp])
   rw [if_neg (by omega)]
   exact ⟨_, rfl⟩
theorem look_cases {t : List Route} {addr : Int} (hc : chkRoutes t = 0) (h2 : 0 <= addr /\ addr <= 255) :
  (lookS t addr = (zeroR, 6) /\ ∀ x ∈ t, matchR addr x = false) ∨ ∃ r, lookS t addr = (r, 0) /\ r ∈ t /\ matchR addr r = true /\ ∀ x ∈ t, matchR addr x = true -> x.pre.bits <= r.pre.bits := by
 cases hb : bestTo t addr t.length with
 | none =>
   left
   refine ⟨look_none hc h2 hb, fun x hx => ?_⟩
   obtain ⟨i, hi, rfl⟩ := zal hx
   have := best_none t addr t.length hb i hi
   rwa [zaj, zac hi] at this
 | some j =>
   right
   obtain ⟨h3, h4, h5⟩ := best_some t addr t.length j hb
   refine ⟨t[j], look_some hc h2 hb h3, zap h3, ?_, fun x hx hm => ?_⟩
   · rwa [zaj, zac h3] at h4
   · obtain ⟨i, hi, rfl⟩ := zal hx
     have h6 := h5 i hi (by rw [zaj, zac hi]; exact hm)
     rw [zaj, zac hi, zaj, zac h3] at h6
     simp only [Option.getD_some] at h6
     omega
theorem match_pre {addr : Int} {x y : Route} (hx : matchR addr x = true) (hy : matchR addr y = true) (hb : x.pre.bits = y.pre.bits) : x.pre = y.pre := by
 unfold matchR at hx hy
 rw [beq_iff_eq] at hx hy
 have : x.pre.addr = y.pre.addr := by rw [<- hx, <- hy, hb]
 cases hxp : x.pre; cases hyp : y.pre
 rw [hxp, hyp] at this hb
 simp at this hb
 rw [this, hb]
def matchP (addr : Int) (p : Prefix) : Bool := addr - addr % spanN p.bits == p.addr
end
section
open Go.RowKit Go.ChangeShapes Go.WideShapes Go.ChangeAt
theorem opens_raw : Opens Tryz.prog rawR 81 :=
 ⟨by kernel_rfl, fun H enc W fuel cs x h => by
  obtain ⟨hlen, hf⟩ := trod_fields Tryz.underlying81 h
  obtain ⟨a0, h0⟩ := hf _ intR 0 _ rfl (opens_int Tryz.underlying3 (by kernel_rfl))
  obtain ⟨a1, h1⟩ := hf _ intR 1 _ rfl (opens_int Tryz.underlying3 (by kernel_rfl))
  obtain ⟨a2, h2⟩ := hf _ intR 2 _ rfl (opens_int Tryz.underlying3 (by kernel_rfl))
  obtain ⟨a3, h3⟩ := hf _ intR 3 _ rfl (opens_int Tryz.underlying3 (by kernel_rfl))
  have hl : cs.length = 4 := by rw [hlen]; kernel_rfl
  match cs, hl with
  | [c0, c1, c2, c3], _ =>
    obtain ⟨e0, w0⟩ := h0
    obtain ⟨e1, w1⟩ := h1
    obtain ⟨e2, w2⟩ := h2
    obtain ⟨e3, w3⟩ := h3
    simp [intR, flatR] at e0 e1 e2 e3
    subst e0 e1 e2 e3
    exact ⟨⟨a0, a1, a2, a3⟩, rfl, w0, w1, w2, w3⟩⟩
theorem opens_raws : Opens Tryz.prog (slR rawR) 22 := opens_slice Tryz.underlying22 (by kernel_rfl) (by decide) opens_raw
end
section
open Go Go.RowKit Go.Deep
theorem chk_bits {l : List Prefix} (h : chkPrefs l = 0) : ∀ p ∈ l, 0 <= p.bits /\ p.bits <= 8 := fun p hp => by
 obtain ⟨h1, h2, _⟩ := prefBad_ok ((prefs_fine h).2.1 p hp)
 exact ⟨h1, h2⟩
theorem matchW (bn : Nat) (n : Int) (p : Prefix) (w : World) (hn : 0 <= n /\ n <= 255) (hb : 0 <= p.bits /\ p.bits <= 8) (hc : w.cell? ⟨bn, 0, none⟩ = some (.int .i64 n)) (hlt : bn < w.heap.size) :
  Calls Tryz.prog 33 #[.agg #[.int .i64 p.addr, .int .i64 p.bits], .pointer (some ⟨bn, 0, none⟩)] w fun e w' => e = .returned (.bool (matchP n p)) /\ Below w.heap.size w w' := by
 have hand := andNot_span n p.bits hb.1 hb.2 hn.1 hn.2
 have o1 : ¬ p.bits < 0 := by omega
 have o2 : 0 <= p.bits := hb.1
 have o3 : p.bits <= 8 := hb.2
 have hal : Below w.heap.size w (w.alloc (.cells #[.int .i64 p.addr, .int .i64 p.bits] 32)) := (zad _ _).alloc (zab _) _
 have hc2 := (bAt hal hlt 0).trans hc
 have HAL := zaa hal
 have HM := zaa (show matchP n p = (n - n % spanN p.bits == p.addr) from rfl)
 clear hal hc hn hb
 go_enter Tryz.func33, Tryz.ntmps33
 go_wp2_with fail
 go_quiet (fail)
 go_wp2_with fail
 go_ret
 exact ⟨eb HM.out.symm, bDrewN HAL.out _⟩
theorem idxW (bn : Nat) (n : Int) (v : Value) (xs : List Prefix) (w : World) (h : Sl prefR w v xs) (hn : 0 <= n /\ n <= 255) (hb : ∀ p ∈ xs, 0 <= p.bits /\ p.bits <= 8) (hc : w.cell? ⟨bn, 0, none⟩ = some (.int .i64 n)) (hlt : bn < w.heap.size) (hx : ∃ p ∈ xs, matchP n p = true) :
  Calls Tryz.prog 56 #[v, .func (.func 33) #[] #[.pointer (some ⟨bn, 0, none⟩)]] w fun e w' => (∃ k : Nat, e = .returned (.int .i64 k)) /\ Below w.heap.size w w' := by
 have hlen := h.len_le
 obtain ⟨A, c, rfl⟩ := h.form
 have H := zaa h
 have HX := zaa hx
 have HB0 := zaa hb
 have HC := zaa hc
 have HN := zaa hn
 clear h hx hb hc
 go_enter Tryz.func56, Tryz.ntmps56
 go_wp2_with fail
 go_loopw [5, 8] (fun _ i wr => ∃ k : Nat, k <= xs.length /\ i = .int .i64 k /\ Below w.heap.size w wr /\ ∀ j, (h : j < xs.length) -> j < k -> matchP n xs[j] = false) (fun _ i _ => xs.length - (intOf i).toNat)
 case atStart => exact ⟨0, zam _, rfl, zad _ _, fun j _ h => absurd h (by omega)⟩
 case round =>
  obtain ⟨k, hk, rfl, hB', hall⟩ := hrel
  have HA := zaa hall
  have HB := zaa hB'
  clear hall
  by_cases hl2 : k < xs.length
  · obtain ⟨b, off, rfl, hb⟩ := H.out.at_ hl2
    obtain ⟨f1, f2, _, _⟩ := (H.out.below hB').pref hl2
    have HCL := zaa (matchW bn n xs[k] wr HN.out (HB0.out _ (zap hl2)) ((bAt hB' hlt 0).trans HC.out) (zai hlt hB'.size))
    have r0 : (0 : Int) <= (k : Int) := zae _
    have r1 : (k : Int) < (xs.length : Int) := by omega
    clear hB'
    go_wp2_with fail
    refine HCL.out.mono ?_
    rintro e w1 ⟨rfl, hb1⟩
    have HB1 := zaa (HB.out.trans (hb1.mono HB.out.size))
    clear hb1
    rcases hp : matchP n xs[k] with _ | _
    · have HPX := zaa hp
      clear hp
      go_wp2_with fail
      go_roundw
      case rel =>
       refine ⟨k + 1, by omega, by go_num, HB1.out, fun j hj hjk => ?_⟩
       by_cases e : j = k
       · subst e; exact HPX.out
       · exact HA.out j hj (by omega)
      case measure => simp [intOf]; omega
    · clear hp
      go_wp2_with fail
      go_ret
      exact ⟨⟨k, rfl⟩, HB1.out⟩
  · exfalso
    obtain ⟨p, hp, hm⟩ := HX.out
    obtain ⟨j, hj, rfl⟩ := zal hp
    rw [HA.out j hj (by omega)] at hm
    cases hm
theorem contW (bn : Nat) (n : Int) (v : Value) (xs : List Prefix) (w : World) (h : Sl prefR w v xs) (hn : 0 <= n /\ n <= 255) (hb : ∀ p ∈ xs, 0 <= p.bits /\ p.bits <= 8) (hc : w.cell? ⟨bn, 0, none⟩ = some (.int .i64 n)) (hlt : bn < w.heap.size) (hx : ∃ p ∈ xs, matchP n p = true) :
  Calls Tryz.prog 32 #[v, .func (.func 33) #[] #[.pointer (some ⟨bn, 0, none⟩)]] w fun e w' => e = .returned (.bool true) /\ Below w.heap.size w w' := by
 have HI := zaa (idxW bn n v xs w h hn hb hc hlt hx)
 obtain ⟨A, c, rfl⟩ := h.form
 clear h hn hb hc hx
 go_enter Tryz.func32, Tryz.ntmps32
 go_wp2_with fail
 refine HI.out.mono ?_
 rintro e w1 ⟨⟨k, rfl⟩, hb⟩
 have HB := zaa hb
 have r0 : (0 : Int) <= (k : Int) := zae _
 clear hb
 go_wp2_with fail
 go_ret
 exact ⟨rfl, HB.out⟩
theorem matchD (bn : Nat) (n : Int) (p : Prefix) (w : World) (hn : 0 <= n /\ n <= 255) (hb : 0 <= p.bits /\ p.bits <= 8) (hc : w.cell? ⟨bn, 0, none⟩ = some (.int .i64 n)) (hlt : bn < w.heap.size) :
  Calls Tryz.prog 35 #[.agg #[.int .i64 p.addr, .int .i64 p.bits], .pointer (some ⟨bn, 0, none⟩)] w fun e w' => e = .returned (.bool (matchP n p)) /\ Below w.heap.size w w' := by
 have hand := andNot_span n p.bits hb.1 hb.2 hn.1 hn.2
 have o1 : ¬ p.bits < 0 := by omega
 have o2 : 0 <= p.bits := hb.1
 have o3 : p.bits <= 8 := hb.2
 have hal : Below w.heap.size w (w.alloc (.cells #[.int .i64 p.addr, .int .i64 p.bits] 32)) := (zad _ _).alloc (zab _) _
 have hc2 := (bAt hal hlt 0).trans hc
 have HAL := zaa hal
 have HM := zaa (show matchP n p = (n - n % spanN p.bits == p.addr) from rfl)
 clear hal hc hn hb
 go_enter Tryz.func35, Tryz.ntmps35
 go_wp2_with fail
 go_quiet (fail)
 go_wp2_with fail
 go_ret
 exact ⟨eb HM.out.symm, bDrewN HAL.out _⟩
theorem idxD (bn : Nat) (n : Int) (v : Value) (xs : List Prefix) (w : World) (h : Sl prefR w v xs) (hn : 0 <= n /\ n <= 255) (hb : ∀ p ∈ xs, 0 <= p.bits /\ p.bits <= 8) (hc : w.cell? ⟨bn, 0, none⟩ = some (.int .i64 n)) (hlt : bn < w.heap.size) (hx : ∃ p ∈ xs, matchP n p = true) :
  Calls Tryz.prog 56 #[v, .func (.func 35) #[] #[.pointer (some ⟨bn, 0, none⟩)]] w fun e w' => (∃ k : Nat, e = .returned (.int .i64 k)) /\ Below w.heap.size w w' := by
 have hlen := h.len_le
 obtain ⟨A, c, rfl⟩ := h.form
 have H := zaa h
 have HX := zaa hx
 have HB0 := zaa hb
 have HC := zaa hc
 have HN := zaa hn
 clear h hx hb hc
 go_enter Tryz.func56, Tryz.ntmps56
 go_wp2_with fail
 go_loopw [5, 8] (fun _ i wr => ∃ k : Nat, k <= xs.length /\ i = .int .i64 k /\ Below w.heap.size w wr /\ ∀ j, (h : j < xs.length) -> j < k -> matchP n xs[j] = false) (fun _ i _ => xs.length - (intOf i).toNat)
 case atStart => exact ⟨0, zam _, rfl, zad _ _, fun j _ h => absurd h (by omega)⟩
 case round =>
  obtain ⟨k, hk, rfl, hB', hall⟩ := hrel
  have HA := zaa hall
  have HB := zaa hB'
  clear hall
  by_cases hl2 : k < xs.length
  · obtain ⟨b, off, rfl, hb⟩ := H.out.at_ hl2
    obtain ⟨f1, f2, _, _⟩ := (H.out.below hB').pref hl2
    have HCL := zaa (matchD bn n xs[k] wr HN.out (HB0.out _ (zap hl2)) ((bAt hB' hlt 0).trans HC.out) (zai hlt hB'.size))
    have r0 : (0 : Int) <= (k : Int) := zae _
    have r1 : (k : Int) < (xs.length : Int) := by omega
    clear hB'
    go_wp2_with fail
    refine HCL.out.mono ?_
    rintro e w1 ⟨rfl, hb1⟩
    have HB1 := zaa (HB.out.trans (hb1.mono HB.out.size))
    clear hb1
    rcases hp : matchP n xs[k] with _ | _
    · have HPX := zaa hp
      clear hp
      go_wp2_with fail
      go_roundw
      case rel =>
       refine ⟨k + 1, by omega, by go_num, HB1.out, fun j hj hjk => ?_⟩
       by_cases e : j = k
       · subst e; exact HPX.out
       · exact HA.out j hj (by omega)
      case measure => simp [intOf]; omega
    · clear hp
      go_wp2_with fail
      go_ret
      exact ⟨⟨k, rfl⟩, HB1.out⟩
  · exfalso
    obtain ⟨p, hp, hm⟩ := HX.out
    obtain ⟨j, hj, rfl⟩ := zal hp
    rw [HA.out j hj (by omega)] at hm
    cases hm
theorem contD (bn : Nat) (n : Int) (v : Value) (xs : List Prefix) (w : World) (h : Sl prefR w v xs) (hn : 0 <= n /\ n <= 255) (hb : ∀ p ∈ xs, 0 <= p.bits /\ p.bits <= 8) (hc : w.cell? ⟨bn, 0, none⟩ = some (.int .i64 n)) (hlt : bn < w.heap.size) (hx : ∃ p ∈ xs, matchP n p = true) :
  Calls Tryz.prog 32 #[v, .func (.func 35) #[] #[.pointer (some ⟨bn, 0, none⟩)]] w fun e w' => e = .returned (.bool true) /\ Below w.heap.size w w' := by
 have HI := zaa (idxD bn n v xs w h hn hb hc hlt hx)
 obtain ⟨A, c, rfl⟩ := h.form
 clear h hn hb hc hx
 go_enter Tryz.func32, Tryz.ntmps32
 go_wp2_with fail
 refine HI.out.mono ?_
 rintro e w1 ⟨⟨k, rfl⟩, hb⟩
 have HB := zaa hb
 have r0 : (0 : Int) <= (k : Int) := zae _
 clear hb
 go_wp2_with fail
 go_ret
 exact ⟨rfl, HB.out⟩
theorem indexI_any (v : Value) (xs : List Int) (n : Int) (w : World) (h : Sl intR w v xs) :
  Calls Tryz.prog 57 #[v, .int .i64 n] w fun e w' => (∃ k : Int, e = .returned (.int .i64 k) /\ (decide (0 <= k) = xs.contains n)) /\ Below w.heap.size w w' := by
 have hlen := h.len_le
 obtain ⟨A, c, rfl⟩ := h.form
 have H := zaa h
 clear h
 go_enter Tryz.func57, Tryz.ntmps57
 go_wp2_with fail
 go_loopw [5, 8] (fun _ i wr => ∃ k : Nat, k <= xs.length /\ i = .int .i64 k /\ Below w.heap.size w wr /\ ∀ j, (h : j < xs.length) -> j < k -> xs[j] ≠ n) (fun _ i _ => xs.length - (intOf i).toNat)
 case atStart => exact ⟨0, zam _, rfl, zad _ _, fun j _ h => absurd h (by omega)⟩
 case round =>
  obtain ⟨k, hk, rfl, hB', hall⟩ := hrel
  have HA := zaa hall
  have HB := zaa hB'
  clear hall
  by_cases hl2 : k < xs.length
  · obtain ⟨b, off, rfl, hb⟩ := H.out.at_ hl2
    obtain ⟨f1, _⟩ := (H.out.below hB').int hl2
    have r0 : (0 : Int) <= (k : Int) := zae _
    have r1 : (k : Int) < (xs.length : Int) := by omega
    obtain ⟨x, hx⟩ : ∃ x, x = xs[k] := ⟨_, rfl⟩
    have HX := zaa hx
    rw [<- hx] at f1
    clear hB' hx
    by_cases he : n = x
    · have t1 : (n == x) = true := by simp [he]
      have HE := zaa he
      clear he
      go_wp2_with fail
      (try go_quiet (fail))
      (try go_wp2_with fail)
      go_ret
      exact ⟨⟨k, rfl, by
       rw [decide_eq_true (by omega)]
       symm
       rw [zbU, HE.out, HX.out]
       exact zap hl2⟩, by first | exact HB.out | exact bDrewN HB.out _⟩
    · have t1 : (n == x) = false := by simp [he]
      have HE := zaa he
      clear he
      go_wp2_with fail
      (try go_quiet (fail))
      (try go_wp2_with fail)
      go_roundw
      case rel =>
       refine ⟨k + 1, by omega, by go_num, by first | exact HB.out | exact bDrewN HB.out _, fun j hj hjk => ?_⟩
       by_cases e : j = k
       · subst e; rw [<- HX.out]; exact fun e2 => HE.out e2.symm
       · exact HA.out j hj (by omega)
      case measure => simp [intOf]; omega
  · clear hB'
    go_wp2_with fail
    go_ret
    exact ⟨⟨-1, rfl, by
     rw [decide_eq_false (by decide)]
     symm
     rw [List.contains_eq_mem, decide_eq_false]
     intro hm
     obtain ⟨j, hj, he⟩ := zal hm
     exact HA.out j hj (by omega) he⟩, HB.out⟩
theorem containsI_any (v : Value) (xs : List Int) (n : Int) (w : World) (h : Sl intR w v xs) :
  Calls Tryz.prog 34 #[v, .int .i64 n] w fun e w' => e = .returned (.bool (xs.contains n)) /\ Below w.heap.size w w' := by
 have HI := zaa (indexI_any v xs n w h)
 obtain ⟨A, c, rfl⟩ := h.form
 clear h
 go_enter Tryz.func34, Tryz.ntmps34
 go_wp2_with fail
 refine HI.out.mono ?_
 rintro e w1 ⟨⟨k, rfl, hk⟩, hb⟩
 have HB := zaa hb
 have HK := zaa hk
 clear hb hk
 go_wp2_with fail
 go_ret
 exact ⟨eb HK.out, HB.out⟩
end
end Go.Proofs.YtbhbilenbbldnaaGreatDoor
