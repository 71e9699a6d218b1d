/-
  
-/
import Derived.Test.YtbhbilenbbldnaaGreatDoorGTaF
import Derived.Test.YtbhbilenbbldnaaGreatDoorGTbC
import Derived.Test.YtbhbilenbbldnaaGreatDoorGTbE
import Derived.Test.YtbhbilenbbldnaaGreatDoorGRibS
set_option linter.unusedVariables false
set_option linter.unusedSimpArgs false
namespace Go.Proofs.YtbhbilenbbldnaaGreatDoor
open Go
theorem putR_no : ∀ {l : List Route} {r : Route}, SortedR l → hasP l r.pre = false → putR l r = l.take (lbP l r.pre) ++ r :: l.drop (lbP l r.pre)
 | [], r, _, _ => rfl
 | x :: l, r, hs, hp => by
   obtain ⟨h1, h2⟩ := List.pairwise_cons.1 hs
   have hpx : sameP x.pre r.pre = false ∧ hasP l r.pre = false := by unfold hasP at hp ⊢; simpa using hp
   unfold putR lbP
   rw [List.takeWhile_cons]
   by_cases ho : prefOrd x.pre r.pre = true
   · rw [if_pos ho, ho]
     simp only [if_true, List.length_cons, List.take_succ_cons, List.drop_succ_cons, List.cons_append]
     rw [putR_no h2 hpx.2]; rfl
   · have ho' : prefOrd x.pre r.pre = false := by simpa using ho
     rw [if_neg ho, if_neg (by rw [hpx.1]; simp), ho']
     rfl
theorem putR_yes : ∀ {l : List Route} {r : Route}, SortedR l → hasP l r.pre = true → lbP l r.pre < l.length ∧ putR l r = l.set (lbP l r.pre) r
 | [], r, _, hp => by unfold hasP at hp; simp at hp
 | x :: l, r, hs, hp => by
   obtain ⟨h1, h2⟩ := List.pairwise_cons.1 hs
   by_cases ho : prefOrd x.pre r.pre = true
   · have hne := ord_ne ho
     have hp2 : hasP l r.pre = true := by unfold hasP at hp ⊢; rw [List.any_cons, hne, Bool.false_or] at hp; exact hp
     obtain ⟨hl, ha⟩ := putR_yes h2 hp2
     have hlb : lbP (x :: l) r.pre = lbP l r.pre + 1 := by unfold lbP; rw [List.takeWhile_cons, ho]; rfl
     refine ⟨by rw [hlb]; simpa using hl, ?_⟩
     unfold putR
     rw [if_pos ho, ha]
     simp only [hlb, List.set_cons_succ]
   · have ho' : prefOrd x.pre r.pre = false := by simpa using ho
     have hsm : sameP x.pre r.pre = true := by
      unfold hasP at hp
      rw [List.any_cons] at hp
      cases hx : sameP x.pre r.pre with
      | true => rfl
      | false =>
        rw [hx, Bool.false_or, List.any_eq_true] at hp
        obtain ⟨y, hy, hys⟩ := hp
        have h3 := h1 y hy
        rw [(sameP_iff _ _).1 hys] at h3
        rw [ho'] at h3; cases h3
     have hlb : lbP (x :: l) r.pre = 0 := by unfold lbP; rw [List.takeWhile_cons, ho']; rfl
     refine ⟨by rw [hlb]; simp, ?_⟩
     unfold putR
     rw [if_neg ho, if_pos hsm]
     simp only [hlb, List.set_cons_zero]
theorem putR_len : ∀ (l : List Route) (r : Route), (putR l r).length ≤ l.length + 1
 | [], r => by simp [putR]
 | x :: l, r => by
   have := putR_len l r
   unfold putR
   split
   · simp; omega
   · split <;> simp
theorem foldl_take {α β : Type} (f : β → α → β) (b : β) (l : List α) {k : Nat} (h : k < l.length) : (l.take (k + 1)).foldl f b = f ((l.take k).foldl f b) l[k] := by
 rw [List.take_succ_eq_append_getElem h, List.foldl_append]; rfl
theorem fold_putR {P : Route → Prop} : ∀ (set l : List Route), SortedR l → (∀ x ∈ l, P x) → (∀ x ∈ set, P x) → SortedR (set.foldl putR l) ∧ (∀ x ∈ set.foldl putR l, P x) ∧ (set.foldl putR l).length ≤ l.length + set.length
 | [], l, h1, h2, _ => ⟨h1, h2, Nat.le_refl _⟩
 | r :: set, l, h1, h2, h3 => by
   have hr := h3 r (by simp)
   obtain ⟨g1, g2, g3⟩ := fold_putR set (putR l r) (sorted_put h1 r) (fun x hx => by
    rcases mem_putR hx with e | e
    · rw [e]; exact hr
    · exact h2 x e) (fun x hx => h3 x (by simp [hx]))
   have := putR_len l r
   exact ⟨g1, g2, by rw [List.length_cons, List.foldl_cons]; omega⟩
def idxP (xs : List Prefix) (p : Prefix) : Int := match xs.findIdx? fun x => sameP x p with | some i => (i : Int) | none => -1
theorem idxP_hit {xs : List Prefix} {p : Prefix} {k : Nat} (hk : k < xs.length) (h : ∀ j, (hj : j < xs.length) → j < k → sameP xs[j] p = false) (he : sameP xs[k] p = true) : idxP xs p = k ∧ inP xs p = true := by
 have : (xs.findIdx? fun x => sameP x p) = some k := by
  rw [List.findIdx?_eq_some_iff_getElem]
  exact ⟨hk, he, fun j hj => by have := h j (by omega) hj; simp [this]⟩
 unfold idxP
 rw [this]
 exact ⟨rfl, by unfold inP; rw [List.any_eq_true]; exact ⟨xs[k], List.getElem_mem hk, he⟩⟩
theorem idxP_miss {xs : List Prefix} {p : Prefix} (h : ∀ j, (hj : j < xs.length) → sameP xs[j] p = false) : idxP xs p = -1 ∧ inP xs p = false := by
 have : (xs.findIdx? fun x => sameP x p) = none := by
  rw [List.findIdx?_eq_none_iff]
  intro x hx
  obtain ⟨i, hi, rfl⟩ := List.getElem_of_mem hx
  exact h i hi
 unfold idxP
 rw [this]
 refine ⟨rfl, ?_⟩
 unfold inP
 rw [List.any_eq_false]
 intro x hx
 obtain ⟨i, hi, rfl⟩ := List.getElem_of_mem hx
 rw [h i hi]; simp
theorem idxP_cases (xs : List Prefix) (p : Prefix) : (idxP xs p = -1 ∧ inP xs p = false ∧ ∀ j, (hj : j < xs.length) → sameP xs[j] p = false) ∨
  ∃ k, ∃ hk : k < xs.length, idxP xs p = k ∧ inP xs p = true ∧ xs[k] = p := by
 unfold idxP
 rcases hf : xs.findIdx? fun x => sameP x p with _ | k
 · left
   have h : ∀ j, (hj : j < xs.length) → sameP xs[j] p = false := fun j hj => by
    rw [List.findIdx?_eq_none_iff] at hf
    exact hf _ (List.getElem_mem hj)
   exact ⟨rfl, (idxP_miss h).2, h⟩
 · right
   rw [List.findIdx?_eq_some_iff_getElem] at hf
   obtain ⟨hk, he, hl⟩ := hf
   exact ⟨k, hk, rfl, (idxP_hit hk (fun j hj hjk => by have := hl j hjk; simpa using this) he).2, (sameP_iff _ _).1 he⟩
end Go.Proofs.YtbhbilenbbldnaaGreatDoor

namespace Go.Proofs.YtbhbilenbbldnaaGreatDoor
open Go Go.RowKit Go.Deep
set_option maxRecDepth 50000 in
set_option maxHeartbeats 1000000 in
theorem idxPref_any (v : Value) (xs : List Prefix) (p : Prefix) (w : World) (h : Sl prefR w v xs) :
  Calls Tryz.prog 97 #[v, .agg #[.int .i64 p.addr, .int .i64 p.bits]] w fun e w' => e = .returned (.int .i64 (idxP xs p)) ∧ Below w.heap.size w w' := by
 have hl := h.len_le
 obtain ⟨A, c, rfl⟩ := h.form
 have hal := (Below.refl w.heap.size w).alloc (Nat.le_refl _) (.cells #[.int .i64 p.addr, .int .i64 p.bits] 32)
 have H := Go.Lib.hid (h.below hal)
 have HAL := Go.Lib.hid hal
 obtain ⟨R, hR⟩ : ∃ R, R = idxP xs p := ⟨_, rfl⟩
 rw [← hR]
 have HR := Go.Lib.hid hR
 clear hR
 have HQ0 := Go.Lib.hid (show (w.alloc (.cells #[.int .i64 p.addr, .int .i64 p.bits] 32)).cell? ⟨w.heap.size, 0, none⟩ = some (.int .i64 p.addr) by rw [World.cell?_alloc_at _ _ _ _ rfl]; rfl)
 have HQ1 := Go.Lib.hid (show (w.alloc (.cells #[.int .i64 p.addr, .int .i64 p.bits] 32)).cell? ⟨w.heap.size, 1, none⟩ = some (.int .i64 p.bits) by rw [World.cell?_alloc_at _ _ _ _ rfl]; rfl)
 obtain ⟨W, hW⟩ : ∃ W, W = w.alloc (.cells #[.int .i64 p.addr, .int .i64 p.bits] 32) := ⟨_, rfl⟩
 rw [← hW] at H HAL HQ0 HQ1
 clear h hal
 go_enter Tryz.func97, Tryz.ntmps97
 go_wp2_with fail
 rw [← hW]
 clear hW
 obtain ⟨B, hB⟩ : ∃ B, B = w.heap.size := ⟨_, rfl⟩
 rw [← hB] at HQ0 HQ1
 rw [← hB]
 clear hB
 go_loopw [5, 8] (fun _ i wr => ∃ k : Nat, k ≤ xs.length ∧ i = .int .i64 k ∧ Below W.heap.size W wr ∧ ∀ j, (h : j < xs.length) → j < k → sameP xs[j] p = false) (fun _ i _ => xs.length - (intOf i).toNat)
 case atStart => exact ⟨0, Nat.zero_le _, rfl, Below.refl _ _, fun j _ h => absurd h (by omega)⟩
 case round =>
  obtain ⟨k, hk, rfl, hB, hall⟩ := hrel
  have HA := Go.Lib.hid hall
  have HB := Go.Lib.hid hB
  have p0 := cell_keep hB HQ0.out
  have p1 := cell_keep hB HQ1.out
  clear hall
  by_cases hlt : k < xs.length
  · obtain ⟨b, off, rfl, hb⟩ := H.out.at_ hlt
    obtain ⟨f1, f2, _⟩ := (H.out.below hB).pref hlt
    have r0 : (0 : Int) ≤ (k : Int) := Int.natCast_nonneg _
    have hki : (k : Int) < (xs.length : Int) := by omega
    obtain ⟨x, hx⟩ : ∃ x, x = xs[k] := ⟨_, rfl⟩
    rw [← hx] at f1 f2
    have q1 := eql_pref p.addr p.bits x.addr x.bits
    have q2 := fun a b => guard_pref .eql a b
    have HX := Go.Lib.hid hx
    clear hB hx
    have hcomm : sameP x p = (p.addr == x.addr && p.bits == x.bits) := sameP_comm x p
    rcases he : (p.addr == x.addr && p.bits == x.bits) with _ | _
    · rw [he] at q1 hcomm
      have HN := Go.Lib.hid hcomm
      clear he hcomm
      go_wp2_with fail
      go_quiet (fail)
      go_wp2_with fail
      go_roundw
      case rel =>
       refine ⟨k + 1, by omega, by go_num, bDrewN HB.out _, fun j hj hjk => ?_⟩
       by_cases e2 : j = k
       · subst e2; rw [← HX.out]; exact HN.out
       · exact HA.out j hj (by omega)
      case measure => simp [intOf]; omega
    · rw [he] at q1 hcomm
      have HY := Go.Lib.hid (idxP_hit hlt HA.out (by rw [← HX.out]; exact hcomm)).1
      clear he hcomm
      go_wp2_with fail
      go_quiet (fail)
      go_wp2_with fail
      go_ret
      exact ⟨ei (by rw [HR.out, HY.out]), HAL.out.trans ((bDrewN HB.out _).mono HAL.out.size)⟩
  · have hki : ¬ (k : Int) < (xs.length : Int) := by omega
    have HY := Go.Lib.hid (idxP_miss (xs := xs) (p := p) (fun j hj => HA.out j hj (by omega))).1
    clear hB
    go_wp2_with fail
    go_ret
    exact ⟨ei (by rw [HR.out, HY.out]), HAL.out.trans (HB.out.mono HAL.out.size)⟩
set_option maxHeartbeats 1000000 in
theorem conPref_any (v : Value) (xs : List Prefix) (p : Prefix) (w : World) (h : Sl prefR w v xs) :
  Calls Tryz.prog 137 #[v, .agg #[.int .i64 p.addr, .int .i64 p.bits]] w fun e w' => e = .returned (.bool (inP xs p)) ∧ Below w.heap.size w w' := by
 obtain ⟨A, c, rfl⟩ := h.form
 have hal := (Below.refl w.heap.size w).alloc (Nat.le_refl _) (.cells #[.int .i64 p.addr, .int .i64 p.bits] 32)
 have HI := Go.Lib.hid (idxPref_any _ xs p _ (h.below hal))
 have HAL := Go.Lib.hid hal
 have hb : decide (0 ≤ idxP xs p) = inP xs p := by
  rcases idxP_cases xs p with ⟨h1, h2, _⟩ | ⟨k, hk, h1, h2, _⟩
  · rw [h1, h2]; rfl
  · rw [h1, h2]; simp
 have HBB := Go.Lib.hid hb
 generalize idxP xs p = I at *
 clear h hal hb
 go_enter Tryz.func137, Tryz.ntmps137
 go_wp2_with fail
 refine HI.out.mono ?_
 rintro e w1 ⟨rfl, hb1⟩
 have HB1 := Go.Lib.hid (HAL.out.trans (hb1.mono HAL.out.size))
 clear hb1
 go_wp2_with fail
 go_ret
 exact ⟨eb HBB.out, HB1.out⟩
def patchL (xs set : List Route) (gone : List Prefix) : List Route := if chkRoutes (patchTo xs set gone) = 0 then patchTo xs set gone else []
theorem rest_to {a : List Route} {gone : List Prefix} {k : Nat} (h : k < a.length) : ((a.take (k + 1)).filter fun r => !inP gone r.pre) = ((a.take k).filter fun r => !inP gone r.pre) ++ (if inP gone a[k].pre = true then [] else [a[k]]) := by
 rw [List.take_succ_eq_append_getElem h, List.filter_append]
 congr 1
 cases hp : inP gone a[k].pre <;> simp [hp]
structure FineR (r : Route) : Prop where
 pre : prefBad r.pre = 0
 len : r.hops.length ≤ 12
 wf : r.wf
end Go.Proofs.YtbhbilenbbldnaaGreatDoor
