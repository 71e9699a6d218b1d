/-
  A table that is patched by a difference is the one that was wanted. Plain lemmas, no program in sight.
  A route put into a table in its order, by the place where it belongs; the first place of a prefix. Plain lemmas, no program in sight.
  rib.Patch, walked.
-/
import Derived.Test.YtcbkimbeljhbhaaGreatDoorGTaE
import Derived.Test.YtcbkimbeljhbhaaGreatDoorGTbC
import Derived.Test.YtcbkimbeljhbhaaGreatDoorGTbE
import Derived.Test.YtcbkimbeljhbhaaGreatDoorGRibS
import Derived.Test.YtcbkimbeljhbhaaGreatDoorGSame
set_option linter.unusedVariables false
set_option linter.unusedSimpArgs false
namespace Go.Proofs.YtcbkimbeljhbhaaGreatDoor
open Go

def putR : List Route → Route → List Route
  | [], r => [r]
  | x :: l, r => if prefOrd x.pre r.pre = true then x :: putR l r else if sameP x.pre r.pre = true then r :: l else r :: x :: l
def patchTo (x set : List Route) (gone : List Prefix) : List Route := set.foldl putR (x.filter fun r => !inP gone r.pre)
theorem mem_putR {l : List Route} {r y : Route} (h : y ∈ putR l r) : y = r ∨ y ∈ l := by
  induction l with
  | nil => simp [putR] at h; exact .inl h
  | cons x l ih =>
    unfold putR at h
    split at h
    · rcases List.mem_cons.1 h with e | e
      · exact .inr (by simp [e])
      · rcases ih e with e | e
        · exact .inl e
        · exact .inr (by simp [e])
    · split at h
      · rcases List.mem_cons.1 h with e | e
        · exact .inl e
        · exact .inr (by simp [e])
      · rcases List.mem_cons.1 h with e | e
        · exact .inl e
        · exact .inr e
theorem sorted_put {l : List Route} (h : SortedR l) (r : Route) : SortedR (putR l r) := by
  induction l with
  | nil => simp [putR, SortedR]
  | cons x l ih =>
    obtain ⟨h1, h2⟩ := List.pairwise_cons.1 h
    unfold putR
    split
    · rename_i hx
      refine List.pairwise_cons.2 ⟨fun y hy => ?_, ih h2⟩
      rcases mem_putR hy with e | e
      · rw [e]; exact hx
      · exact h1 y e
    · rename_i hx
      split
      · rename_i hs
        have e := (sameP_iff _ _).1 hs
        refine List.pairwise_cons.2 ⟨fun y hy => ?_, h2⟩
        rw [← e]; exact h1 y hy
      · rename_i hs
        have hrx := ord_total (by simpa using hx) (by simpa using hs)
        refine List.pairwise_cons.2 ⟨fun y hy => ?_, h⟩
        rcases List.mem_cons.1 hy with e | e
        · rw [e]; exact hrx
        · exact ord_trans hrx (h1 y e)
theorem find_put {l : List Route} (h : SortedR l) (r : Route) (p : Prefix) : atP (putR l r) p = if r.pre = p then some r else atP l p := by
  induction l with
  | nil => unfold putR; rw [atP_cons]
  | cons x l ih =>
    obtain ⟨h1, h2⟩ := List.pairwise_cons.1 h
    unfold putR
    split
    · rename_i hx
      rw [atP_cons, atP_cons, ih h2]
      by_cases e : x.pre = p
      · rw [if_pos e, if_pos e, if_neg (fun e2 => ord_neq hx (e.trans e2.symm))]
      · rw [if_neg e, if_neg e]
    · rename_i hx
      split
      · rename_i hs
        have e := (sameP_iff _ _).1 hs
        rw [atP_cons, atP_cons, e]
        by_cases e2 : r.pre = p
        · rw [if_pos e2, if_pos e2]
        · rw [if_neg e2, if_neg e2, if_neg e2]
      · rw [atP_cons r]
theorem fold_put : ∀ (set : List Route) (l : List Route), SortedR l → SortedR set → SortedR (set.foldl putR l) ∧ ∀ p, atP (set.foldl putR l) p = (atP set p).or (atP l p)
  | [], l, hl, _ => ⟨hl, fun p => rfl⟩
  | r :: set, l, hl, hs => by
    obtain ⟨h1, h2⟩ := List.pairwise_cons.1 hs
    obtain ⟨g1, g2⟩ := fold_put set (putR l r) (sorted_put hl r) h2
    refine ⟨g1, fun p => ?_⟩
    show atP (set.foldl putR (putR l r)) p = _
    rw [g2 p, find_put hl, atP_cons]
    by_cases e : r.pre = p
    · rw [if_pos e, if_pos e, atP_none_of (fun y hy e2 => ord_neq (h1 y hy) (e.trans e2.symm))]; rfl
    · rw [if_neg e, if_neg e]
theorem atP_filter {l : List Route} (h : SortedR l) (P : Route → Bool) (p : Prefix) : atP (l.filter P) p = (atP l p).filter P := by
  induction l with
  | nil => rfl
  | cons x l ih =>
    obtain ⟨h1, h2⟩ := List.pairwise_cons.1 h
    rw [List.filter_cons, atP_cons]
    by_cases e : x.pre = p
    · rw [if_pos e]
      by_cases hP : P x = true
      · rw [if_pos hP, atP_cons, if_pos e]; simp [Option.filter, hP]
      · rw [if_neg hP, atP_none_of (fun y hy e2 => ord_neq (h1 y (List.mem_filter.1 hy).1) (e.trans e2.symm))]; simp [Option.filter, hP]
    · rw [if_neg e]
      split
      · rw [atP_cons, if_neg e]; exact ih h2
      · exact ih h2
theorem sameR_eq {x r : Route} (h : sameR x r = true) : x = r := by
  unfold sameR at h
  simp only [Bool.and_eq_true, beq_iff_eq] at h
  obtain ⟨h1, h2, h3, h4⟩ := h
  have h5 := (sameP_iff _ _).1 h1
  cases x; cases r
  simp at h2 h3 h4 h5
  rw [h2, h3, h4, h5]
theorem sameR_refl (x : Route) : sameR x x = true := by unfold sameR; simp [sameP_refl]
theorem inTab_iff {a : List Route} (r : Route) : inTab a r = true ↔ r ∈ a := by
  unfold inTab
  rw [List.any_eq_true]
  constructor
  · rintro ⟨x, hx, h⟩; rw [← sameR_eq h]; exact hx
  · intro h; exact ⟨r, h, sameR_refl r⟩
/-- A TABLE THAT IS PATCHED BY A DIFFERENCE IS THE ONE THAT WAS WANTED -/
theorem patch_diff {x y : List Route} (hx : SortedR x) (hy : SortedR y) : patchTo x (diffSet x y) (diffGone x y) = y := by
  unfold patchTo
  have hset : SortedR (diffSet x y) := hy.filter _
  obtain ⟨h1, h2⟩ := fold_put (diffSet x y) _ (hx.filter (fun r => !inP (diffGone x y) r.pre)) hset
  refine sorted_ext h1 hy (fun p => ?_)
  rw [h2 p]
  have hs : atP (diffSet x y) p = (atP y p).filter fun r => !inTab x r := atP_filter hy _ p
  rw [hs, atP_filter hx]
  cases hyp : atP y p with
  | some r =>
    obtain ⟨hr, hrp⟩ := atP_mem hyp
    by_cases hin : inTab x r = true
    · have hxr := (inTab_iff r).1 hin
      have hxp : atP x p = some r := by rw [← hrp]; exact mem_atP hx hxr
      have hng : inP (diffGone x y) r.pre = false := by
        rw [Bool.eq_false_iff]
        intro e
        rw [inP_iff] at e
        unfold diffGone at e
        obtain ⟨z, hz, hzp⟩ := List.mem_map.1 e
        have h3 := (List.mem_filter.1 hz).2
        have h4 : inPre y z = true := by unfold inPre; rw [List.any_eq_true]; exact ⟨r, hr, by rw [hzp]; exact sameP_refl _⟩
        rw [h4] at h3; cases h3
      rw [hxp]
      simp [Option.filter, hin, hng]
    · simp [Option.filter, hin]
  | none =>
    cases hxp : atP x p with
    | none => rfl
    | some r =>
      obtain ⟨hr, hrp⟩ := atP_mem hxp
      have hg : inP (diffGone x y) r.pre = true := by
        rw [inP_iff]
        unfold diffGone
        refine List.mem_map.2 ⟨r, List.mem_filter.2 ⟨hr, ?_⟩, rfl⟩
        have : inPre y r = false := by
          rw [Bool.eq_false_iff]
          intro e
          unfold inPre at e
          rw [List.any_eq_true] at e
          obtain ⟨z, hz, hzp⟩ := e
          have h3 := mem_atP hy hz
          rw [(sameP_iff _ _).1 hzp, hrp, hyp] at h3
          cases h3
        rw [this]; rfl
      simp [Option.filter, hg]
end Go.Proofs.YtcbkimbeljhbhaaGreatDoor

namespace Go.Proofs.YtcbkimbeljhbhaaGreatDoor
open Go

theorem putR_no : ∀ {l : List Route} {r : Route}, SortedR l → hasP l r.pre = false → putR l r = l.take (lbP l r.pre) ++ r :: l.drop (lbP l r.pre)
  | [], r, _, _ => rfl
  | x :: l, r, hs, hp => by
    obtain ⟨h1, h2⟩ := List.pairwise_cons.1 hs
    have hpx : sameP x.pre r.pre = false ∧ hasP l r.pre = false := by unfold hasP at hp ⊢; simpa using hp
    unfold putR lbP
    rw [List.takeWhile_cons]
    by_cases ho : prefOrd x.pre r.pre = true
    · rw [if_pos ho, ho]
      simp only [if_true, List.length_cons, List.take_succ_cons, List.drop_succ_cons, List.cons_append]
      rw [putR_no h2 hpx.2]; rfl
    · have ho' : prefOrd x.pre r.pre = false := by simpa using ho
      rw [if_neg ho, if_neg (by rw [hpx.1]; simp), ho']
      rfl
theorem putR_yes : ∀ {l : List Route} {r : Route}, SortedR l → hasP l r.pre = true → lbP l r.pre < l.length ∧ putR l r = l.set (lbP l r.pre) r
  | [], r, _, hp => by unfold hasP at hp; simp at hp
  | x :: l, r, hs, hp => by
    obtain ⟨h1, h2⟩ := List.pairwise_cons.1 hs
    by_cases ho : prefOrd x.pre r.pre = true
    · have hne := ord_ne ho
      have hp2 : hasP l r.pre = true := by unfold hasP at hp ⊢; rw [List.any_cons, hne, Bool.false_or] at hp; exact hp
      obtain ⟨hl, ha⟩ := putR_yes h2 hp2
      have hlb : lbP (x :: l) r.pre = lbP l r.pre + 1 := by unfold lbP; rw [List.takeWhile_cons, ho]; rfl
      refine ⟨by rw [hlb]; simpa using hl, ?_⟩
      unfold putR
      rw [if_pos ho, ha]
      simp only [hlb, List.set_cons_succ]
    · have ho' : prefOrd x.pre r.pre = false := by simpa using ho
      have hsm : sameP x.pre r.pre = true := by
        unfold hasP at hp
        rw [List.any_cons] at hp
        cases hx : sameP x.pre r.pre with
        | true => rfl
        | false =>
          rw [hx, Bool.false_or, List.any_eq_true] at hp
          obtain ⟨y, hy, hys⟩ := hp
          have h3 := h1 y hy
          rw [(sameP_iff _ _).1 hys] at h3
          rw [ho'] at h3; cases h3
      have hlb : lbP (x :: l) r.pre = 0 := by unfold lbP; rw [List.takeWhile_cons, ho']; rfl
      refine ⟨by rw [hlb]; simp, ?_⟩
      unfold putR
      rw [if_neg ho, if_pos hsm]
      simp only [hlb, List.set_cons_zero]
theorem putR_len : ∀ (l : List Route) (r : Route), (putR l r).length ≤ l.length + 1
  | [], r => by simp [putR]
  | x :: l, r => by
    have := putR_len l r
    unfold putR
    split
    · simp; omega
    · split <;> simp
theorem foldl_take {α β : Type} (f : β → α → β) (b : β) (l : List α) {k : Nat} (h : k < l.length) : (l.take (k + 1)).foldl f b = f ((l.take k).foldl f b) l[k] := by
  rw [List.take_succ_eq_append_getElem h, List.foldl_append]; rfl
/-- all that is put stays in form -/
theorem fold_putR {P : Route → Prop} : ∀ (set l : List Route), SortedR l → (∀ x ∈ l, P x) → (∀ x ∈ set, P x) → SortedR (set.foldl putR l) ∧ (∀ x ∈ set.foldl putR l, P x) ∧ (set.foldl putR l).length ≤ l.length + set.length
  | [], l, h1, h2, _ => ⟨h1, h2, Nat.le_refl _⟩
  | r :: set, l, h1, h2, h3 => by
    have hr := h3 r (by simp)
    obtain ⟨g1, g2, g3⟩ := fold_putR set (putR l r) (sorted_put h1 r) (fun x hx => by
      rcases mem_putR hx with e | e
      · rw [e]; exact hr
      · exact h2 x e) (fun x hx => h3 x (by simp [hx]))
    have := putR_len l r
    exact ⟨g1, g2, by rw [List.length_cons, List.foldl_cons]; omega⟩

def idxP (xs : List Prefix) (p : Prefix) : Int := match xs.findIdx? fun x => sameP x p with | some i => (i : Int) | none => -1
theorem idxP_hit {xs : List Prefix} {p : Prefix} {k : Nat} (hk : k < xs.length) (h : ∀ j, (hj : j < xs.length) → j < k → sameP xs[j] p = false) (he : sameP xs[k] p = true) : idxP xs p = k ∧ inP xs p = true := by
  have : (xs.findIdx? fun x => sameP x p) = some k := by
    rw [List.findIdx?_eq_some_iff_getElem]
    exact ⟨hk, he, fun j hj => by have := h j (by omega) hj; simp [this]⟩
  unfold idxP
  rw [this]
  exact ⟨rfl, by unfold inP; rw [List.any_eq_true]; exact ⟨xs[k], List.getElem_mem hk, he⟩⟩
theorem idxP_miss {xs : List Prefix} {p : Prefix} (h : ∀ j, (hj : j < xs.length) → sameP xs[j] p = false) : idxP xs p = -1 ∧ inP xs p = false := by
  have : (xs.findIdx? fun x => sameP x p) = none := by
    rw [List.findIdx?_eq_none_iff]
    intro x hx
    obtain ⟨i, hi, rfl⟩ := List.getElem_of_mem hx
    exact h i hi
  unfold idxP
  rw [this]
  refine ⟨rfl, ?_⟩
  unfold inP
  rw [List.any_eq_false]
  intro x hx
  obtain ⟨i, hi, rfl⟩ := List.getElem_of_mem hx
  rw [h i hi]; simp
theorem idxP_cases (xs : List Prefix) (p : Prefix) : (idxP xs p = -1 ∧ inP xs p = false ∧ ∀ j, (hj : j < xs.length) → sameP xs[j] p = false) ∨
    ∃ k, ∃ hk : k < xs.length, idxP xs p = k ∧ inP xs p = true ∧ xs[k] = p := by
  unfold idxP
  rcases hf : xs.findIdx? fun x => sameP x p with _ | k
  · left
    have h : ∀ j, (hj : j < xs.length) → sameP xs[j] p = false := fun j hj => by
      rw [List.findIdx?_eq_none_iff] at hf
      exact hf _ (List.getElem_mem hj)
    exact ⟨rfl, (idxP_miss h).2, h⟩
  · right
    rw [List.findIdx?_eq_some_iff_getElem] at hf
    obtain ⟨hk, he, hl⟩ := hf
    exact ⟨k, hk, rfl, (idxP_hit hk (fun j hj hjk => by have := hl j hjk; simpa using this) he).2, (sameP_iff _ _).1 he⟩
end Go.Proofs.YtcbkimbeljhbhaaGreatDoor

namespace Go.Proofs.YtcbkimbeljhbhaaGreatDoor
open Go Go.RowKit Go.Deep

set_option maxRecDepth 50000 in
set_option maxHeartbeats 1000000 in
theorem idxPref_any (v : Value) (xs : List Prefix) (p : Prefix) (w : World) (h : Sl prefR w v xs) :
    Calls Tryz.prog 87 #[v, .agg #[.int .i64 p.addr, .int .i64 p.bits]] w fun e w' => e = .returned (.int .i64 (idxP xs p)) ∧ Below w.heap.size w w' := by
  have hl := h.len_le
  obtain ⟨A, c, rfl⟩ := h.form
  have hal := (Below.refl w.heap.size w).alloc (Nat.le_refl _) (.cells #[.int .i64 p.addr, .int .i64 p.bits] 62)
  have H := Go.Lib.hid (h.below hal)
  have HAL := Go.Lib.hid hal
  obtain ⟨R, hR⟩ : ∃ R, R = idxP xs p := ⟨_, rfl⟩
  rw [← hR]
  have HR := Go.Lib.hid hR
  clear hR
  have HQ0 := Go.Lib.hid (show (w.alloc (.cells #[.int .i64 p.addr, .int .i64 p.bits] 62)).cell? ⟨w.heap.size, 0, none⟩ = some (.int .i64 p.addr) by rw [World.cell?_alloc_at _ _ _ _ rfl]; rfl)
  have HQ1 := Go.Lib.hid (show (w.alloc (.cells #[.int .i64 p.addr, .int .i64 p.bits] 62)).cell? ⟨w.heap.size, 1, none⟩ = some (.int .i64 p.bits) by rw [World.cell?_alloc_at _ _ _ _ rfl]; rfl)
  obtain ⟨W, hW⟩ : ∃ W, W = w.alloc (.cells #[.int .i64 p.addr, .int .i64 p.bits] 62) := ⟨_, rfl⟩
  rw [← hW] at H HAL HQ0 HQ1
  clear h hal
  go_enter Tryz.func87, Tryz.ntmps87
  go_wp2_with fail
  rw [← hW]
  clear hW
  obtain ⟨B, hB⟩ : ∃ B, B = w.heap.size := ⟨_, rfl⟩
  rw [← hB] at HQ0 HQ1
  rw [← hB]
  clear hB
  go_loopw [5, 8] (fun _ i wr => ∃ k : Nat, k ≤ xs.length ∧ i = .int .i64 k ∧ Below W.heap.size W wr ∧ ∀ j, (h : j < xs.length) → j < k → sameP xs[j] p = false) (fun _ i _ => xs.length - (intOf i).toNat)
  case atStart => exact ⟨0, Nat.zero_le _, rfl, Below.refl _ _, fun j _ h => absurd h (by omega)⟩
  case round =>
    obtain ⟨k, hk, rfl, hB, hall⟩ := hrel
    have HA := Go.Lib.hid hall
    have HB := Go.Lib.hid hB
    have p0 := cell_keep hB HQ0.out
    have p1 := cell_keep hB HQ1.out
    clear hall
    by_cases hlt : k < xs.length
    · obtain ⟨b, off, rfl, hb⟩ := H.out.at_ hlt
      obtain ⟨f1, f2, _⟩ := (H.out.below hB).pref hlt
      have r0 : (0 : Int) ≤ (k : Int) := Int.natCast_nonneg _
      have hki : (k : Int) < (xs.length : Int) := by omega
      obtain ⟨x, hx⟩ : ∃ x, x = xs[k] := ⟨_, rfl⟩
      rw [← hx] at f1 f2
      have q1 := eql_pref p.addr p.bits x.addr x.bits
      have q2 := fun a b => guard_pref .eql a b
      have HX := Go.Lib.hid hx
      clear hB hx
      have hcomm : sameP x p = (p.addr == x.addr && p.bits == x.bits) := sameP_comm x p
      rcases he : (p.addr == x.addr && p.bits == x.bits) with _ | _
      · rw [he] at q1 hcomm
        have HN := Go.Lib.hid hcomm
        clear he hcomm
        go_wp2_with fail
        go_quiet (fail)
        go_wp2_with fail
        go_roundw
        case rel =>
          refine ⟨k + 1, by omega, by go_num, bDrewN HB.out _, fun j hj hjk => ?_⟩
          by_cases e2 : j = k
          · subst e2; rw [← HX.out]; exact HN.out
          · exact HA.out j hj (by omega)
        case measure => simp [intOf]; omega
      · rw [he] at q1 hcomm
        have HY := Go.Lib.hid (idxP_hit hlt HA.out (by rw [← HX.out]; exact hcomm)).1
        clear he hcomm
        go_wp2_with fail
        go_quiet (fail)
        go_wp2_with fail
        go_ret
        exact ⟨ei (by rw [HR.out, HY.out]), HAL.out.trans ((bDrewN HB.out _).mono HAL.out.size)⟩
    · have hki : ¬ (k : Int) < (xs.length : Int) := by omega
      have HY := Go.Lib.hid (idxP_miss (xs := xs) (p := p) (fun j hj => HA.out j hj (by omega))).1
      clear hB
      go_wp2_with fail
      go_ret
      exact ⟨ei (by rw [HR.out, HY.out]), HAL.out.trans (HB.out.mono HAL.out.size)⟩
set_option maxHeartbeats 1000000 in
theorem conPref_any (v : Value) (xs : List Prefix) (p : Prefix) (w : World) (h : Sl prefR w v xs) :
    Calls Tryz.prog 55 #[v, .agg #[.int .i64 p.addr, .int .i64 p.bits]] w fun e w' => e = .returned (.bool (inP xs p)) ∧ Below w.heap.size w w' := by
  obtain ⟨A, c, rfl⟩ := h.form
  have hal := (Below.refl w.heap.size w).alloc (Nat.le_refl _) (.cells #[.int .i64 p.addr, .int .i64 p.bits] 62)
  have HI := Go.Lib.hid (idxPref_any _ xs p _ (h.below hal))
  have HAL := Go.Lib.hid hal
  have hb : decide (0 ≤ idxP xs p) = inP xs p := by
    rcases idxP_cases xs p with ⟨h1, h2, _⟩ | ⟨k, hk, h1, h2, _⟩
    · rw [h1, h2]; rfl
    · rw [h1, h2]; simp
  have HBB := Go.Lib.hid hb
  generalize idxP xs p = I at *
  clear h hal hb
  go_enter Tryz.func55, Tryz.ntmps55
  go_wp2_with fail
  refine HI.out.mono ?_
  rintro e w1 ⟨rfl, hb1⟩
  have HB1 := Go.Lib.hid (HAL.out.trans (hb1.mono HAL.out.size))
  clear hb1
  go_wp2_with fail
  go_ret
  exact ⟨eb HBB.out, HB1.out⟩

def patchL (xs set : List Route) (gone : List Prefix) : List Route := if chkRoutes (patchTo xs set gone) = 0 then patchTo xs set gone else []
def PatPost (xs set : List Route) (gone : List Prefix) (w : World) (e : Ending) (w' : World) : Prop :=
  ∃ v, e = .returned (.tuple #[v, .int .i64 (chkRoutes (patchTo xs set gone))]) ∧ Sl routeR w' v (patchL xs set gone) ∧ Below w.heap.size w w'
theorem rest_to {a : List Route} {gone : List Prefix} {k : Nat} (h : k < a.length) : ((a.take (k + 1)).filter fun r => !inP gone r.pre) = ((a.take k).filter fun r => !inP gone r.pre) ++ (if inP gone a[k].pre = true then [] else [a[k]]) := by
  rw [List.take_succ_eq_append_getElem h, List.filter_append]
  congr 1
  cases hp : inP gone a[k].pre <;> simp [hp]

theorem below_growR {B : Nat} {a w w' : World} {v v' : Value} {E : TypeId} {xs : List Route} (h : Below B a w) (ho : OwR routeR E B w v xs) (hg : GrowTo w v w' v') : Below B a w' :=
  h.grown hg.grown ho.choose_spec.2.2.2 (fun k hk => (ho.base_le k hk).1)
structure FineR (r : Route) : Prop where
  pre : prefBad r.pre = 0
  len : r.hops.length ≤ 12
  wf : r.wf

set_option maxRecDepth 100000 in
set_option maxHeartbeats 4000000 in
theorem patch_any (v1 v2 v3 : Value) (xs set : List Route) (gone : List Prefix) (w : World) (h1 : Sl routeR w v1 xs) (h2 : Sl routeR w v2 set) (h3 : Sl prefR w v3 gone) (hc : chkRoutes xs = 0) (hset : ∀ r ∈ set, FineR r) (hsl : set.length ≤ 400) :
    Calls Tryz.prog 22 #[v1, v2, v3] w (PatPost xs set gone w) := by
  have hlen := h2.len_le
  have hlen1 := h1.len_le
  have hxl := (routes_ok hc).1
  have hxf : ∀ r ∈ xs, FineR r := fun r hr => by
    obtain ⟨i, hi, rfl⟩ := List.getElem_of_mem hr
    obtain ⟨b1, b2⟩ := routeBad_iff ((routes_ok hc).2 i hi)
    obtain ⟨A, c, hv⟩ := h1.form
    obtain ⟨_, _, hA, _⟩ := (hv ▸ h1).at_ hi
    subst hv; subst hA
    obtain ⟨_, _, _, _, _, _, _, hw⟩ := h1.route hi
    exact ⟨b1, b2, hw⟩
  have hxo : SortedR xs := List.pairwise_iff_getElem.2 fun i j hi hj hij => routes_ord hc hij hj
  obtain ⟨A1, c1, rfl⟩ := h1.form
  obtain ⟨A2, c2, rfl⟩ := h2.form
  obtain ⟨A3, c3, rfl⟩ := h3.form
  have H1 := Go.Lib.hid h1
  have H2 := Go.Lib.hid h2
  have H3 := Go.Lib.hid h3
  have HXF := Go.Lib.hid hxf
  have HXO := Go.Lib.hid hxo
  have HSF := Go.Lib.hid hset
  have HCK := Go.Lib.hid hc
  have HP := Go.Lib.hid (fun k => fold_putR (P := FineR) (set.take k) (xs.filter fun r => !inP gone r.pre) (hxo.sublist List.filter_sublist) (fun x hx => hxf x (List.mem_filter.1 hx).1) (fun x hx => hset x (List.mem_of_mem_take hx)))
  clear h1 h2 h3 hxf hxo hset hc
  go_enter Tryz.func22, Tryz.ntmps22
  go_wp2_with fail
  refine (ribCheck_any _ xs _ H1.out).mono ?_
  rintro r w1 ⟨rfl, hb1⟩
  have HB1 := Go.Lib.hid hb1
  have hz1 := hb1.size
  rw [HCK.out]
  clear hb1
  go_wp2_with fail
  go_loopw [9, 11, 24] (fun s9 _ s24 wr => ∃ k : Nat, k ≤ xs.length ∧ s24 = .int .i64 k ∧ OwR routeR 64 w.heap.size wr s9 ((xs.take k).filter fun r => !inP gone r.pre) ∧ Below w.heap.size w wr) (fun _ _ s24 _ => xs.length - (intOf s24).toNat)
  case atStart => exact ⟨0, Nat.zero_le _, rfl, OwR.nil _ _ HB1.out.size, HB1.out⟩
  case round =>
    obtain ⟨k, hk, rfl, hown, hB⟩ := hrel
    have HO := Go.Lib.hid hown
    have HB := Go.Lib.hid hB
    have hez := hB.size
    by_cases hlt : k < xs.length
    · obtain ⟨b, off, rfl, hb⟩ := H1.out.at_ hlt
      obtain ⟨vh, f1, f2, f3, f4, f5, hs, hrw⟩ := (H1.out.below hB).route hlt
      have hst := rest_to (gone := gone) hlt
      have hhl := (HXF.out _ (List.getElem_mem hlt)).len
      obtain ⟨y, hy⟩ : ∃ y, xs[k] = y := ⟨_, rfl⟩
      rw [hy] at f1 f2 f3 f4 hs hrw hst hhl
      have HRW := Go.Lib.hid hrw
      have HSET := Go.Lib.hid hst
      have hba : Below wr.heap.size wr (wr.alloc (.cells #[.int .i64 y.pre.addr, .int .i64 y.pre.bits, .bool y.here, .int .i64 y.cost, vh] 64)) := (Below.refl _ _).alloc (Nat.le_refl _) _
      have HCON := Go.Lib.hid (conPref_any (.slice A3 gone.length c3) gone y.pre _ ((H3.out.below hB).below hba))
      have HS := Go.Lib.hid (hs.below hba)
      obtain ⟨Ah, ch, hvh⟩ := hs.form
      subst hvh
      have HHL := Go.Lib.hid hhl
      have r0 : (0 : Int) ≤ (k : Int) := Int.natCast_nonneg _
      have r1 : (k : Int) < (xs.length : Int) := by omega
      clear hown hB hy hrw hst hba hs hhl
      go_wp2_with fail
      refine HCON.out.mono ?_
      rintro e w3 ⟨rfl, hb3⟩
      obtain ⟨hA, hN, hM, hS⟩ := pastAlloc hb3
      have HB3 := Go.Lib.hid (HB.out.trans (hA.mono hez))
      have HO3 := Go.Lib.hid (HO.out.keep hA)
      have HS3 := Go.Lib.hid (HS.out.below hb3)
      clear hb3 hA f1 f2 f3 f4 f5
      rcases hin : inP gone y.pre with _ | _
      · have HIN := Go.Lib.hid hin
        obtain ⟨hh, hhe⟩ : ∃ l, y.hops = l := ⟨_, rfl⟩
        have HCP := Go.Lib.hid (copied_any y _ w3 HS3.out (by have := HHL.out; omega))
        rw [hhe] at HCP hN ⊢
        clear hin hhe
        go_wp2_with fail
        refine HCP.out.mono ?_
        rintro e w4 ⟨v4, rfl, ho4, hb4⟩
        have HO4 := Go.Lib.hid (HO3.out.keep hb4)
        have HB4 := Go.Lib.hid (HB3.out.trans (hb4.mono HB3.out.size))
        have HH4 := Go.Lib.hid ho4.slC
        have HKS := Go.Lib.hid (show ∀ k, (k < w4.heap.size ∧ w3.heap.size ≤ k) → k < w4.heap.size ∧ u9.ownBlock ≠ some k from fun k hk => ⟨hk.1, fun e => by have := (HO3.out.base_le _ e).2; omega⟩)
        have HFL := Go.Lib.hid (show ((xs.take k).filter fun r => !inP gone r.pre).length ≤ 1000000 by have := filt_len (fun r => !inP gone r.pre) xs k; omega)
        clear ho4 hb4 hN hM
        go_wp2_with (at_builtin; refine wpList_route (w := w4) (base := w.heap.size) (r := y) rfl (.tmp 33) (.tmp 36) rfl HO4.out HH4.out HRW.out HKS.out rfl rfl (by first | rfl | simp) HFL.out ?_; intro v5 w5 ho5 hg5)
        go_roundw
        case rel =>
          refine ⟨k + 1, by omega, by go_num, ?_, (HB4.out.alloc HB4.out.size _).grown hg5.grown (by simp; have := HB4.out.size; omega) (fun q e => (HO4.out.base_le q e).1)⟩
          rw [HSET.out, if_neg (by rw [HIN.out]; simp)]
          exact ho5
        case measure => simp [intOf]; omega
      · have HIN := Go.Lib.hid hin
        clear hin
        go_wp2_with fail
        go_roundw
        case rel =>
          refine ⟨k + 1, by omega, by go_num, ?_, HB3.out⟩
          rw [HSET.out, if_pos HIN.out, List.append_nil]
          exact HO3.out
        case measure => simp [intOf]; omega
    · obtain rfl : k = xs.length := by omega
      rw [List.take_length] at hown
      obtain ⟨L, hL⟩ : ∃ L, L = xs.filter fun r => !inP gone r.pre := ⟨_, rfl⟩
      rw [← hL] at hown HP
      have HLL := Go.Lib.hid (show L.length ≤ 200 by rw [hL]; exact Nat.le_trans (List.length_filter_le _ _) hxl)
      have HL := Go.Lib.hid (show patchTo xs set gone = set.foldl putR L by rw [hL]; rfl)
      have HO1 := Go.Lib.hid hown
      clear hown hB hL HO
      go_wp2_with fail
      go_loopw [9, 13, 14, 15, 41] (fun s9 _ _ _ s41 wq => ∃ k : Nat, k ≤ set.length ∧ s41 = .int .i64 k ∧ OwR routeR 64 w.heap.size wq s9 ((set.take k).foldl putR L) ∧ Below w.heap.size w wq) (fun _ _ _ _ s41 _ => set.length - (intOf s41).toNat)
      case atStart => exact ⟨0, Nat.zero_le _, rfl, HO1.out, HB.out⟩
      case round =>
        obtain ⟨k, hk, rfl, hown, hBq⟩ := hrel
        have HO := Go.Lib.hid hown
        have HBQ := Go.Lib.hid hBq
        have hezq := hBq.size
        obtain ⟨A9, n9, c9, rfl⟩ := ow_form hown (by decide)
        obtain ⟨p1, p2, p3⟩ := HP.out k
        have hpl : ((set.take k).foldl putR L).length ≤ 600 := by have := HLL.out; rw [List.length_take] at p3; omega
        by_cases hlt : k < set.length
        · have hsuc := foldl_take putR L set hlt
          obtain ⟨M, hM⟩ : ∃ M, M = (set.take k).foldl putR L := ⟨_, rfl⟩
          rw [← hM] at HO hown p1 p2 hpl hsuc
          clear hM p3
          obtain ⟨b, off, rfl, hb⟩ := H2.out.at_ hlt
          obtain ⟨vh, f1, f2, f3, f4, f5, hs, hrw⟩ := (H2.out.below hBq).route hlt
          have hfy := HSF.out _ (List.getElem_mem hlt)
          obtain ⟨y, hy⟩ : ∃ y, set[k] = y := ⟨_, rfl⟩
          rw [hy] at f1 f2 f3 f4 hs hrw hfy hsuc
          have HRW := Go.Lib.hid hrw
          have HSUC := Go.Lib.hid hsuc
          have HFY := Go.Lib.hid hfy
          have hba : Below wr.heap.size wr (wr.alloc (.cells #[.int .i64 y.pre.addr, .int .i64 y.pre.bits, .bool y.here, .int .i64 y.cost, vh] 64)) := (Below.refl _ _).alloc (Nat.le_refl _) _
          have HBS := Go.Lib.hid (bsearchRP_any (.slice A9 n9 c9) M y.pre _ ((hown.keep hba).sl (by decide)) p1 (fun x hx => (p2 x hx).pre) hfy.pre (by omega))
          have HS := Go.Lib.hid (hs.below hba)
          have HML := Go.Lib.hid hpl
          have HMS := Go.Lib.hid p1
          obtain ⟨Ah, ch, hvh⟩ := hs.form
          subst hvh
          have r0 : (0 : Int) ≤ (k : Int) := Int.natCast_nonneg _
          have r1 : (k : Int) < (set.length : Int) := by omega
          clear hown hBq hy hrw hsuc hba hs hfy p1 p2 hpl
          go_wp2_with fail
          refine HBS.out.mono ?_
          rintro e w3 ⟨rfl, hb3⟩
          obtain ⟨hA, hN, hM, hS⟩ := pastAlloc hb3
          have HB3 := Go.Lib.hid (HBQ.out.trans (hA.mono hezq))
          have HO3 := Go.Lib.hid (HO.out.keep hA)
          have HS3 := Go.Lib.hid (HS.out.below hb3)
          have HCP := Go.Lib.hid (copied_any y _ w3 HS3.out (by have := HFY.out.len; omega))
          obtain ⟨hh, hhe⟩ : ∃ l, y.hops = l := ⟨_, rfl⟩
          have HHE := Go.Lib.hid hhe
          rw [hhe] at HCP hN ⊢
          clear hb3 hA f1 f2 f3 f4 f5 hhe
          rcases hin : hasP M y.pre with _ | _
          · have HAD := Go.Lib.hid (putR_no HMS.out hin)
            have hlb := tw_le (fun x : Route => prefOrd x.pre y.pre) M
            clear hin
            go_wp2_with fail
            refine HCP.out.mono ?_
            rintro e w4 ⟨v4, rfl, ho4, hb4⟩
            obtain ⟨A4, n4, c4, rfl⟩ := ow_form ho4 (by decide)
            have HO4 := Go.Lib.hid (HO3.out.keep hb4)
            have HB4 := Go.Lib.hid (HB3.out.trans (hb4.mono HB3.out.size))
            have hal := (Below.refl w4.heap.size w4).alloc (Nat.le_refl _) (.cells #[.int .i64 y.pre.addr, .int .i64 y.pre.bits, .bool y.here, .int .i64 y.cost, .slice A4 n4 c4] 64)
            have hh4 := SlR.keep (w' := w4.alloc (.cells #[.int .i64 y.pre.addr, .int .i64 y.pre.bits, .bool y.here, .int .i64 y.cost, .slice A4 n4 c4] 64)) (S' := fun q => q < (w4.alloc (.cells #[.int .i64 y.pre.addr, .int .i64 y.pre.bits, .bool y.here, .int .i64 y.cost, .slice A4 n4 c4] 64)).heap.size ∧ (Value.slice A9 n9 c9).ownBlock ≠ some q) ho4.slC (fun q hq => Below.heap_alloc _ _ _ hq.1) (fun q hq => ⟨by simp; omega, fun e => by have h5 := (HO3.out.base_le _ e).2; have h6 : w3.heap.size ≤ q := hq.2; omega⟩)
            have HIN := Go.Lib.hid (insertRoute_any (.slice A9 n9 c9) M y (.slice A4 n4 c4) (lbP M y.pre) _ w4.heap.size w.heap.size (HO4.out.keep hal) hlb (by have := HML.out; omega) (heap_alloc_new w4 _) (fun e => by have := (HO4.out.base_le _ e).2; omega) hh4 HRW.out)
            have HBA := Go.Lib.hid (HB4.out.trans (hal.mono HB4.out.size))
            have HOA := Go.Lib.hid (HO4.out.keep hal)
            clear ho4 hb4 hN hM hal hh4 hlb
            go_wp2_with fail
            refine HIN.out.mono ?_
            rintro e w5 ⟨v5, rfl, ho5, hg5⟩
            have HO5 := Go.Lib.hid ho5
            have HB5 := Go.Lib.hid (below_growR HBA.out HOA.out hg5)
            clear ho5 hg5
            go_wp2_with fail
            go_roundw
            case rel => exact ⟨k + 1, by omega, by go_num, by rw [HSUC.out, HAD.out]; exact HO5.out, HB5.out⟩
            case measure => simp [intOf]; omega
          · obtain ⟨hil, hadd⟩ := putR_yes HMS.out hin
            have HAD := Go.Lib.hid hadd
            obtain ⟨i, hi⟩ : ∃ i, i = lbP M y.pre := ⟨_, rfl⟩
            rw [← hi] at hil HAD ⊢
            clear hin hadd hi
            go_wp2_with fail
            refine HCP.out.mono ?_
            rintro e w4 ⟨v4, rfl, ho4, hb4⟩
            obtain ⟨A4, n4, c4, rfl⟩ := ow_form ho4 (by decide)
            have HO4 := Go.Lib.hid (HO3.out.keep hb4)
            have HB4 := Go.Lib.hid (HB3.out.trans (hb4.mono HB3.out.size))
            have hh4 := ho4.slC
            have hn9 : n9 = M.length := by obtain ⟨A, c, e⟩ := HO4.out.form; injection e
            subst hn9
            obtain ⟨g, hgA, hgo, hgw, hfz⟩ : ∃ g, A9 = some ⟨g, 0, none⟩ ∧ w.heap.size ≤ g ∧ g < w3.heap.size ∧ (∀ j, w4.frozen? ⟨g, j, none⟩ = false) := by
              obtain ⟨css, d1, _, d3, _⟩ := HO4.out
              rcases d3.2 with ⟨_, h0⟩ | ⟨g, cap, cur, e, hbg, hgc, _⟩
              · omega
              · injection e with e1 _ _
                subst e1
                exact ⟨g, rfl, hbg, (HO3.out.base_le g rfl).2, fun j => d3.frozenAt j⟩
            subst hgA
            obtain ⟨vx, g1, g2, g3, g4, g5, _⟩ := (HO4.out.sl (by decide)).route hil
            simp only [Nat.zero_add] at g1 g2 g3 g4 g5
            have HRT := Go.Lib.hid (OwR.setRoute (w := w4) (y := y) (vy := .slice A4 n4 c4) HO4.out hil (SlR.keep (S' := fun q => q < w4.heap.size ∧ q ≠ g) hh4 (fun _ _ => rfl) (fun q hq => ⟨hq.1, fun e => by have h6 : w3.heap.size ≤ q := hq.2; omega⟩)) HRW.out)
            have HG5 := Go.Lib.hid (below_growR HB4.out HO4.out (grow5 w4 (v := .slice (some ⟨g, 0, none⟩) M.length c9) rfl (i * 5) (i * 5 + 1) (i * 5 + 2) (i * 5 + 3) (i * 5 + 4) (.int .i64 y.pre.addr) (.int .i64 y.pre.bits) (.bool y.here) (.int .i64 y.cost) (.slice A4 n4 c4)))
            have hii : (i : Int) < (M.length : Int) := by omega
            have hi0 : (0 : Int) ≤ (i : Int) := Int.natCast_nonneg i
            clear ho4 hb4 hN hM hh4
            go_wp2_with fail
            go_roundw
            case rel => exact ⟨k + 1, by omega, by go_num, by rw [HSUC.out, HAD.out]; exact HRT.out, HG5.out⟩
            case measure => simp [intOf]; omega
        · obtain rfl : k = set.length := by omega
          rw [List.take_length, ← HL.out] at hown
          have HS9 := Go.Lib.hid (hown.sl (by decide))
          have HCH := Go.Lib.hid (ribCheck_any (.slice A9 n9 c9) (patchTo xs set gone) wr HS9.out)
          obtain ⟨M, hM⟩ : ∃ M, M = patchTo xs set gone := ⟨_, rfl⟩
          have HM := Go.Lib.hid hM
          rw [← hM] at HS9 HCH
          clear hown hBq p1 p2 p3 hpl hM HO HP
          go_wp2_with fail
          refine HCH.out.mono ?_
          rintro e w5 ⟨rfl, hb5⟩
          have HB5 := Go.Lib.hid (HBQ.out.trans (hb5.mono hezq))
          have HS5 := Go.Lib.hid (HS9.out.below hb5)
          clear hb5
          by_cases hck : chkRoutes M = 0
          · have hckb : (chkRoutes M != 0) = false := by rw [hck]; rfl
            have HK := Go.Lib.hid hck
            clear hck
            go_wp2_with fail
            go_ret2
            exact ⟨.slice A9 n9 c9, by rw [← HM.out, HK.out]; rfl, by unfold patchL; rw [← HM.out, if_pos HK.out]; exact HS5.out, HB5.out⟩
          · have hckb : (chkRoutes M != 0) = true := by simpa using hck
            have HK := Go.Lib.hid hck
            clear hck
            go_wp2_with fail
            go_ret2
            exact ⟨.slice none 0 0, by rw [← HM.out]; rfl, by unfold patchL; rw [← HM.out, if_neg HK.out]; exact Sl.nil _ _, HB5.out⟩
end Go.Proofs.YtcbkimbeljhbhaaGreatDoor
