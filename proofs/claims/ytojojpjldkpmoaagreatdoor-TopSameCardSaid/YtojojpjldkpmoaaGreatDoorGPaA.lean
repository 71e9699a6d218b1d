/-
  
-/
import Derived.Test.YtojojpjldkpmoaaGreatDoorGTaE
import Derived.Test.YtojojpjldkpmoaaGreatDoorGTbC
import Derived.Test.YtojojpjldkpmoaaGreatDoorGTbE
import Derived.Test.YtojojpjldkpmoaaGreatDoorGRibS
import Derived.Test.YtojojpjldkpmoaaGreatDoorGRibQ
set_option linter.unusedVariables false
set_option linter.unusedSimpArgs false
set_option maxHeartbeats 16000000
namespace Go.Proofs.YtojojpjldkpmoaaGreatDoor
section
open Go
def putR : List Route -> Route -> List Route
 | [], r => [r]
 | x :: l, r => if prefOrd x.pre r.pre = true then x :: putR l r else if sameP x.pre r.pre = true then r :: l else r :: x :: l
def patchTo (x set : List Route) (gone : List Prefix) : List Route := set.foldl putR (x.filter fun r => !inP gone r.pre)
theorem mem_putR {l : List Route} {r y : Route} (h : y ∈ putR l r) : y = r ∨ y ∈ l := by
 induction l with
 | nil => simp [putR] at h; exact .inl h
 | cons x l ih =>
   unfold putR at h
   split at h
   · rcases zaB.1 h with e | e
     · exact .inr (by simp [e])
     · rcases ih e with e | e
       · exact .inl e
       · exact .inr (by simp [e])
   · split at h
     · rcases zaB.1 h with e | e
       · exact .inl e
       · exact .inr (by simp [e])
     · rcases zaB.1 h with e | e
       · exact .inl e
       · exact .inr e
theorem sorted_put {l : List Route} (h : SortedR l) (r : Route) : SortedR (putR l r) := by
 induction l with
 | nil => simp [putR, SortedR]
 | cons x l ih =>
   obtain ⟨h1, h2⟩ := zaA.1 h
   unfold putR
   split
   · rename_i hx
     refine zaA.2 ⟨fun y hy => ?_, ih h2⟩
     rcases mem_putR hy with e | e
     · rw [e]; exact hx
     · exact h1 y e
   · rename_i hx
     split
     · rename_i hs
       have e := (sameP_iff _ _).1 hs
       refine zaA.2 ⟨fun y hy => ?_, h2⟩
       rw [<- e]; exact h1 y hy
     · rename_i hs
       have hrx := ord_total (by simpa using hx) (by simpa using hs)
       refine zaA.2 ⟨fun y hy => ?_, h⟩
       rcases zaB.1 hy with e | e
       · rw [e]; exact hrx
       · exact ord_trans hrx (h1 y e)
theorem find_put {l : List Route} (h : SortedR l) (r : Route) (p : Prefix) : atP (putR l r) p = if r.pre = p then some r else atP l p := by
 induction l with
 | nil => unfold putR; rw [atP_cons]
 | cons x l ih =>
   obtain ⟨h1, h2⟩ := zaA.1 h
   unfold putR
   split
   · rename_i hx
     rw [atP_cons, atP_cons, ih h2]
     by_cases e : x.pre = p
     · rw [if_pos e, if_pos e, if_neg (fun e2 => ord_neq hx (e.trans e2.symm))]
     · rw [if_neg e, if_neg e]
   · rename_i hx
     split
     · rename_i hs
       have e := (sameP_iff _ _).1 hs
       rw [atP_cons, atP_cons, e]
       by_cases e2 : r.pre = p
       · rw [if_pos e2, if_pos e2]
       · rw [if_neg e2, if_neg e2, if_neg e2]
     · rw [atP_cons r]
theorem fold_put : ∀ (set : List Route) (l : List Route), SortedR l -> SortedR set -> SortedR (set.foldl putR l) /\ ∀ p, atP (set.foldl putR l) p = (atP set p).or (atP l p)
 | [], l, hl, _ => ⟨hl, fun p => rfl⟩
 | r :: set, l, hl, hs => by
   obtain ⟨h1, h2⟩ := zaA.1 hs
   obtain ⟨g1, g2⟩ := fold_put set (putR l r) (sorted_put hl r) h2
   refine ⟨g1, fun p => ?_⟩
   show atP (set.foldl putR (putR l r)) p = _
   rw [g2 p, find_put hl, atP_cons]
   by_cases e : r.pre = p
   · rw [if_pos e, if_pos e, atP_none_of (fun y hy e2 => ord_neq (h1 y hy) (e.trans e2.symm))]; rfl
   · rw [if_neg e, if_neg e]
theorem atP_filter {l : List Route} (h : SortedR l) (P : Route -> Bool) (p : Prefix) : atP (l.filter P) p = (atP l p).filter P := by
 induction l with
 | nil => rfl
 | cons x l ih =>
   obtain ⟨h1, h2⟩ := zaA.1 h
   rw [List.filter_cons, atP_cons]
   by_cases e : x.pre = p
   · rw [if_pos e]
     by_cases hP : P x = true
     · rw [if_pos hP, atP_cons, if_pos e]; simp [Option.filter, hP]
     · rw [if_neg hP, atP_none_of (fun y hy e2 => ord_neq (h1 y (zaY.1 hy).1) (e.trans e2.symm))]; simp [Option.filter, hP]
   · rw [if_neg e]
     split
     · rw [atP_cons, if_neg e]; exact ih h2
     · exact ih h2
theorem sameR_eq {x r : Route} (h : sameR x r = true) : x = r := by
 unfold sameR at h
 simp only [Bool.and_eq_true, beq_iff_eq] at h
 obtain ⟨h1, h2, h3, h4⟩ := h
 have h5 := (sameP_iff _ _).1 h1
 cases x; cases r
 simp at h2 h3 h4 h5
 rw [h2, h3, h4, h5]
theorem sameR_refl (x : Route) : sameR x x = true := by unfold sameR; simp [sameP_refl]
theorem inTab_iff {a : List Route} (r : Route) : inTab a r = true ↔ r ∈ a := by
 unfold inTab
 rw [zbo]
 constructor
 · rintro ⟨x, hx, h⟩; rw [<- sameR_eq h]; exact hx
 · intro h; exact ⟨r, h, sameR_refl r⟩
theorem patch_diff {x y : List Route} (hx : SortedR x) (hy : SortedR y) : patchTo x (diffSet x y) (diffGone x y) = y := by
 unfold patchTo
 have hset : SortedR (diffSet x y) := hy.filter _
 obtain ⟨h1, h2⟩ := fold_put (diffSet x y) _ (hx.filter (fun r => !inP (diffGone x y) r.pre)) hset
 refine sorted_ext h1 hy (fun p => ?_)
 rw [h2 p]
 have hs : atP (diffSet x y) p = (atP y p).filter fun r => !inTab x r := atP_filter hy _ p
 rw [hs, atP_filter hx]
 cases hyp : atP y p with
 | some r =>
   obtain ⟨hr, hrp⟩ := atP_mem hyp
   by_cases hin : inTab x r = true
   · have hxr := (inTab_iff r).1 hin
     have hxp : atP x p = some r := by rw [<- hrp]; exact mem_atP hx hxr
     have hng : inP (diffGone x y) r.pre = false := by
      rw [Bool.eq_false_iff]
      intro e
      rw [inP_iff] at e
      unfold diffGone at e
      obtain ⟨z, hz, hzp⟩ := zbm.1 e
      have h3 := (zaY.1 hz).2
      have h4 : inPre y z = true := by unfold inPre; rw [zbo]; exact ⟨r, hr, by rw [hzp]; exact sameP_refl _⟩
      rw [h4] at h3; cases h3
     rw [hxp]
     simp [Option.filter, hin, hng]
   · simp [Option.filter, hin]
 | none =>
   cases hxp : atP x p with
   | none => rfl
   | some r =>
     obtain ⟨hr, hrp⟩ := atP_mem hxp
     have hg : inP (diffGone x y) r.pre = true := by
      rw [inP_iff]
      unfold diffGone
      refine zbm.2 ⟨r, zaY.2 ⟨hr, ?_⟩, rfl⟩
      have : inPre y r = false := by
       rw [Bool.eq_false_iff]
       intro e
       unfold inPre at e
       rw [zbo] at e
       obtain ⟨z, hz, hzp⟩ := e
       have h3 := mem_atP hy hz
       rw [(sameP_iff _ _).1 hzp, hrp, hyp] at h3
       cases h3
      rw [this]; rfl
     simp [Option.filter, hg]
theorem putR_no : ∀ {l : List Route} {r : Route}, SortedR l -> hasP l r.pre = false -> putR l r = l.take (lbP l r.pre) ++ r :: l.drop (lbP l r.pre)
 | [], r, _, _ => rfl
 | x :: l, r, hs, hp => by
   obtain ⟨h1, h2⟩ := zaA.1 hs
   have hpx : sameP x.pre r.pre = false /\ hasP l r.pre = false := by unfold hasP at hp ⊢; simpa using hp
   unfold putR lbP
   rw [zbe]
   by_cases ho : prefOrd x.pre r.pre = true
   · rw [if_pos ho, ho]
     simp only [if_true, zaw, zbd, zby, zbW]
     rw [putR_no h2 hpx.2]; rfl
   · have ho' : prefOrd x.pre r.pre = false := by simpa using ho
     rw [if_neg ho, if_neg (by rw [hpx.1]; simp), ho']
     rfl
theorem putR_yes : ∀ {l : List Route} {r : Route}, SortedR l -> hasP l r.pre = true -> lbP l r.pre < l.length /\ putR l r = l.set (lbP l r.pre) r
 | [], r, _, hp => by unfold hasP at hp; simp at hp
 | x :: l, r, hs, hp => by
   obtain ⟨h1, h2⟩ := zaA.1 hs
   by_cases ho : prefOrd x.pre r.pre = true
   · have hne := ord_ne ho
     have hp2 : hasP l r.pre = true := by unfold hasP at hp ⊢; rw [List.any_cons, hne, Bool.false_or] at hp; exact hp
     obtain ⟨hl, ha⟩ := putR_yes h2 hp2
     have hlb : lbP (x :: l) r.pre = lbP l r.pre + 1 := by unfold lbP; rw [zbe, ho]; rfl
     refine ⟨by rw [hlb]; simpa using hl, ?_⟩
     unfold putR
     rw [if_pos ho, ha]
     simp only [hlb, zbH]
   · have ho' : prefOrd x.pre r.pre = false := by simpa using ho
     have hsm : sameP x.pre r.pre = true := by
      unfold hasP at hp
      rw [List.any_cons] at hp
      cases hx : sameP x.pre r.pre with
      | true => rfl
      | false =>
        rw [hx, Bool.false_or, zbo] at hp
        obtain ⟨y, hy, hys⟩ := hp
        have h3 := h1 y hy
        rw [(sameP_iff _ _).1 hys] at h3
        rw [ho'] at h3; cases h3
     have hlb : lbP (x :: l) r.pre = 0 := by unfold lbP; rw [zbe, ho']; rfl
     refine ⟨by rw [hlb]; simp, ?_⟩
     unfold putR
     rw [if_neg ho, if_pos hsm]
     simp only [hlb, List.set_cons_zero]
theorem putR_len : ∀ (l : List Route) (r : Route), (putR l r).length <= l.length + 1
 | [], r => by simp [putR]
 | x :: l, r => by
   have := putR_len l r
   unfold putR
   split
   · simp; omega
   · split <;> simp
theorem foldl_take {α β : Type} (f : β -> α -> β) (b : β) (l : List α) {k : Nat} (h : k < l.length) : (l.take (k + 1)).foldl f b = f ((l.take k).foldl f b) l[k] := by
 rw [zar h, zcc]; rfl
theorem fold_putR {P : Route -> Prop} : ∀ (set l : List Route), SortedR l -> (∀ x ∈ l, P x) -> (∀ x ∈ set, P x) -> SortedR (set.foldl putR l) /\ (∀ x ∈ set.foldl putR l, P x) /\ (set.foldl putR l).length <= l.length + set.length
 | [], l, h1, h2, _ => ⟨h1, h2, zab _⟩
 | r :: set, l, h1, h2, h3 => by
   have hr := h3 r (by simp)
   obtain ⟨g1, g2, g3⟩ := fold_putR set (putR l r) (sorted_put h1 r) (fun x hx => by
    rcases mem_putR hx with e | e
    · rw [e]; exact hr
    · exact h2 x e) (fun x hx => h3 x (by simp [hx]))
   have := putR_len l r
   exact ⟨g1, g2, by rw [zaw, List.foldl_cons]; omega⟩
def idxP (xs : List Prefix) (p : Prefix) : Int := match xs.findIdx? fun x => sameP x p with | some i => (i : Int) | none => -1
theorem idxP_hit {xs : List Prefix} {p : Prefix} {k : Nat} (hk : k < xs.length) (h : ∀ j, (hj : j < xs.length) -> j < k -> sameP xs[j] p = false) (he : sameP xs[k] p = true) : idxP xs p = k /\ inP xs p = true := by
 have : (xs.findIdx? fun x => sameP x p) = some k := by
  rw [List.findIdx?_eq_some_iff_getElem]
  exact ⟨hk, he, fun j hj => by have := h j (by omega) hj; simp [this]⟩
 unfold idxP
 rw [this]
 exact ⟨rfl, by unfold inP; rw [zbo]; exact ⟨xs[k], zas hk, he⟩⟩
theorem idxP_miss {xs : List Prefix} {p : Prefix} (h : ∀ j, (hj : j < xs.length) -> sameP xs[j] p = false) : idxP xs p = -1 /\ inP xs p = false := by
 have : (xs.findIdx? fun x => sameP x p) = none := by
  rw [List.findIdx?_eq_none_iff]
  intro x hx
  obtain ⟨i, hi, rfl⟩ := zaj hx
  exact h i hi
 unfold idxP
 rw [this]
 refine ⟨rfl, ?_⟩
 unfold inP
 rw [List.any_eq_false]
 intro x hx
 obtain ⟨i, hi, rfl⟩ := zaj hx
 rw [h i hi]; simp
theorem idxP_cases (xs : List Prefix) (p : Prefix) : (idxP xs p = -1 /\ inP xs p = false /\ ∀ j, (hj : j < xs.length) -> sameP xs[j] p = false) ∨
  ∃ k, ∃ hk : k < xs.length, idxP xs p = k /\ inP xs p = true /\ xs[k] = p := by
 unfold idxP
 rcases hf : xs.findIdx? fun x => sameP x p with _ | k
 · left
   have h : ∀ j, (hj : j < xs.length) -> sameP xs[j] p = false := fun j hj => by
    rw [List.findIdx?_eq_none_iff] at hf
    exact hf _ (zas hj)
   exact ⟨rfl, (idxP_miss h).2, h⟩
 · right
   rw [List.findIdx?_eq_some_iff_getElem] at hf
   obtain ⟨hk, he, hl⟩ := hf
   exact ⟨k, hk, rfl, (idxP_hit hk (fun j hj hjk => by have := hl j hjk; simpa using this) he).2, (sameP_iff _ _).1 he⟩
end
section
open Go Go.RowKit Go.Deep
set_option maxRecDepth 50000 in
theorem idxPref_any (v : Value) (xs : List Prefix) (p : Prefix) (w : World) (h : Sl prefR w v xs) :
  Calls Tryz.prog 54 #[v, .agg #[.int .i64 p.addr, .int .i64 p.bits]] w fun e w' => e = .returned (.int .i64 (idxP xs p)) /\ Below w.heap.size w w' := by
 have hl := h.len_le
 obtain ⟨A, c, rfl⟩ := h.form
 have hal := (zad w.heap.size w).alloc (zab _) (.cells #[.int .i64 p.addr, .int .i64 p.bits] 32)
 have H := zaa (h.below hal)
 have HAL := zaa hal
 obtain ⟨R, hR⟩ : ∃ R, R = idxP xs p := ⟨_, rfl⟩
 rw [<- hR]
 have HR := zaa hR
 clear hR
 have HQ0 := zaa (show (w.alloc (.cells #[.int .i64 p.addr, .int .i64 p.bits] 32)).cell? ⟨w.heap.size, 0, none⟩ = some (.int .i64 p.addr) by rw [zae _ _ _ _ rfl]; rfl)
 have HQ1 := zaa (show (w.alloc (.cells #[.int .i64 p.addr, .int .i64 p.bits] 32)).cell? ⟨w.heap.size, 1, none⟩ = some (.int .i64 p.bits) by rw [zae _ _ _ _ rfl]; rfl)
 obtain ⟨W, hW⟩ : ∃ W, W = w.alloc (.cells #[.int .i64 p.addr, .int .i64 p.bits] 32) := ⟨_, rfl⟩
 rw [<- hW] at H HAL HQ0 HQ1
 clear h hal
 go_enter Tryz.func54, Tryz.ntmps54
 go_wp2_with fail
 rw [<- hW]
 clear hW
 obtain ⟨B, hB⟩ : ∃ B, B = w.heap.size := ⟨_, rfl⟩
 rw [<- hB] at HQ0 HQ1
 rw [<- hB]
 clear hB
 go_loopw [5, 8] (fun _ i wr => ∃ k : Nat, k <= xs.length /\ i = .int .i64 k /\ Below W.heap.size W wr /\ ∀ j, (h : j < xs.length) -> j < k -> sameP xs[j] p = false) (fun _ i _ => xs.length - (intOf i).toNat)
 case atStart => exact ⟨0, zak _, rfl, zad _ _, fun j _ h => absurd h (by omega)⟩
 case round =>
  obtain ⟨k, hk, rfl, hB, hall⟩ := hrel
  have HA := zaa hall
  have HB := zaa hB
  have p0 := cell_keep hB HQ0.out
  have p1 := cell_keep hB HQ1.out
  clear hall
  by_cases hlt : k < xs.length
  · obtain ⟨b, off, rfl, hb⟩ := H.out.at_ hlt
    obtain ⟨f1, f2, _⟩ := (H.out.below hB).pref hlt
    have r0 : (0 : Int) <= (k : Int) := zaf _
    have hki : (k : Int) < (xs.length : Int) := by omega
    obtain ⟨x, hx⟩ : ∃ x, x = xs[k] := ⟨_, rfl⟩
    rw [<- hx] at f1 f2
    have q1 := eql_pref p.addr p.bits x.addr x.bits
    have q2 := fun a b => guard_pref .eql a b
    have HX := zaa hx
    clear hB hx
    have hcomm : sameP x p = (p.addr == x.addr && p.bits == x.bits) := sameP_comm x p
    rcases he : (p.addr == x.addr && p.bits == x.bits) with _ | _
    · rw [he] at q1 hcomm
      have HN := zaa hcomm
      clear he hcomm
      go_wp2_with fail
      go_quiet (fail)
      go_wp2_with fail
      go_roundw
      case rel =>
       refine ⟨k + 1, by omega, by go_num, bDrewN HB.out _, fun j hj hjk => ?_⟩
       by_cases e2 : j = k
       · subst e2; rw [<- HX.out]; exact HN.out
       · exact HA.out j hj (by omega)
      case measure => simp [intOf]; omega
    · rw [he] at q1 hcomm
      have HY := zaa (idxP_hit hlt HA.out (by rw [<- HX.out]; exact hcomm)).1
      clear he hcomm
      go_wp2_with fail
      go_quiet (fail)
      go_wp2_with fail
      go_ret
      exact ⟨ei (by rw [HR.out, HY.out]), HAL.out.trans ((bDrewN HB.out _).mono HAL.out.size)⟩
  · have hki : ¬ (k : Int) < (xs.length : Int) := by omega
    have HY := zaa (idxP_miss (xs := xs) (p := p) (fun j hj => HA.out j hj (by omega))).1
    clear hB
    go_wp2_with fail
    go_ret
    exact ⟨ei (by rw [HR.out, HY.out]), HAL.out.trans (HB.out.mono HAL.out.size)⟩
theorem conPref_any (v : Value) (xs : List Prefix) (p : Prefix) (w : World) (h : Sl prefR w v xs) :
  Calls Tryz.prog 119 #[v, .agg #[.int .i64 p.addr, .int .i64 p.bits]] w fun e w' => e = .returned (.bool (inP xs p)) /\ Below w.heap.size w w' := by
 obtain ⟨A, c, rfl⟩ := h.form
 have hal := (zad w.heap.size w).alloc (zab _) (.cells #[.int .i64 p.addr, .int .i64 p.bits] 32)
 have HI := zaa (idxPref_any _ xs p _ (h.below hal))
 have HAL := zaa hal
 have hb : decide (0 <= idxP xs p) = inP xs p := by
  rcases idxP_cases xs p with ⟨h1, h2, _⟩ | ⟨k, hk, h1, h2, _⟩
  · rw [h1, h2]; rfl
  · rw [h1, h2]; simp
 have HBB := zaa hb
 generalize idxP xs p = I at *
 clear h hal hb
 go_enter Tryz.func119, Tryz.ntmps119
 go_wp2_with fail
 refine HI.out.mono ?_
 rintro e w1 ⟨rfl, hb1⟩
 have HB1 := zaa (HAL.out.trans (hb1.mono HAL.out.size))
 clear hb1
 go_wp2_with fail
 go_ret
 exact ⟨eb HBB.out, HB1.out⟩
def patchL (xs set : List Route) (gone : List Prefix) : List Route := if chkRoutes (patchTo xs set gone) = 0 then patchTo xs set gone else []
theorem rest_to {a : List Route} {gone : List Prefix} {k : Nat} (h : k < a.length) : ((a.take (k + 1)).filter fun r => !inP gone r.pre) = ((a.take k).filter fun r => !inP gone r.pre) ++ (if inP gone a[k].pre = true then [] else [a[k]]) := by
 rw [zar h, zbC]
 congr 1
 cases hp : inP gone a[k].pre <;> simp [hp]
structure FineR (r : Route) : Prop where
 pre : prefBad r.pre = 0
 len : r.hops.length <= 12
 wf : r.wf
end
end Go.Proofs.YtojojpjldkpmoaaGreatDoor
