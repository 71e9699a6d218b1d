/-
  
-/
import Derived.Test.YtbhbilenbbldnaaGreatDoorGTaE
set_option linter.unusedVariables false
set_option linter.unusedSimpArgs false
namespace Go.Proofs.YtbhbilenbbldnaaGreatDoor
open Go
def putR : List Route → Route → List Route
 | [], r => [r]
 | x :: l, r => if prefOrd x.pre r.pre = true then x :: putR l r else if sameP x.pre r.pre = true then r :: l else r :: x :: l
def patchTo (x set : List Route) (gone : List Prefix) : List Route := set.foldl putR (x.filter fun r => !inP gone r.pre)
theorem mem_putR {l : List Route} {r y : Route} (h : y ∈ putR l r) : y = r ∨ y ∈ l := by
 induction l with
 | nil => simp [putR] at h; exact .inl h
 | cons x l ih =>
   unfold putR at h
   split at h
   · rcases List.mem_cons.1 h with e | e
     · exact .inr (by simp [e])
     · rcases ih e with e | e
       · exact .inl e
       · exact .inr (by simp [e])
   · split at h
     · rcases List.mem_cons.1 h with e | e
       · exact .inl e
       · exact .inr (by simp [e])
     · rcases List.mem_cons.1 h with e | e
       · exact .inl e
       · exact .inr e
theorem sorted_put {l : List Route} (h : SortedR l) (r : Route) : SortedR (putR l r) := by
 induction l with
 | nil => simp [putR, SortedR]
 | cons x l ih =>
   obtain ⟨h1, h2⟩ := List.pairwise_cons.1 h
   unfold putR
   split
   · rename_i hx
     refine List.pairwise_cons.2 ⟨fun y hy => ?_, ih h2⟩
     rcases mem_putR hy with e | e
     · rw [e]; exact hx
     · exact h1 y e
   · rename_i hx
     split
     · rename_i hs
       have e := (sameP_iff _ _).1 hs
       refine List.pairwise_cons.2 ⟨fun y hy => ?_, h2⟩
       rw [← e]; exact h1 y hy
     · rename_i hs
       have hrx := ord_total (by simpa using hx) (by simpa using hs)
       refine List.pairwise_cons.2 ⟨fun y hy => ?_, h⟩
       rcases List.mem_cons.1 hy with e | e
       · rw [e]; exact hrx
       · exact ord_trans hrx (h1 y e)
theorem find_put {l : List Route} (h : SortedR l) (r : Route) (p : Prefix) : atP (putR l r) p = if r.pre = p then some r else atP l p := by
 induction l with
 | nil => unfold putR; rw [atP_cons]
 | cons x l ih =>
   obtain ⟨h1, h2⟩ := List.pairwise_cons.1 h
   unfold putR
   split
   · rename_i hx
     rw [atP_cons, atP_cons, ih h2]
     by_cases e : x.pre = p
     · rw [if_pos e, if_pos e, if_neg (fun e2 => ord_neq hx (e.trans e2.symm))]
     · rw [if_neg e, if_neg e]
   · rename_i hx
     split
     · rename_i hs
       have e := (sameP_iff _ _).1 hs
       rw [atP_cons, atP_cons, e]
       by_cases e2 : r.pre = p
       · rw [if_pos e2, if_pos e2]
       · rw [if_neg e2, if_neg e2, if_neg e2]
     · rw [atP_cons r]
theorem fold_put : ∀ (set : List Route) (l : List Route), SortedR l → SortedR set → SortedR (set.foldl putR l) ∧ ∀ p, atP (set.foldl putR l) p = (atP set p).or (atP l p)
 | [], l, hl, _ => ⟨hl, fun p => rfl⟩
 | r :: set, l, hl, hs => by
   obtain ⟨h1, h2⟩ := List.pairwise_cons.1 hs
   obtain ⟨g1, g2⟩ := fold_put set (putR l r) (sorted_put hl r) h2
   refine ⟨g1, fun p => ?_⟩
   show atP (set.foldl putR (putR l r)) p = _
   rw [g2 p, find_put hl, atP_cons]
   by_cases e : r.pre = p
   · rw [if_pos e, if_pos e, atP_none_of (fun y hy e2 => ord_neq (h1 y hy) (e.trans e2.symm))]; rfl
   · rw [if_neg e, if_neg e]
theorem atP_filter {l : List Route} (h : SortedR l) (P : Route → Bool) (p : Prefix) : atP (l.filter P) p = (atP l p).filter P := by
 induction l with
 | nil => rfl
 | cons x l ih =>
   obtain ⟨h1, h2⟩ := List.pairwise_cons.1 h
   rw [List.filter_cons, atP_cons]
   by_cases e : x.pre = p
   · rw [if_pos e]
     by_cases hP : P x = true
     · rw [if_pos hP, atP_cons, if_pos e]; simp [Option.filter, hP]
     · rw [if_neg hP, atP_none_of (fun y hy e2 => ord_neq (h1 y (List.mem_filter.1 hy).1) (e.trans e2.symm))]; simp [Option.filter, hP]
   · rw [if_neg e]
     split
     · rw [atP_cons, if_neg e]; exact ih h2
     · exact ih h2
theorem sameR_eq {x r : Route} (h : sameR x r = true) : x = r := by
 unfold sameR at h
 simp only [Bool.and_eq_true, beq_iff_eq] at h
 obtain ⟨h1, h2, h3, h4⟩ := h
 have h5 := (sameP_iff _ _).1 h1
 cases x; cases r
 simp at h2 h3 h4 h5
 rw [h2, h3, h4, h5]
theorem sameR_refl (x : Route) : sameR x x = true := by unfold sameR; simp [sameP_refl]
theorem inTab_iff {a : List Route} (r : Route) : inTab a r = true ↔ r ∈ a := by
 unfold inTab
 rw [List.any_eq_true]
 constructor
 · rintro ⟨x, hx, h⟩; rw [← sameR_eq h]; exact hx
 · intro h; exact ⟨r, h, sameR_refl r⟩
theorem patch_diff {x y : List Route} (hx : SortedR x) (hy : SortedR y) : patchTo x (diffSet x y) (diffGone x y) = y := by
 unfold patchTo
 have hset : SortedR (diffSet x y) := hy.filter _
 obtain ⟨h1, h2⟩ := fold_put (diffSet x y) _ (hx.filter (fun r => !inP (diffGone x y) r.pre)) hset
 refine sorted_ext h1 hy (fun p => ?_)
 rw [h2 p]
 have hs : atP (diffSet x y) p = (atP y p).filter fun r => !inTab x r := atP_filter hy _ p
 rw [hs, atP_filter hx]
 cases hyp : atP y p with
 | some r =>
   obtain ⟨hr, hrp⟩ := atP_mem hyp
   by_cases hin : inTab x r = true
   · have hxr := (inTab_iff r).1 hin
     have hxp : atP x p = some r := by rw [← hrp]; exact mem_atP hx hxr
     have hng : inP (diffGone x y) r.pre = false := by
      rw [Bool.eq_false_iff]
      intro e
      rw [inP_iff] at e
      unfold diffGone at e
      obtain ⟨z, hz, hzp⟩ := List.mem_map.1 e
      have h3 := (List.mem_filter.1 hz).2
      have h4 : inPre y z = true := by unfold inPre; rw [List.any_eq_true]; exact ⟨r, hr, by rw [hzp]; exact sameP_refl _⟩
      rw [h4] at h3; cases h3
     rw [hxp]
     simp [Option.filter, hin, hng]
   · simp [Option.filter, hin]
 | none =>
   cases hxp : atP x p with
   | none => rfl
   | some r =>
     obtain ⟨hr, hrp⟩ := atP_mem hxp
     have hg : inP (diffGone x y) r.pre = true := by
      rw [inP_iff]
      unfold diffGone
      refine List.mem_map.2 ⟨r, List.mem_filter.2 ⟨hr, ?_⟩, rfl⟩
      have : inPre y r = false := by
       rw [Bool.eq_false_iff]
       intro e
       unfold inPre at e
       rw [List.any_eq_true] at e
       obtain ⟨z, hz, hzp⟩ := e
       have h3 := mem_atP hy hz
       rw [(sameP_iff _ _).1 hzp, hrp, hyp] at h3
       cases h3
      rw [this]; rfl
     simp [Option.filter, hg]
end Go.Proofs.YtbhbilenbbldnaaGreatDoor
