/-
  Clone of ways; ways held against ways.
-/
import Derived.Test.YtcbkimbeljhbhaaGreatDoorGDoS
import Derived.Test.YtcbkimbeljhbhaaGreatDoorGSame
import Derived.WalkSpells
import Derived.Lib.SliceRun
import Derived.Lib.QuietBelow
set_option linter.unusedVariables false
set_option linter.unusedSimpArgs false
namespace Go.Proofs.YtcbkimbeljhbhaaGreatDoor
open Go Go.RowKit Go.Deep

set_option maxHeartbeats 1000000 in
theorem cloneW_any (v : Value) (xs : List Way) (w : World) (h : Sl wayR w v xs) (hl : xs.length ≤ 1000000) :
    Calls Tryz.prog 38 #[v] w fun e w' => ∃ v', e = .returned v' ∧ OwR wayR 37 w.heap.size w' v' xs ∧ Below w.heap.size w w' := by
  have q1 := fun (wx : World) (a : Option Addr) (n c : Nat) => Lib.run_eql_slice_nil (P := Tryz.prog) wx 32 37 a n c 0 0 Tryz.underlying32
  obtain ⟨A, c, rfl⟩ := h.form
  have H := Go.Lib.hid h
  clear h
  rcases A with _ | ad
  · have hx : xs = [] := by
      rcases Nat.eq_zero_or_pos xs.length with h0 | h0
      · exact List.eq_nil_of_length_eq_zero h0
      · obtain ⟨_, _, h, _⟩ := H.out.at_ h0; cases h
    subst hx
    go_enter Tryz.func38, Tryz.ntmps38
    go_wp2_with fail
    go_ret
    exact ⟨_, rfl, OwR.nil _ _ (Nat.le_refl _), Below.refl _ _⟩
  · have hB0 : Below w.heap.size w (w.alloc (.cells #[] 37)) := (Below.refl _ _).alloc (Nat.le_refl _) _
    have hown : OwR wayR 37 w.heap.size (w.alloc (.cells #[] 37)) (.slice (some ⟨w.heap.size, 0, none⟩) 0 0) [] := ⟨[], rfl, fun i cs x h => by simp at h, World.ownsRow_made w #[] 0 (Nat.le_refl _) (Nat.zero_le _) (by simp), by simp⟩
    have H1 := Go.Lib.hid (SlR.keep (S' := fun k => k < w.heap.size) H.out (fun k hk => hB0.block k hk) (fun k hk => hk))
    have HB0 := Go.Lib.hid hB0
    have HO := Go.Lib.hid hown
    have HSS := Go.Lib.hid (fun (cs : List Value) (y : Way) (h : wayR.holds (w.alloc (.cells #[] 37)) (fun k => k < w.heap.size) cs y) => wayR.keep (S' := fun k => k < (w.alloc (.cells #[] 37)).heap.size ∧ (Value.slice (some ⟨w.heap.size, 0, none⟩) 0 0).ownBlock ≠ some k) h (fun _ _ => rfl) (fun k hk => ⟨Nat.lt_of_lt_of_le hk hB0.size, fun e => by have e2 : w.heap.size = k := Option.some.inj e; omega⟩))
    clear hB0 hown
    go_enter Tryz.func38, Tryz.ntmps38
    go_wp2_with (at_builtin; refine wpList_own_append (base := w.heap.size) rfl _ _ rfl elt_way HO.out H1.out rfl rfl HSS.out (by simp; unfold maxLen; omega) (by simp; omega) ?_; intro v1 w1 ho1 hg1 hb1)
    go_ret
    exact ⟨v1, rfl, ho1, HO.out.below_grown HB0.out hg1⟩

theorem sizes_of {xs : List Entry} (h : checkS xs = 0) : ∀ e ∈ xs, e.key.size < 4294967281 ∧ e.value.size < 4294967281 := by
  intro e he
  have h1 := (okS_of h).ok e he
  unfold entryOk keyOk at h1
  simp only [Bool.and_eq_true, decide_eq_true_eq] at h1
  omega
theorem gph_there (w : World) (B : Nat) (hB : B = w.heap.size) (T : TypeId) : (w.alloc (.cells Tryz.zeroCells74 T)).there B 0 168 := by
  intro j hj
  rw [Nat.zero_add]
  refine ⟨?_, World.frozen?_alloc_at _ _ _ _ hB⟩
  rw [World.cell?_alloc_at _ _ _ _ hB, ← Array.getElem?_toList, zero_gph]
  rw [List.getElem?_eq_getElem (by rw [zlen]; exact hj)]; rfl

set_option maxRecDepth 50000 in
set_option maxHeartbeats 2000000 in
/-- the graph of a good store, read and looked through -/
theorem gwaysTop_any (v : Value) (xs : List Entry) (f : Int) (w : World) (h : Sl entR w v xs) (hf : inR f) (hE : Env w) :
    Calls Tryz.prog 13 #[v, .int .i64 f] w (WaysPost (waysS xs f) w) := by
  have HC := Go.Lib.hid (check_any v xs w h)
  obtain ⟨A, c, rfl⟩ := h.form
  have H := Go.Lib.hid h
  have HE := Go.Lib.hid hE
  unfold inR at hf
  clear h hE
  by_cases hc : checkS xs = 0
  · have hc0 : (checkS xs != 0) = false := by simp [hc]
    by_cases h0 : f < 0
    · have HW := Go.Lib.hid (show waysS xs f = ([], 2) by
        unfold waysS; rw [if_neg (by simp [hc]), if_neg]; simp; omega)
      clear hc
      go_enter Tryz.func13, Tryz.ntmps13
      go_wp2_with (go_at_call 23; refine HC.out.mono ?_; rintro e w1 ⟨rfl, hb1⟩)
      go_ret2
      exact w_fin HW.out (Sl.nil _ _) hb1
    · by_cases h11 : 11 < f
      · have HW := Go.Lib.hid (show waysS xs f = ([], 2) by
          unfold waysS; rw [if_neg (by simp [hc]), if_neg]; simp; omega)
        have h12 : 12 ≤ f := by omega
        clear hc
        go_enter Tryz.func13, Tryz.ntmps13
        go_wp2_with (go_at_call 23; refine HC.out.mono ?_; rintro e w1 ⟨rfl, hb1⟩)
        go_ret2
        exact w_fin HW.out (Sl.nil _ _) hb1
      · obtain ⟨s, rfl, hs⟩ : ∃ s : Nat, f = s ∧ s < 12 := ⟨f.toNat, by omega, by omega⟩
        have HW := Go.Lib.hid (show waysS xs s = (waysTo xs s 12, 0) by
          unfold waysS; rw [if_neg (by simp [hc]), if_pos (by simp; omega)]; rfl)
        have HCK := Go.Lib.hid hc
        have h12 : ¬ (12 : Int) ≤ (s : Int) := by omega
        clear hc
        go_enter Tryz.func13, Tryz.ntmps13
        go_wp2_with (go_at_call 23; refine HC.out.mono ?_; rintro e w1 ⟨rfl, hb1⟩; have HB1 := Go.Lib.hid hb1; clear hb1)
        have HG1 := Go.Lib.hid (gread_any (.slice A xs.length c) xs w1.heap.size w1 (w1.alloc (.cells Tryz.zeroCells74 74)) (H.out.below HB1.out) (sizes_of HCK.out) (HE.out.below HB1.out) ((Below.refl _ _).alloc (Nat.le_refl _) _) (Nat.le_refl _) (gph_there w1 _ rfl _) (by simp) (fun o => World.frozen?_alloc_at _ _ _ _ rfl))
        refine HG1.out.mono ?_
        rintro e w2 ⟨rfl, hg2, hb2⟩
        have HG2 := Go.Lib.hid hg2
        have HB2 := Go.Lib.hid hb2
        have HLT := Go.Lib.hid hg2.lt
        obtain ⟨G, hG⟩ : ∃ G, G = w1.heap.size := ⟨_, rfl⟩
        rw [← hG] at HG2 HLT
        rw [← hG]
        clear hg2 hb2 HG1 hG
        obtain ⟨gl1, gl2⟩ := graphS_links HCK.out
        have HG3 := Go.Lib.hid (HG2.out.eq (g' := ⟨fun a b => (linkC xs a b : Nat), fun a => (adjAt xs a).1, (graphS xs).P⟩) (fun a b ha hb => (gl1 a b ha hb).symm) (fun a ha => (gl2 a ha).symm) (fun _ _ => rfl))
        have HGW := Go.Lib.hid (gways_any w2.heap.size G ⟨fun a b => (linkC xs a b : Nat), fun a => (adjAt xs a).1, (graphS xs).P⟩ (fun a b => linkC xs a b) s w2 ⟨HG3.out, HLT.out, rfl, fun _ _ _ _ => rfl, fun a b => linkC_le xs a b⟩ hs)
        clear gl1 gl2
        go_wp2_with fail
        refine HGW.out.mono ?_
        rintro e w3 ⟨v3, st, R, rfl, hs3, hb3, hi, hc, hh⟩
        have HS3 := Go.Lib.hid hs3
        have HB3 := Go.Lib.hid hb3
        have HEQ := Go.Lib.hid (show (List.range 12).map (outW st) = waysTo xs s 12 by
          refine List.map_congr_left (fun q hq => ?_)
          exact ways_agree hs (fun a b => rfl) (fun a => rfl) hi hc hh (List.mem_range.1 hq))
        clear hs3 hb3 hi hc hh HGW
        go_wp2_with (go_at_call 38; refine (cloneW_any v3 _ w3 HS3.out (by simp)).mono ?_; rintro e w4 ⟨v4, rfl, ho4, hb4⟩; have HO4 := Go.Lib.hid ho4; have HB4 := Go.Lib.hid hb4; clear ho4 hb4)
        go_ret2
        exact w_fin HW.out (by rw [← HEQ.out]; exact HO4.out.sl (by decide)) (((HB1.out.trans (HB2.out.mono HB1.out.size)).trans (HB3.out.mono (by have := HB1.out.size; have := HB2.out.size; omega))).trans (HB4.out.mono (by have := HB1.out.size; have := HB2.out.size; have := HB3.out.size; omega)))
  · have hc0 : (checkS xs != 0) = true := by simp [hc]
    have HW := Go.Lib.hid (show waysS xs f = ([], checkS xs) by unfold waysS; rw [if_pos hc])
    clear hc
    go_enter Tryz.func13, Tryz.ntmps13
    go_wp2_with (go_at_call 23; refine HC.out.mono ?_; rintro e w1 ⟨rfl, hb1⟩)
    go_ret2
    exact w_fin HW.out (Sl.nil _ _) hb1
end Go.Proofs.YtcbkimbeljhbhaaGreatDoor
