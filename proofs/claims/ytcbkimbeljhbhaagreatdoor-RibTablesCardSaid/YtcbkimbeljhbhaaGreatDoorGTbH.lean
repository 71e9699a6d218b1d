/-
  The document's TableOf, walked.
-/
import Derived.Test.YtcbkimbeljhbhaaGreatDoorGTbF
import Derived.Test.YtcbkimbeljhbhaaGreatDoorGTbG
import Derived.Deep.RegionHeld3
set_option linter.unusedVariables false
set_option linter.unusedSimpArgs false
namespace Go.Proofs.YtcbkimbeljhbhaaGreatDoor
open Go Go.RowKit Go.Deep

/-- a box of a prefix -/
structure PBox (w : World) (P : Nat) (a b : Int) : Prop where
  c0 : w.cell? ⟨P, 0, none⟩ = some (.int .i64 a)
  c1 : w.cell? ⟨P, 1, none⟩ = some (.int .i64 b)
  lt : P < w.heap.size
theorem PBox.keep {w w' : World} {P : Nat} {a b : Int} (h : PBox w P a b) (hk : w'.heap[P]? = w.heap[P]?) : PBox w' P a b :=
  ⟨(World.cell?_of_block (w := w) hk).trans h.c0, (World.cell?_of_block (w := w) hk).trans h.c1, lt_of_same h.lt hk⟩
theorem PBox.below {w w' : World} {P : Nat} {a b : Int} (h : PBox w P a b) (hb : Below w.heap.size w w') : PBox w' P a b := h.keep (hb.block P h.lt)
theorem pbox_new (w : World) (a b : Int) : PBox (w.alloc (.cells #[.int .i64 a, .int .i64 b] 62)) w.heap.size a b :=
  ⟨by rw [World.cell?_alloc_at _ _ _ _ rfl]; rfl, by rw [World.cell?_alloc_at _ _ _ _ rfl]; rfl, by simp⟩
/-- a box of a route that is being made -/
structure RBox (w : World) (B : Nat) (a b c : Int) (v : Value) : Prop where
  c0 : w.cell? ⟨B, 0, none⟩ = some (.int .i64 a)
  c1 : w.cell? ⟨B, 1, none⟩ = some (.int .i64 b)
  c2 : w.cell? ⟨B, 2, none⟩ = some (.bool false)
  c3 : w.cell? ⟨B, 3, none⟩ = some (.int .i64 c)
  c4 : w.cell? ⟨B, 4, none⟩ = some v
  fz : ∀ i, w.frozen? ⟨B, i, none⟩ = false
  lt : B < w.heap.size
theorem RBox.keep {w w' : World} {B : Nat} {a b c : Int} {v : Value} (h : RBox w B a b c v) (hk : w'.heap[B]? = w.heap[B]?) : RBox w' B a b c v :=
  ⟨(World.cell?_of_block (w := w) hk).trans h.c0, (World.cell?_of_block (w := w) hk).trans h.c1, (World.cell?_of_block (w := w) hk).trans h.c2, (World.cell?_of_block (w := w) hk).trans h.c3, (World.cell?_of_block (w := w) hk).trans h.c4, fun i => (World.frozen?_of_block (w := w) hk).trans (h.fz i), lt_of_same h.lt hk⟩
theorem RBox.below {w w' : World} {B : Nat} {a b c : Int} {v : Value} (h : RBox w B a b c v) (hb : Below w.heap.size w w') : RBox w' B a b c v := h.keep (hb.block B h.lt)
theorem RBox.setC {w : World} {B : Nat} {a b c : Int} {v : Value} (h : RBox w B a b c v) (c' : Int) : RBox (w.setCell ⟨B, 3, none⟩ (.int .i64 c')) B a b c' v := by
  refine ⟨?_, ?_, ?_, World.cell?_setCell_same' w _ _ (by rw [h.c3]; rfl), ?_, fun i => by rw [World.frozen?_setCell]; exact h.fz i, by simp [World.setCell]; exact h.lt⟩
  · rw [World.cell?_setCell_other _ _ _ _ (by simp)]; exact h.c0
  · rw [World.cell?_setCell_other _ _ _ _ (by simp)]; exact h.c1
  · rw [World.cell?_setCell_other _ _ _ _ (by simp)]; exact h.c2
  · rw [World.cell?_setCell_other _ _ _ _ (by simp)]; exact h.c4
theorem RBox.setV {w : World} {B : Nat} {a b c : Int} {v : Value} (h : RBox w B a b c v) (v' : Value) : RBox (w.setCell ⟨B, 4, none⟩ v') B a b c v' := by
  refine ⟨?_, ?_, ?_, ?_, World.cell?_setCell_same' w _ _ (by rw [h.c4]; rfl), fun i => by rw [World.frozen?_setCell]; exact h.fz i, by simp [World.setCell]; exact h.lt⟩
  · rw [World.cell?_setCell_other _ _ _ _ (by simp)]; exact h.c0
  · rw [World.cell?_setCell_other _ _ _ _ (by simp)]; exact h.c1
  · rw [World.cell?_setCell_other _ _ _ _ (by simp)]; exact h.c2
  · rw [World.cell?_setCell_other _ _ _ _ (by simp)]; exact h.c3
theorem rbox_new (w : World) (a b c : Int) : RBox (w.alloc (.cells #[.int .i64 a, .int .i64 b, .bool false, .int .i64 c, .slice none 0 0] 64)) w.heap.size a b c (.slice none 0 0) :=
  ⟨by rw [World.cell?_alloc_at _ _ _ _ rfl]; rfl, by rw [World.cell?_alloc_at _ _ _ _ rfl]; rfl, by rw [World.cell?_alloc_at _ _ _ _ rfl]; rfl, by rw [World.cell?_alloc_at _ _ _ _ rfl]; rfl, by rw [World.cell?_alloc_at _ _ _ _ rfl]; rfl, fun i => World.frozen?_alloc_at _ _ _ _ rfl, by simp⟩
theorem refCost_bd {xs : List Entry} {s : Nat} {p : Prefix} (hs : s < 12) : ∀ n, n ≤ 12 → -1 ≤ refCost xs s p n ∧ refCost xs s p n ≤ 1048576
  | 0, _ => by unfold refCost; omega
  | n + 1, hn => by
    have ih := refCost_bd (xs := xs) (p := p) hs n (by omega)
    have hw := way_le xs hs (q := n) (by omega)
    unfold refCost
    split <;> omega
theorem below_growI {B base : Nat} {a w w' : World} {v v' : Value} {E : TypeId} {xs : List Int} (h : Below B a w) (ho : OwR intR E base w v xs) (hg : GrowTo w v w' v') (hB : B ≤ base) : Below B a w' :=
  h.grown hg.grown (Nat.le_trans hB ho.choose_spec.2.2.2) (fun k hk => Nat.le_trans hB (ho.base_le k hk).1)
theorem tableS_ref {xs : List Entry} {f : Int} : tableS xs f = if (waysS xs f).2 ≠ 0 then ([], (waysS xs f).2) else (refTab xs f.toNat 256, 0) := by
  by_cases h : checkS xs = 0
  · by_cases h2 : (decide (0 ≤ f) && decide (f ≤ 11)) = true
    · have hw : waysS xs f = (waysTo xs f.toNat 12, 0) := by unfold waysS; rw [if_neg (by simp [h]), if_pos h2]
      have ht : tableS xs f = (tabTo xs f.toNat 12, 0) := by unfold tableS; rw [if_neg (by simp [h]), if_pos h2]
      simp only [Bool.and_eq_true, decide_eq_true_eq] at h2
      rw [hw, ht, if_neg (by simp), tab_ref (by omega)]
    · have hw : waysS xs f = ([], 2) := by unfold waysS; rw [if_neg (by simp [h]), if_neg h2]
      have ht : tableS xs f = ([], 2) := by unfold tableS; rw [if_neg (by simp [h]), if_neg h2]
      rw [hw, ht, if_pos (by simp)]
  · have hw : waysS xs f = ([], checkS xs) := by unfold waysS; rw [if_pos h]
    have ht : tableS xs f = ([], checkS xs) := by unfold tableS; rw [if_pos h]
    rw [hw, ht, if_pos (by simpa using h)]




set_option maxRecDepth 50000 in
set_option maxHeartbeats 40000000 in
theorem tableOf_any (v : Value) (xs : List Entry) (f : Int) (w : World) (h : Sl entR w v xs) (hE : Env w) :
    Calls Tryz.prog 9 #[v, .int .i64 f] w (TabPost (tableS xs f) w) := by
  have hw := waysOf_any v xs f w h (fun hc e he => (sizes_of hc e he).2) hE
  obtain ⟨A, c, rfl⟩ := h.form
  have H := Go.Lib.hid h
  have HE := Go.Lib.hid hE
  unfold WaysPost at hw
  have HW := Go.Lib.hid hw
  clear h hE hw
  by_cases hc : (waysS xs f).2 = 0
  · obtain ⟨s, rfl, hs, hck, hws⟩ : ∃ s : Nat, f = s ∧ s < 12 ∧ checkS xs = 0 ∧ waysS xs f = (waysTo xs s 12, 0) := by
      by_cases hck : checkS xs = 0
      · by_cases h2 : (decide (0 ≤ f) && decide (f ≤ 11)) = true
        · have h3 := h2
          simp only [Bool.and_eq_true, decide_eq_true_eq] at h3
          refine ⟨f.toNat, by omega, by omega, hck, ?_⟩
          unfold waysS; rw [if_neg (by simp [hck]), if_pos h2]
        · unfold waysS at hc; rw [if_neg (by simp [hck]), if_neg h2] at hc; simp at hc
      · unfold waysS at hc; rw [if_pos hck] at hc; exact absurd hc hck
    have HT := Go.Lib.hid (show tableS xs s = (refTab xs s 256, 0) by rw [tableS_ref, hws]; simp)
    have hsz := fun e he => (sizes_of hck e he).2
    have HPI := Go.Lib.hid (fun n hn w' (hb : Below w.heap.size w w') => prefsIn_any (.slice A xs.length c) xs n w' (H.out.below hb) hn hsz (HE.out.below hb))
    rw [hws] at HW
    clear hc hck hws hsz
    go_enter Tryz.func9, Tryz.ntmps9
    go_wp2_with (go_at_call 28; refine HW.out.mono ?_; rintro e w1 ⟨v1, rfl, hs1, hb1⟩)
    obtain ⟨A1, c1, hv1⟩ := hs1.form
    rw [waysTo_len] at hv1
    subst hv1
    have HS1 := Go.Lib.hid hs1
    have HB1 := Go.Lib.hid hb1
    clear hs1 hb1 HW
    go_loopw [8, 9] (fun o i wr => ∃ a : Nat, a ≤ 256 ∧ i = .int .i64 a ∧ OwR routeR 64 w1.heap.size wr o (refTab xs s a) ∧ Below w1.heap.size w1 wr) (fun _ i _ => 256 - (intOf i).toNat)
    case atStart => exact ⟨0, Nat.zero_le _, rfl, OwR.nil _ _ (Nat.le_refl _), Below.refl _ _⟩
    case round =>
      obtain ⟨a, ha, rfl, ho, hb⟩ := hrel
      have HO := Go.Lib.hid ho
      have HB := Go.Lib.hid hb
      clear ho hb
      by_cases hla : a < 256
      · have hai : (a : Int) ≤ 255 := by omega
        have hlen : ∀ b, b ≤ 9 → (refTab xs s a ++ refBits xs s a b).length ≤ 1000000 := fun b hb => by
          have h1 : ∀ b, (refBits xs s a b).length ≤ b := fun b => by
            induction b with
            | zero => exact Nat.le_refl _
            | succ b ih =>
              show (refBits xs s a b ++ refAt xs s ⟨a, b⟩).length ≤ _
              rw [List.length_append]
              have : (refAt xs s ⟨a, b⟩).length ≤ 1 := by
                unfold refAt; split
                · exact Nat.zero_le _
                · cases refRoute xs s ⟨a, b⟩ <;> simp
              omega
          have h2 : ∀ a, (refTab xs s a).length ≤ 9 * a := fun a => by
            induction a with
            | zero => exact Nat.le_refl _
            | succ a ih =>
              show (refTab xs s a ++ refBits xs s a 9).length ≤ _
              rw [List.length_append]
              have : (refBits xs s a 9).length ≤ 9 := by
                have h3 : ∀ b, (refBits xs s a b).length ≤ b := fun b => by
                  induction b with
                  | zero => exact Nat.le_refl _
                  | succ b ih =>
                    show (refBits xs s a b ++ refAt xs s ⟨a, b⟩).length ≤ _
                    rw [List.length_append]
                    have : (refAt xs s ⟨a, b⟩).length ≤ 1 := by
                      unfold refAt; split
                      · exact Nat.zero_le _
                      · cases refRoute xs s ⟨a, b⟩ <;> simp
                    omega
                exact h3 9
              omega
          rw [List.length_append]
          have := h1 b
          have := h2 a
          omega
        have HLEN := Go.Lib.hid hlen
        clear hlen
        go_wp2_with fail
        go_loopw [8, 10] (fun o j wr2 => ∃ b : Nat, b ≤ 9 ∧ j = .int .i64 b ∧ OwR routeR 64 w1.heap.size wr2 o (refTab xs s a ++ refBits xs s a b) ∧ Below w1.heap.size w1 wr2) (fun _ j _ => 9 - (intOf j).toNat)
        case atStart => exact ⟨0, Nat.zero_le _, rfl, by simpa [refBits] using HO.out, HB.out⟩
        case round =>
          obtain ⟨b, hb9, rfl, ho, hb⟩ := hrel
          clear HO HB
          have HO := Go.Lib.hid ho
          have HB := Go.Lib.hid hb
          clear ho hb
          by_cases hlb : b < 9
          · have hbi : (b : Int) ≤ 8 := by omega
            have hb0 : (0 : Int) ≤ (b : Int) := Int.natCast_nonneg b
            have ha0 : (0 : Int) ≤ (a : Int) := Int.natCast_nonneg a
            have HSP := Go.Lib.hid (fun w' => spanOf_q (b : Int) w' hb0 hbi)
            have hspn := spanN_pos (b : Int) hb0 hbi
            have HNX := Go.Lib.hid (show refTab xs s a ++ refBits xs s a (b + 1) = (refTab xs s a ++ refBits xs s a b) ++ refAt xs s ⟨a, b⟩ by rw [List.append_assoc]; rfl)
            have HLN := Go.Lib.hid (HLEN.out b (by omega))
            obtain ⟨L, hL⟩ : ∃ L, L = refTab xs s a ++ refBits xs s a b := ⟨_, rfl⟩
            rw [← hL] at HO HNX HLN
            obtain ⟨sp, hsp⟩ : ∃ sp, sp = spanN (b : Int) := ⟨_, rfl⟩
            rw [← hsp] at HSP hspn
            have HSPE := Go.Lib.hid hsp
            have hmod : Int.tmod (a : Int) sp = (a : Int) % sp := Int.tmod_eq_emod_of_nonneg ha0
            have hsp0 : (sp == 0) = false := by rw [beq_eq_false_iff_ne]; omega
            have hsp1 : ¬ sp = 0 := by omega
            clear hL hsp
            by_cases hmz : (a : Int) % sp = 0
            · have hme : ((a : Int) % sp != 0) = false := by rw [hmz]; rfl
              have HRA := Go.Lib.hid (show refAt xs s ⟨a, b⟩ = (refRoute xs s ⟨a, b⟩).toList by unfold refAt; rw [if_neg]; show ¬ ((a : Int) % spanN (b : Int) ≠ 0); rw [← HSPE.out]; simpa using hmz)
              have hpx := pbox_new wr a b
              have hal := (Below.refl wr.heap.size wr).alloc (Nat.le_refl _) (.cells #[.int .i64 a, .int .i64 b] 62)
              have HPX := Go.Lib.hid hpx
              have HAL := Go.Lib.hid hal
              clear hpx hal
              go_wp2_with (go_at_call 29; refine (HSP.out _).mono ?_; rintro e w' ⟨rfl, rfl⟩)
              have HO1 := Go.Lib.hid (HO.out.keep HAL.out)
              have HBA := Go.Lib.hid (HB.out.trans (HAL.out.mono HB.out.size))
              have HBW := Go.Lib.hid (HB1.out.trans ((HB.out.trans (HAL.out.mono HB.out.size)).mono HB1.out.size))
              obtain ⟨W2, hW2⟩ : ∃ x, x = wr.alloc (.cells #[.int .i64 a, .int .i64 b] 62) := ⟨_, rfl⟩
              rw [← hW2] at HPX HO1 HBW HBA
              rw [← hW2]
              obtain ⟨P, hP⟩ : ∃ x, x = wr.heap.size := ⟨_, rfl⟩
              rw [← hP] at HPX
              rw [← hP]
              clear hW2 hP HAL HO HB HSP HSPE
              have hhp := fun v3 w3 (h : Sl prefR w3 v3 (prefsAt xs s)) => hasPrefix_any v3 (prefsAt xs s) ⟨a, b⟩ w3 h (by have := (prefs_fine (prefsAt_chk xs s)).1; omega)
              have HHP := Go.Lib.hid hhp
              have HPS := Go.Lib.hid (HPI.out s hs)
              obtain ⟨A5, n5, c5, rfl⟩ := owR5_form HO1.out
              clear hhp
              rcases hin : inP (prefsAt xs s) ⟨a, b⟩ with _ | _
              · rw [hin] at HHP
                have HRR := Go.Lib.hid (show refRoute xs s ⟨a, b⟩ = if refCost xs s ⟨a, b⟩ 12 < 0 then none else some ⟨⟨a, b⟩, false, refCost xs s ⟨a, b⟩ 12, refHops xs s ⟨a, b⟩ (refCost xs s ⟨a, b⟩ 12) 12⟩ by unfold refRoute; rw [if_neg (by rw [hin]; simp)])
                clear hin
                have p0 := HPX.out.c0
                have p1 := HPX.out.c1
                refine wp_region_held_drew (S := fun w' => w'.cell? ⟨P, 0, none⟩ = some (.int .i64 a) ∧ w'.cell? ⟨P, 1, none⟩ = some (.int .i64 b)) (by kernel_rfl) ?_ (fun hHeld => ?_)
                · exact ⟨p0, p1⟩
                refine wpAnyH_take (i := 0) (v := ?_) rfl (by as_aux_lemma => kernel_rfl) (by as_aux_lemma => kernel_rfl) (by as_aux_lemma => kernel_rfl) (fun _ _ _ h => h) (Or.inl ⟨by rfl, ?_⟩) (by assumption) ?_
                rotate_left
                · (intro w hSw; (try dsimp only at hSw); go_simp) <;> with_reducible rfl
                try simp only [Act.put, List.setIfInBounds_toArray, List.set_cons_zero, List.set_cons_succ, List.getElem_toArray, List.getElem_cons_zero, List.getElem_cons_succ]
                refine wpAnyH_take (i := 1) (v := ?_) rfl (by as_aux_lemma => kernel_rfl) (by as_aux_lemma => kernel_rfl) (by as_aux_lemma => kernel_rfl) (fun _ _ _ h => h) (Or.inl ⟨by rfl, ?_⟩) (by assumption) ?_
                rotate_left
                · (intro w hSw; (try dsimp only at hSw); go_simp) <;> with_reducible rfl
                try simp only [Act.put, List.setIfInBounds_toArray, List.set_cons_zero, List.set_cons_succ, List.getElem_toArray, List.getElem_cons_zero, List.getElem_cons_succ]
                refine wpAnyH_take (i := 3) (v := ?_) rfl (by as_aux_lemma => kernel_rfl) (by as_aux_lemma => kernel_rfl) (by as_aux_lemma => kernel_rfl) (fun _ _ _ h => h) (Or.inl ⟨by rfl, ?_⟩) (by assumption) ?_
                rotate_left
                · (intro w hSw; (try dsimp only at hSw); go_simp) <;> with_reducible rfl
                try simp only [Act.put, List.setIfInBounds_toArray, List.set_cons_zero, List.set_cons_succ, List.getElem_toArray, List.getElem_cons_zero, List.getElem_cons_succ]
                refine wpAnyH_ready (rs := [2]) (by kernel_rfl) (by simp) ?_
                refine AllReadyH.cons rfl (fun K hK => ?_) AllReadyH.nil
                go_simp
                go_wp2_with (go_at_call 31; refine (HPS.out _ HBW.out.drew).mono ?_; rintro e w3 ⟨⟨v3, rfl, hs3⟩, hb3⟩; obtain ⟨A3, c3, rfl⟩ := hs3.form; have HS3 := Go.Lib.hid hs3; have hb5 := Below.trans ((Below.refl W2.heap.size W2).drew) hb3; have HB3 := Go.Lib.hid hb5; have y0 := cell_keep hb5 HPX.out.c0; have y1 := cell_keep hb5 HPX.out.c1; clear hs3 hb3 hb5)
                refine hK.out _ _ ⟨y0, y1⟩ (fun hS3 => ?_)
                clear hHeld hK K
                try simp only [Act.put, List.setIfInBounds_toArray, List.set_cons_zero, List.set_cons_succ, List.getElem_toArray, List.getElem_cons_zero, List.getElem_cons_succ]
                refine wpAnyH_ready (rs := [4]) (by kernel_rfl) (by simp) ?_
                refine AllReadyH.cons rfl (fun K hK => ?_) AllReadyH.nil
                go_simp
                go_wp2_with (go_at_call 30; refine (HHP.out _ _ HS3.out).mono ?_; rintro e w4 ⟨rfl, hb4⟩; have hb6 := HB3.out.trans (hb4.mono HB3.out.size); have HB4 := Go.Lib.hid hb6; have x0 := cell_keep hb6 HPX.out.c0; have x1 := cell_keep hb6 HPX.out.c1; clear hb4 hb6)
                refine hK.out _ _ ⟨x0, x1⟩ (fun hS4 => ?_)
                clear hS3 hK K
                try simp only [Act.put, List.setIfInBounds_toArray, List.set_cons_zero, List.set_cons_succ, List.getElem_toArray, List.getElem_cons_zero, List.getElem_cons_succ]
                refine wpAnyH_done (by kernel_rfl) ?_ _
                clear hS4
                all_goals
                  go_wp2_with fail
                  have hrx := rbox_new w4 a b (-1)
                  have hal4 := (Below.refl w4.heap.size w4).alloc (Nat.le_refl _) (.cells #[.int .i64 a, .int .i64 b, .bool false, .int .i64 (-1), .slice none 0 0] 64)
                  have HRX := Go.Lib.hid hrx
                  have HPW := Go.Lib.hid HPX.out.lt
                  have HPX4 := Go.Lib.hid ((HPX.out.below HB4.out).below hal4)
                  have HBX4 := Go.Lib.hid (HB4.out.trans (hal4.mono HB4.out.size))
                  have HRB := Go.Lib.hid (show W2.heap.size ≤ w4.heap.size from HB4.out.size)
                  obtain ⟨W6, hW6⟩ : ∃ x, x = w4.alloc (.cells #[.int .i64 a, .int .i64 b, .bool false, .int .i64 (-1), .slice none 0 0] 64) := ⟨_, rfl⟩
                  rw [← hW6] at HRX HPX4 HBX4
                  rw [← hW6]
                  obtain ⟨RB, hRB⟩ : ∃ x, x = w4.heap.size := ⟨_, rfl⟩
                  rw [← hRB] at HRX HRB
                  rw [← hRB]
                  clear hW6 hRB hrx hal4 p0 p1 x0 x1 HPX HB4 HB3 HS3 HPS HHP
                  have HPX := HPX4
                  clear HPX4
                  go_loopw [13] (fun i wr3 => ∃ n : Nat, n ≤ 12 ∧ i = .int .i64 n ∧ RBox wr3 RB a b (refCost xs s ⟨a, b⟩ n) (.slice none 0 0) ∧ PBox wr3 P a b ∧ Below W2.heap.size W2 wr3) (fun i _ => 12 - (intOf i).toNat)
                  case atStart => exact ⟨0, Nat.zero_le _, rfl, HRX.out, HPX.out, HBX4.out⟩
                  case round =>
                    obtain ⟨n, hn, rfl, hrx, hpx, hb⟩ := hrel
                    clear HRX HPX HBX4
                    have HRX := Go.Lib.hid hrx
                    have HPX := Go.Lib.hid hpx
                    have HBX := Go.Lib.hid hb
                    have x3 := hrx.c3
                    have x3f := hrx.fz 3
                    have p0 := hpx.c0
                    have p1 := hpx.c1
                    clear hrx hpx hb
                    by_cases hln : n < 12
                    · have hni : (n : Int) < 12 := by omega
                      have hn0 : (0 : Int) ≤ (n : Int) := Int.natCast_nonneg n
                      have hbw1 := (HBA.out.trans (HBX.out.mono HBA.out.size))
                      obtain ⟨bw, offw, hAw, hbw⟩ := HS1.out.at_ (k := n) (by rw [waysTo_len]; exact hln)
                      subst hAw
                      obtain ⟨vh, f1, f2, f3, f4⟩ := (HS1.out.below hbw1).way (k := n) (by rw [waysTo_len]; exact hln)
                      rw [waysTo_at] at f1
                      have HF1 := Go.Lib.hid f1
                      have HBN := Go.Lib.hid (HBW.out.trans (HBX.out.mono HBW.out.size))
                      have HPN := Go.Lib.hid (HPI.out n hln)
                      have hhn := fun v3 w3 (h : Sl prefR w3 v3 (prefsAt xs n)) => hasPrefix_any v3 (prefsAt xs n) ⟨a, b⟩ w3 h (by have := (prefs_fine (prefsAt_chk xs n)).1; omega)
                      have HHN := Go.Lib.hid hhn
                      have HCN := Go.Lib.hid (show refCost xs s ⟨a, b⟩ (n + 1) = if okN xs s ⟨a, b⟩ n = true ∧ (refCost xs s ⟨a, b⟩ n < 0 ∨ (wayTo xs s n).cost < refCost xs s ⟨a, b⟩ n) then (wayTo xs s n).cost else refCost xs s ⟨a, b⟩ n from rfl)
                      have HOK := Go.Lib.hid (show okN xs s ⟨a, b⟩ n = (decide (n ≠ s) && decide (0 ≤ (wayTo xs s n).cost) && inP (prefsAt xs n) ⟨a, b⟩) from rfl)
                      clear hhn hbw1 f2 f3 f4
                      obtain ⟨c1, hc1⟩ : ∃ c1, refCost xs s ⟨a, b⟩ (n + 1) = c1 := ⟨_, rfl⟩
                      rw [hc1] at HCN
                      have HC1 := Go.Lib.hid hc1
                      clear hc1
                      generalize refCost xs s ⟨a, b⟩ n = c0 at *
                      generalize (wayTo xs s n).cost = cn at *
                      generalize okN xs s ⟨a, b⟩ n = ok at *
                      by_cases hns : n = s
                      · have g1 : ((n : Int) != (s : Int)) = false := by rw [hns]; simp
                        have HC := Go.Lib.hid (show c1 = c0 by rw [HCN.out, HOK.out, if_neg (by simp [hns])])
                        clear hns
                        as_aux_lemma =>
                          go_wp2_with fail
                          go_quiet (fail)
                          obtain ⟨q1, rfl⟩ : ∃ m, m = nq := ⟨nq, rfl⟩
                          have HBQ := Go.Lib.hid (bDrewN (Below.refl wr.heap.size wr) q1)
                          go_wp2_with fail
                          go_roundw
                          case rel => exact ⟨n + 1, by omega, by go_num, ⟨by rw [HC1.out, HC.out]; exact HRX.out.below HBQ.out, HPX.out.below HBQ.out, HBX.out.trans (HBQ.out.mono HBX.out.size)⟩⟩
                          case measure => simp [intOf]; omega
                      · have g1 : ((n : Int) != (s : Int)) = true := by rw [bne_iff_ne]; omega
                        by_cases hcn : 0 ≤ cn
                        · have hd1 : decide (0 ≤ cn) = true := decide_eq_true hcn
                          rcases hin : inP (prefsAt xs n) ⟨a, b⟩ with _ | _
                          · have HC := Go.Lib.hid (show c1 = c0 by rw [HCN.out, HOK.out, if_neg (by simp [hin])])
                            rw [hin] at HHN
                            clear hin hns
                            as_aux_lemma =>
                              go_wp2_with fail
                              refine wp_region_held_drew (S := fun w' => w'.cell? ⟨P, 0, none⟩ = some (.int .i64 a) ∧ w'.cell? ⟨P, 1, none⟩ = some (.int .i64 b) ∧ w'.cell? ⟨RB, 3, none⟩ = some (.int .i64 c0) ∧ w'.cell? ⟨bw, offw + n * 2, none⟩ = some (.int .i64 cn)) (by kernel_rfl) ?_ (fun hHeld => ?_)
                              · exact ⟨p0, p1, x3, f1⟩
                              refine wpAnyH_take (i := 0) (v := ?_) rfl (by as_aux_lemma => kernel_rfl) (by as_aux_lemma => kernel_rfl) (by as_aux_lemma => kernel_rfl) (fun _ _ _ h => h) (Or.inl ⟨by rfl, ?_⟩) (by assumption) ?_
                              rotate_left
                              · (intro w hSw; (try dsimp only at hSw); go_simp) <;> with_reducible rfl
                              try simp only [Act.put, List.setIfInBounds_toArray, List.set_cons_zero, List.set_cons_succ, List.getElem_toArray, List.getElem_cons_zero, List.getElem_cons_succ]
                              refine wpAnyH_take (i := 1) (v := ?_) rfl (by as_aux_lemma => kernel_rfl) (by as_aux_lemma => kernel_rfl) (by as_aux_lemma => kernel_rfl) (fun _ _ _ h => h) (Or.inl ⟨by rfl, ?_⟩) (by assumption) ?_
                              rotate_left
                              · (intro w hSw; (try dsimp only at hSw); go_simp) <;> with_reducible rfl
                              try simp only [Act.put, List.setIfInBounds_toArray, List.set_cons_zero, List.set_cons_succ, List.getElem_toArray, List.getElem_cons_zero, List.getElem_cons_succ]
                              refine wpAnyH_take (i := 2) (v := ?_) rfl (by as_aux_lemma => kernel_rfl) (by as_aux_lemma => kernel_rfl) (by as_aux_lemma => kernel_rfl) (fun _ _ _ h => h) (Or.inl ⟨by rfl, ?_⟩) (by assumption) ?_
                              rotate_left
                              · (intro w hSw; (try dsimp only at hSw); go_simp) <;> with_reducible rfl
                              try simp only [Act.put, List.setIfInBounds_toArray, List.set_cons_zero, List.set_cons_succ, List.getElem_toArray, List.getElem_cons_zero, List.getElem_cons_succ]
                              refine wpAnyH_take (i := 3) (v := ?_) rfl (by as_aux_lemma => kernel_rfl) (by as_aux_lemma => kernel_rfl) (by as_aux_lemma => kernel_rfl) (fun _ _ _ h => h) (Or.inl ⟨by rfl, ?_⟩) (by assumption) ?_
                              rotate_left
                              · (intro w hSw; (try dsimp only at hSw); go_simp) <;> with_reducible rfl
                              try simp only [Act.put, List.setIfInBounds_toArray, List.set_cons_zero, List.set_cons_succ, List.getElem_toArray, List.getElem_cons_zero, List.getElem_cons_succ]
                              refine wpAnyH_take (i := 4) (v := ?_) rfl (by as_aux_lemma => kernel_rfl) (by as_aux_lemma => kernel_rfl) (by as_aux_lemma => kernel_rfl) (fun _ _ _ h => h) (Or.inl ⟨by rfl, ?_⟩) (by assumption) ?_
                              rotate_left
                              · (intro w hSw; (try dsimp only at hSw); go_simp) <;> with_reducible rfl
                              try simp only [Act.put, List.setIfInBounds_toArray, List.set_cons_zero, List.set_cons_succ, List.getElem_toArray, List.getElem_cons_zero, List.getElem_cons_succ]
                              refine wpAnyH_take (i := 5) (v := ?_) rfl (by as_aux_lemma => kernel_rfl) (by as_aux_lemma => kernel_rfl) (by as_aux_lemma => kernel_rfl) (fun _ _ _ h => h) (Or.inl ⟨by rfl, ?_⟩) (by assumption) ?_
                              rotate_left
                              · (intro w hSw; (try dsimp only at hSw); go_simp) <;> with_reducible rfl
                              try simp only [Act.put, List.setIfInBounds_toArray, List.set_cons_zero, List.set_cons_succ, List.getElem_toArray, List.getElem_cons_zero, List.getElem_cons_succ]
                              refine wpAnyH_take (i := 6) (v := ?_) rfl (by as_aux_lemma => kernel_rfl) (by as_aux_lemma => kernel_rfl) (by as_aux_lemma => kernel_rfl) (fun _ _ _ h => h) (Or.inl ⟨by rfl, ?_⟩) (by assumption) ?_
                              rotate_left
                              · (intro w hSw; (try dsimp only at hSw); go_simp) <;> with_reducible rfl
                              try simp only [Act.put, List.setIfInBounds_toArray, List.set_cons_zero, List.set_cons_succ, List.getElem_toArray, List.getElem_cons_zero, List.getElem_cons_succ]
                              refine wpAnyH_take (i := 7) (v := ?_) rfl (by as_aux_lemma => kernel_rfl) (by as_aux_lemma => kernel_rfl) (by as_aux_lemma => kernel_rfl) (fun _ _ _ h => h) (Or.inl ⟨by rfl, ?_⟩) (by assumption) ?_
                              rotate_left
                              · (intro w hSw; (try dsimp only at hSw); go_simp) <;> with_reducible rfl
                              try simp only [Act.put, List.setIfInBounds_toArray, List.set_cons_zero, List.set_cons_succ, List.getElem_toArray, List.getElem_cons_zero, List.getElem_cons_succ]
                              refine wpAnyH_take (i := 8) (v := ?_) rfl (by as_aux_lemma => kernel_rfl) (by as_aux_lemma => kernel_rfl) (by as_aux_lemma => kernel_rfl) (fun _ _ _ h => h) (Or.inl ⟨by rfl, ?_⟩) (by assumption) ?_
                              rotate_left
                              · (intro w hSw; (try dsimp only at hSw); go_simp) <;> with_reducible rfl
                              try simp only [Act.put, List.setIfInBounds_toArray, List.set_cons_zero, List.set_cons_succ, List.getElem_toArray, List.getElem_cons_zero, List.getElem_cons_succ]
                              refine wpAnyH_take (i := 9) (v := ?_) rfl (by as_aux_lemma => kernel_rfl) (by as_aux_lemma => kernel_rfl) (by as_aux_lemma => kernel_rfl) (fun _ _ _ h => h) (Or.inl ⟨by rfl, ?_⟩) (by assumption) ?_
                              rotate_left
                              · (intro w hSw; (try dsimp only at hSw); go_simp) <;> with_reducible rfl
                              try simp only [Act.put, List.setIfInBounds_toArray, List.set_cons_zero, List.set_cons_succ, List.getElem_toArray, List.getElem_cons_zero, List.getElem_cons_succ]
                              refine wpAnyH_take (i := 10) (v := ?_) rfl (by as_aux_lemma => kernel_rfl) (by as_aux_lemma => kernel_rfl) (by as_aux_lemma => kernel_rfl) (fun _ _ _ h => h) (Or.inl ⟨by rfl, ?_⟩) (by assumption) ?_
                              rotate_left
                              · (intro w hSw; (try dsimp only at hSw); go_simp) <;> with_reducible rfl
                              try simp only [Act.put, List.setIfInBounds_toArray, List.set_cons_zero, List.set_cons_succ, List.getElem_toArray, List.getElem_cons_zero, List.getElem_cons_succ]
                              refine wpAnyH_take (i := 11) (v := ?_) rfl (by as_aux_lemma => kernel_rfl) (by as_aux_lemma => kernel_rfl) (by as_aux_lemma => kernel_rfl) (fun _ _ _ h => h) (Or.inl ⟨by rfl, ?_⟩) (by assumption) ?_
                              rotate_left
                              · (intro w hSw; (try dsimp only at hSw); go_simp) <;> with_reducible rfl
                              try simp only [Act.put, List.setIfInBounds_toArray, List.set_cons_zero, List.set_cons_succ, List.getElem_toArray, List.getElem_cons_zero, List.getElem_cons_succ]
                              refine wpAnyH_take (i := 12) (v := ?_) rfl (by as_aux_lemma => kernel_rfl) (by as_aux_lemma => kernel_rfl) (by as_aux_lemma => kernel_rfl) (fun _ _ _ h => h) (Or.inl ⟨by rfl, ?_⟩) (by assumption) ?_
                              rotate_left
                              · (intro w hSw; (try dsimp only at hSw); go_simp) <;> with_reducible rfl
                              try simp only [Act.put, List.setIfInBounds_toArray, List.set_cons_zero, List.set_cons_succ, List.getElem_toArray, List.getElem_cons_zero, List.getElem_cons_succ]
                              refine wpAnyH_take (i := 13) (v := ?_) rfl (by as_aux_lemma => kernel_rfl) (by as_aux_lemma => kernel_rfl) (by as_aux_lemma => kernel_rfl) (fun _ _ _ h => h) (Or.inl ⟨by rfl, ?_⟩) (by assumption) ?_
                              rotate_left
                              · (intro w hSw; (try dsimp only at hSw); go_simp) <;> with_reducible rfl
                              try simp only [Act.put, List.setIfInBounds_toArray, List.set_cons_zero, List.set_cons_succ, List.getElem_toArray, List.getElem_cons_zero, List.getElem_cons_succ]
                              refine wpAnyH_take (i := 15) (v := ?_) rfl (by as_aux_lemma => kernel_rfl) (by as_aux_lemma => kernel_rfl) (by as_aux_lemma => kernel_rfl) (fun _ _ _ h => h) (Or.inl ⟨by rfl, ?_⟩) (by assumption) ?_
                              rotate_left
                              · (intro w hSw; (try dsimp only at hSw); go_simp) <;> with_reducible rfl
                              try simp only [Act.put, List.setIfInBounds_toArray, List.set_cons_zero, List.set_cons_succ, List.getElem_toArray, List.getElem_cons_zero, List.getElem_cons_succ]
                              refine wpAnyH_ready (rs := [14]) (by kernel_rfl) (by simp) ?_
                              refine AllReadyH.cons rfl (fun K hK => ?_) AllReadyH.nil
                              go_simp
                              go_wp2_with (go_at_call 31; refine (HPN.out _ HBN.out.drew).mono ?_; rintro e w7 ⟨⟨v7, rfl, hs7⟩, hb7⟩; obtain ⟨A7, c7, rfl⟩ := hs7.form; have HS7 := Go.Lib.hid hs7; have hb8 := Below.trans ((Below.refl wr.heap.size wr).drew) hb7; have HB8 := Go.Lib.hid hb8; have y0 := cell_keep hb8 HPX.out.c0; have y1 := cell_keep hb8 HPX.out.c1; have y2 := cell_keep hb8 HRX.out.c3; have y3 := cell_keep hb8 HF1.out; clear hs7 hb7 hb8)
                              refine hK.out _ _ ⟨y0, y1, y2, y3⟩ (fun hS7 => ?_)
                              clear hHeld hK K
                              try simp only [Act.put, List.setIfInBounds_toArray, List.set_cons_zero, List.set_cons_succ, List.getElem_toArray, List.getElem_cons_zero, List.getElem_cons_succ]
                              refine wpAnyH_ready (rs := [16]) (by kernel_rfl) (by simp) ?_
                              refine AllReadyH.cons rfl (fun K hK => ?_) AllReadyH.nil
                              go_simp
                              go_wp2_with (go_at_call 30; refine (HHN.out _ _ HS7.out).mono ?_; rintro e w9 ⟨rfl, hb9⟩; have hb10 := HB8.out.trans (hb9.mono HB8.out.size); have HB10 := Go.Lib.hid hb10; have z0 := cell_keep hb10 HPX.out.c0; have z1 := cell_keep hb10 HPX.out.c1; have z2 := cell_keep hb10 HRX.out.c3; have z3 := cell_keep hb10 HF1.out; have x6 := (HRX.out.below hb10).fz 3; clear hb9 hb10)
                              refine hK.out _ _ ⟨z0, z1, z2, z3⟩ (fun hS9 => ?_)
                              clear hS7 hK K
                              try simp only [Act.put, List.setIfInBounds_toArray, List.set_cons_zero, List.set_cons_succ, List.getElem_toArray, List.getElem_cons_zero, List.getElem_cons_succ]
                              refine wpAnyH_take (i := 17) (v := ?_) rfl (by as_aux_lemma => kernel_rfl) (by as_aux_lemma => kernel_rfl) (by as_aux_lemma => kernel_rfl) (fun _ _ _ h => h) (Or.inl ⟨by rfl, ?_⟩) (by assumption) ?_
                              rotate_left
                              · (intro w hSw; (try dsimp only at hSw); go_simp) <;> with_reducible rfl
                              try simp only [Act.put, List.setIfInBounds_toArray, List.set_cons_zero, List.set_cons_succ, List.getElem_toArray, List.getElem_cons_zero, List.getElem_cons_succ]
                              refine wpAnyH_take (i := 18) (v := ?_) rfl (by as_aux_lemma => kernel_rfl) (by as_aux_lemma => kernel_rfl) (by as_aux_lemma => kernel_rfl) (fun _ _ _ h => h) (Or.inl ⟨by rfl, ?_⟩) (by assumption) ?_
                              rotate_left
                              · (intro w hSw; (try dsimp only at hSw); go_simp) <;> with_reducible rfl
                              try simp only [Act.put, List.setIfInBounds_toArray, List.set_cons_zero, List.set_cons_succ, List.getElem_toArray, List.getElem_cons_zero, List.getElem_cons_succ]
                              refine wpAnyH_take (i := 19) (v := undef) rfl (by as_aux_lemma => kernel_rfl) (by as_aux_lemma => kernel_rfl) (by as_aux_lemma => kernel_rfl) (fun _ _ _ h => h) (Or.inr ⟨by rfl, rfl⟩) (by assumption) ?_
                              try simp only [Act.put, List.setIfInBounds_toArray, List.set_cons_zero, List.set_cons_succ, List.getElem_toArray, List.getElem_cons_zero, List.getElem_cons_succ]
                              refine wpAnyH_take (i := 20) (v := undef) rfl (by as_aux_lemma => kernel_rfl) (by as_aux_lemma => kernel_rfl) (by as_aux_lemma => kernel_rfl) (fun _ _ _ h => h) (Or.inr ⟨by rfl, rfl⟩) (by assumption) ?_
                              try simp only [Act.put, List.setIfInBounds_toArray, List.set_cons_zero, List.set_cons_succ, List.getElem_toArray, List.getElem_cons_zero, List.getElem_cons_succ]
                              refine wpAnyH_take (i := 21) (v := undef) rfl (by as_aux_lemma => kernel_rfl) (by as_aux_lemma => kernel_rfl) (by as_aux_lemma => kernel_rfl) (fun _ _ _ h => h) (Or.inr ⟨by rfl, rfl⟩) (by assumption) ?_
                              try simp only [Act.put, List.setIfInBounds_toArray, List.set_cons_zero, List.set_cons_succ, List.getElem_toArray, List.getElem_cons_zero, List.getElem_cons_succ]
                              refine wpAnyH_take (i := 22) (v := undef) rfl (by as_aux_lemma => kernel_rfl) (by as_aux_lemma => kernel_rfl) (by as_aux_lemma => kernel_rfl) (fun _ _ _ h => h) (Or.inr ⟨by rfl, rfl⟩) (by assumption) ?_
                              try simp only [Act.put, List.setIfInBounds_toArray, List.set_cons_zero, List.set_cons_succ, List.getElem_toArray, List.getElem_cons_zero, List.getElem_cons_succ]
                              refine wpAnyH_take (i := 23) (v := undef) rfl (by as_aux_lemma => kernel_rfl) (by as_aux_lemma => kernel_rfl) (by as_aux_lemma => kernel_rfl) (fun _ _ _ h => h) (Or.inr ⟨by rfl, rfl⟩) (by assumption) ?_
                              try simp only [Act.put, List.setIfInBounds_toArray, List.set_cons_zero, List.set_cons_succ, List.getElem_toArray, List.getElem_cons_zero, List.getElem_cons_succ]
                              refine wpAnyH_take (i := 24) (v := undef) rfl (by as_aux_lemma => kernel_rfl) (by as_aux_lemma => kernel_rfl) (by as_aux_lemma => kernel_rfl) (fun _ _ _ h => h) (Or.inr ⟨by rfl, rfl⟩) (by assumption) ?_
                              try simp only [Act.put, List.setIfInBounds_toArray, List.set_cons_zero, List.set_cons_succ, List.getElem_toArray, List.getElem_cons_zero, List.getElem_cons_succ]
                              refine wpAnyH_take (i := 25) (v := undef) rfl (by as_aux_lemma => kernel_rfl) (by as_aux_lemma => kernel_rfl) (by as_aux_lemma => kernel_rfl) (fun _ _ _ h => h) (Or.inr ⟨by rfl, rfl⟩) (by assumption) ?_
                              try simp only [Act.put, List.setIfInBounds_toArray, List.set_cons_zero, List.set_cons_succ, List.getElem_toArray, List.getElem_cons_zero, List.getElem_cons_succ]
                              refine wpAnyH_take (i := 26) (v := undef) rfl (by as_aux_lemma => kernel_rfl) (by as_aux_lemma => kernel_rfl) (by as_aux_lemma => kernel_rfl) (fun _ _ _ h => h) (Or.inr ⟨by rfl, rfl⟩) (by assumption) ?_
                              try simp only [Act.put, List.setIfInBounds_toArray, List.set_cons_zero, List.set_cons_succ, List.getElem_toArray, List.getElem_cons_zero, List.getElem_cons_succ]
                              refine wpAnyH_take (i := 27) (v := undef) rfl (by as_aux_lemma => kernel_rfl) (by as_aux_lemma => kernel_rfl) (by as_aux_lemma => kernel_rfl) (fun _ _ _ h => h) (Or.inr ⟨by rfl, rfl⟩) (by assumption) ?_
                              try simp only [Act.put, List.setIfInBounds_toArray, List.set_cons_zero, List.set_cons_succ, List.getElem_toArray, List.getElem_cons_zero, List.getElem_cons_succ]
                              refine wpAnyH_take (i := 28) (v := undef) rfl (by as_aux_lemma => kernel_rfl) (by as_aux_lemma => kernel_rfl) (by as_aux_lemma => kernel_rfl) (fun _ _ _ h => h) (Or.inr ⟨by rfl, rfl⟩) (by assumption) ?_
                              try simp only [Act.put, List.setIfInBounds_toArray, List.set_cons_zero, List.set_cons_succ, List.getElem_toArray, List.getElem_cons_zero, List.getElem_cons_succ]
                              refine wpAnyH_take (i := 29) (v := undef) rfl (by as_aux_lemma => kernel_rfl) (by as_aux_lemma => kernel_rfl) (by as_aux_lemma => kernel_rfl) (fun _ _ _ h => h) (Or.inr ⟨by rfl, rfl⟩) (by assumption) ?_
                              try simp only [Act.put, List.setIfInBounds_toArray, List.set_cons_zero, List.set_cons_succ, List.getElem_toArray, List.getElem_cons_zero, List.getElem_cons_succ]
                              refine wpAnyH_take (i := 30) (v := undef) rfl (by as_aux_lemma => kernel_rfl) (by as_aux_lemma => kernel_rfl) (by as_aux_lemma => kernel_rfl) (fun _ _ _ h => h) (Or.inr ⟨by rfl, rfl⟩) (by assumption) ?_
                              try simp only [Act.put, List.setIfInBounds_toArray, List.set_cons_zero, List.set_cons_succ, List.getElem_toArray, List.getElem_cons_zero, List.getElem_cons_succ]
                              refine wpAnyH_take (i := 31) (v := undef) rfl (by as_aux_lemma => kernel_rfl) (by as_aux_lemma => kernel_rfl) (by as_aux_lemma => kernel_rfl) (fun _ _ _ h => h) (Or.inr ⟨by rfl, rfl⟩) (by assumption) ?_
                              try simp only [Act.put, List.setIfInBounds_toArray, List.set_cons_zero, List.set_cons_succ, List.getElem_toArray, List.getElem_cons_zero, List.getElem_cons_succ]
                              refine wpAnyH_take (i := 32) (v := ?_) rfl (by as_aux_lemma => kernel_rfl) (by as_aux_lemma => kernel_rfl) (by as_aux_lemma => kernel_rfl) (fun _ _ _ h => h) (Or.inl ⟨by rfl, ?_⟩) (by assumption) ?_
                              rotate_left
                              · (intro w hSw; (try dsimp only at hSw); go_simp) <;> with_reducible rfl
                              try simp only [Act.put, List.setIfInBounds_toArray, List.set_cons_zero, List.set_cons_succ, List.getElem_toArray, List.getElem_cons_zero, List.getElem_cons_succ]
                              refine wpAnyH_done (by kernel_rfl) ?_ _
                              clear hS9
                              all_goals
                                go_wp2_with fail
                                go_roundw
                                case rel => exact ⟨n + 1, by omega, by go_num, ⟨by rw [HC1.out, HC.out]; exact HRX.out.below HB10.out, HPX.out.below HB10.out, HBX.out.trans (HB10.out.mono HBX.out.size)⟩⟩
                                case measure => simp [intOf]; omega
                          · by_cases h1 : c0 < 0
                            · have hd2 : decide (c0 < 0) = true := decide_eq_true h1
                              have HC := Go.Lib.hid (show c1 = cn by rw [HCN.out, HOK.out, if_pos ⟨by simp [hns, hcn, hin], .inl h1⟩])
                              rw [hin] at HHN
                              clear hin hns
                              as_aux_lemma =>
                                go_wp2_with fail
                                refine wp_region_held_drew (S := fun w' => w'.cell? ⟨P, 0, none⟩ = some (.int .i64 a) ∧ w'.cell? ⟨P, 1, none⟩ = some (.int .i64 b) ∧ w'.cell? ⟨RB, 3, none⟩ = some (.int .i64 c0) ∧ w'.cell? ⟨bw, offw + n * 2, none⟩ = some (.int .i64 cn)) (by kernel_rfl) ?_ (fun hHeld => ?_)
                                · exact ⟨p0, p1, x3, f1⟩
                                refine wpAnyH_take (i := 0) (v := ?_) rfl (by as_aux_lemma => kernel_rfl) (by as_aux_lemma => kernel_rfl) (by as_aux_lemma => kernel_rfl) (fun _ _ _ h => h) (Or.inl ⟨by rfl, ?_⟩) (by assumption) ?_
                                rotate_left
                                · (intro w hSw; (try dsimp only at hSw); go_simp) <;> with_reducible rfl
                                try simp only [Act.put, List.setIfInBounds_toArray, List.set_cons_zero, List.set_cons_succ, List.getElem_toArray, List.getElem_cons_zero, List.getElem_cons_succ]
                                refine wpAnyH_take (i := 1) (v := ?_) rfl (by as_aux_lemma => kernel_rfl) (by as_aux_lemma => kernel_rfl) (by as_aux_lemma => kernel_rfl) (fun _ _ _ h => h) (Or.inl ⟨by rfl, ?_⟩) (by assumption) ?_
                                rotate_left
                                · (intro w hSw; (try dsimp only at hSw); go_simp) <;> with_reducible rfl
                                try simp only [Act.put, List.setIfInBounds_toArray, List.set_cons_zero, List.set_cons_succ, List.getElem_toArray, List.getElem_cons_zero, List.getElem_cons_succ]
                                refine wpAnyH_take (i := 2) (v := ?_) rfl (by as_aux_lemma => kernel_rfl) (by as_aux_lemma => kernel_rfl) (by as_aux_lemma => kernel_rfl) (fun _ _ _ h => h) (Or.inl ⟨by rfl, ?_⟩) (by assumption) ?_
                                rotate_left
                                · (intro w hSw; (try dsimp only at hSw); go_simp) <;> with_reducible rfl
                                try simp only [Act.put, List.setIfInBounds_toArray, List.set_cons_zero, List.set_cons_succ, List.getElem_toArray, List.getElem_cons_zero, List.getElem_cons_succ]
                                refine wpAnyH_take (i := 3) (v := ?_) rfl (by as_aux_lemma => kernel_rfl) (by as_aux_lemma => kernel_rfl) (by as_aux_lemma => kernel_rfl) (fun _ _ _ h => h) (Or.inl ⟨by rfl, ?_⟩) (by assumption) ?_
                                rotate_left
                                · (intro w hSw; (try dsimp only at hSw); go_simp) <;> with_reducible rfl
                                try simp only [Act.put, List.setIfInBounds_toArray, List.set_cons_zero, List.set_cons_succ, List.getElem_toArray, List.getElem_cons_zero, List.getElem_cons_succ]
                                refine wpAnyH_take (i := 4) (v := ?_) rfl (by as_aux_lemma => kernel_rfl) (by as_aux_lemma => kernel_rfl) (by as_aux_lemma => kernel_rfl) (fun _ _ _ h => h) (Or.inl ⟨by rfl, ?_⟩) (by assumption) ?_
                                rotate_left
                                · (intro w hSw; (try dsimp only at hSw); go_simp) <;> with_reducible rfl
                                try simp only [Act.put, List.setIfInBounds_toArray, List.set_cons_zero, List.set_cons_succ, List.getElem_toArray, List.getElem_cons_zero, List.getElem_cons_succ]
                                refine wpAnyH_take (i := 5) (v := ?_) rfl (by as_aux_lemma => kernel_rfl) (by as_aux_lemma => kernel_rfl) (by as_aux_lemma => kernel_rfl) (fun _ _ _ h => h) (Or.inl ⟨by rfl, ?_⟩) (by assumption) ?_
                                rotate_left
                                · (intro w hSw; (try dsimp only at hSw); go_simp) <;> with_reducible rfl
                                try simp only [Act.put, List.setIfInBounds_toArray, List.set_cons_zero, List.set_cons_succ, List.getElem_toArray, List.getElem_cons_zero, List.getElem_cons_succ]
                                refine wpAnyH_take (i := 6) (v := ?_) rfl (by as_aux_lemma => kernel_rfl) (by as_aux_lemma => kernel_rfl) (by as_aux_lemma => kernel_rfl) (fun _ _ _ h => h) (Or.inl ⟨by rfl, ?_⟩) (by assumption) ?_
                                rotate_left
                                · (intro w hSw; (try dsimp only at hSw); go_simp) <;> with_reducible rfl
                                try simp only [Act.put, List.setIfInBounds_toArray, List.set_cons_zero, List.set_cons_succ, List.getElem_toArray, List.getElem_cons_zero, List.getElem_cons_succ]
                                refine wpAnyH_take (i := 7) (v := ?_) rfl (by as_aux_lemma => kernel_rfl) (by as_aux_lemma => kernel_rfl) (by as_aux_lemma => kernel_rfl) (fun _ _ _ h => h) (Or.inl ⟨by rfl, ?_⟩) (by assumption) ?_
                                rotate_left
                                · (intro w hSw; (try dsimp only at hSw); go_simp) <;> with_reducible rfl
                                try simp only [Act.put, List.setIfInBounds_toArray, List.set_cons_zero, List.set_cons_succ, List.getElem_toArray, List.getElem_cons_zero, List.getElem_cons_succ]
                                refine wpAnyH_take (i := 8) (v := ?_) rfl (by as_aux_lemma => kernel_rfl) (by as_aux_lemma => kernel_rfl) (by as_aux_lemma => kernel_rfl) (fun _ _ _ h => h) (Or.inl ⟨by rfl, ?_⟩) (by assumption) ?_
                                rotate_left
                                · (intro w hSw; (try dsimp only at hSw); go_simp) <;> with_reducible rfl
                                try simp only [Act.put, List.setIfInBounds_toArray, List.set_cons_zero, List.set_cons_succ, List.getElem_toArray, List.getElem_cons_zero, List.getElem_cons_succ]
                                refine wpAnyH_take (i := 9) (v := ?_) rfl (by as_aux_lemma => kernel_rfl) (by as_aux_lemma => kernel_rfl) (by as_aux_lemma => kernel_rfl) (fun _ _ _ h => h) (Or.inl ⟨by rfl, ?_⟩) (by assumption) ?_
                                rotate_left
                                · (intro w hSw; (try dsimp only at hSw); go_simp) <;> with_reducible rfl
                                try simp only [Act.put, List.setIfInBounds_toArray, List.set_cons_zero, List.set_cons_succ, List.getElem_toArray, List.getElem_cons_zero, List.getElem_cons_succ]
                                refine wpAnyH_take (i := 10) (v := ?_) rfl (by as_aux_lemma => kernel_rfl) (by as_aux_lemma => kernel_rfl) (by as_aux_lemma => kernel_rfl) (fun _ _ _ h => h) (Or.inl ⟨by rfl, ?_⟩) (by assumption) ?_
                                rotate_left
                                · (intro w hSw; (try dsimp only at hSw); go_simp) <;> with_reducible rfl
                                try simp only [Act.put, List.setIfInBounds_toArray, List.set_cons_zero, List.set_cons_succ, List.getElem_toArray, List.getElem_cons_zero, List.getElem_cons_succ]
                                refine wpAnyH_take (i := 11) (v := ?_) rfl (by as_aux_lemma => kernel_rfl) (by as_aux_lemma => kernel_rfl) (by as_aux_lemma => kernel_rfl) (fun _ _ _ h => h) (Or.inl ⟨by rfl, ?_⟩) (by assumption) ?_
                                rotate_left
                                · (intro w hSw; (try dsimp only at hSw); go_simp) <;> with_reducible rfl
                                try simp only [Act.put, List.setIfInBounds_toArray, List.set_cons_zero, List.set_cons_succ, List.getElem_toArray, List.getElem_cons_zero, List.getElem_cons_succ]
                                refine wpAnyH_take (i := 12) (v := ?_) rfl (by as_aux_lemma => kernel_rfl) (by as_aux_lemma => kernel_rfl) (by as_aux_lemma => kernel_rfl) (fun _ _ _ h => h) (Or.inl ⟨by rfl, ?_⟩) (by assumption) ?_
                                rotate_left
                                · (intro w hSw; (try dsimp only at hSw); go_simp) <;> with_reducible rfl
                                try simp only [Act.put, List.setIfInBounds_toArray, List.set_cons_zero, List.set_cons_succ, List.getElem_toArray, List.getElem_cons_zero, List.getElem_cons_succ]
                                refine wpAnyH_take (i := 13) (v := ?_) rfl (by as_aux_lemma => kernel_rfl) (by as_aux_lemma => kernel_rfl) (by as_aux_lemma => kernel_rfl) (fun _ _ _ h => h) (Or.inl ⟨by rfl, ?_⟩) (by assumption) ?_
                                rotate_left
                                · (intro w hSw; (try dsimp only at hSw); go_simp) <;> with_reducible rfl
                                try simp only [Act.put, List.setIfInBounds_toArray, List.set_cons_zero, List.set_cons_succ, List.getElem_toArray, List.getElem_cons_zero, List.getElem_cons_succ]
                                refine wpAnyH_take (i := 15) (v := ?_) rfl (by as_aux_lemma => kernel_rfl) (by as_aux_lemma => kernel_rfl) (by as_aux_lemma => kernel_rfl) (fun _ _ _ h => h) (Or.inl ⟨by rfl, ?_⟩) (by assumption) ?_
                                rotate_left
                                · (intro w hSw; (try dsimp only at hSw); go_simp) <;> with_reducible rfl
                                try simp only [Act.put, List.setIfInBounds_toArray, List.set_cons_zero, List.set_cons_succ, List.getElem_toArray, List.getElem_cons_zero, List.getElem_cons_succ]
                                refine wpAnyH_ready (rs := [14]) (by kernel_rfl) (by simp) ?_
                                refine AllReadyH.cons rfl (fun K hK => ?_) AllReadyH.nil
                                go_simp
                                go_wp2_with (go_at_call 31; refine (HPN.out _ HBN.out.drew).mono ?_; rintro e w7 ⟨⟨v7, rfl, hs7⟩, hb7⟩; obtain ⟨A7, c7, rfl⟩ := hs7.form; have HS7 := Go.Lib.hid hs7; have hb8 := Below.trans ((Below.refl wr.heap.size wr).drew) hb7; have HB8 := Go.Lib.hid hb8; have y0 := cell_keep hb8 HPX.out.c0; have y1 := cell_keep hb8 HPX.out.c1; have y2 := cell_keep hb8 HRX.out.c3; have y3 := cell_keep hb8 HF1.out; clear hs7 hb7 hb8)
                                refine hK.out _ _ ⟨y0, y1, y2, y3⟩ (fun hS7 => ?_)
                                clear hHeld hK K
                                try simp only [Act.put, List.setIfInBounds_toArray, List.set_cons_zero, List.set_cons_succ, List.getElem_toArray, List.getElem_cons_zero, List.getElem_cons_succ]
                                refine wpAnyH_ready (rs := [16]) (by kernel_rfl) (by simp) ?_
                                refine AllReadyH.cons rfl (fun K hK => ?_) AllReadyH.nil
                                go_simp
                                go_wp2_with (go_at_call 30; refine (HHN.out _ _ HS7.out).mono ?_; rintro e w9 ⟨rfl, hb9⟩; have hb10 := HB8.out.trans (hb9.mono HB8.out.size); have HB10 := Go.Lib.hid hb10; have z0 := cell_keep hb10 HPX.out.c0; have z1 := cell_keep hb10 HPX.out.c1; have z2 := cell_keep hb10 HRX.out.c3; have z3 := cell_keep hb10 HF1.out; have x6 := (HRX.out.below hb10).fz 3; clear hb9 hb10)
                                refine hK.out _ _ ⟨z0, z1, z2, z3⟩ (fun hS9 => ?_)
                                clear hS7 hK K
                                try simp only [Act.put, List.setIfInBounds_toArray, List.set_cons_zero, List.set_cons_succ, List.getElem_toArray, List.getElem_cons_zero, List.getElem_cons_succ]
                                refine wpAnyH_take (i := 17) (v := ?_) rfl (by as_aux_lemma => kernel_rfl) (by as_aux_lemma => kernel_rfl) (by as_aux_lemma => kernel_rfl) (fun _ _ _ h => h) (Or.inl ⟨by rfl, ?_⟩) (by assumption) ?_
                                rotate_left
                                · (intro w hSw; (try dsimp only at hSw); go_simp) <;> with_reducible rfl
                                try simp only [Act.put, List.setIfInBounds_toArray, List.set_cons_zero, List.set_cons_succ, List.getElem_toArray, List.getElem_cons_zero, List.getElem_cons_succ]
                                refine wpAnyH_take (i := 18) (v := ?_) rfl (by as_aux_lemma => kernel_rfl) (by as_aux_lemma => kernel_rfl) (by as_aux_lemma => kernel_rfl) (fun _ _ _ h => h) (Or.inl ⟨by rfl, ?_⟩) (by assumption) ?_
                                rotate_left
                                · (intro w hSw; (try dsimp only at hSw); go_simp) <;> with_reducible rfl
                                try simp only [Act.put, List.setIfInBounds_toArray, List.set_cons_zero, List.set_cons_succ, List.getElem_toArray, List.getElem_cons_zero, List.getElem_cons_succ]
                                refine wpAnyH_take (i := 19) (v := ?_) rfl (by as_aux_lemma => kernel_rfl) (by as_aux_lemma => kernel_rfl) (by as_aux_lemma => kernel_rfl) (fun _ _ _ h => h) (Or.inl ⟨by rfl, ?_⟩) (by assumption) ?_
                                rotate_left
                                · (intro w hSw; (try dsimp only at hSw); go_simp) <;> with_reducible rfl
                                try simp only [Act.put, List.setIfInBounds_toArray, List.set_cons_zero, List.set_cons_succ, List.getElem_toArray, List.getElem_cons_zero, List.getElem_cons_succ]
                                refine wpAnyH_take (i := 20) (v := ?_) rfl (by as_aux_lemma => kernel_rfl) (by as_aux_lemma => kernel_rfl) (by as_aux_lemma => kernel_rfl) (fun _ _ _ h => h) (Or.inl ⟨by rfl, ?_⟩) (by assumption) ?_
                                rotate_left
                                · (intro w hSw; (try dsimp only at hSw); go_simp) <;> with_reducible rfl
                                try simp only [Act.put, List.setIfInBounds_toArray, List.set_cons_zero, List.set_cons_succ, List.getElem_toArray, List.getElem_cons_zero, List.getElem_cons_succ]
                                refine wpAnyH_take (i := 21) (v := ?_) rfl (by as_aux_lemma => kernel_rfl) (by as_aux_lemma => kernel_rfl) (by as_aux_lemma => kernel_rfl) (fun _ _ _ h => h) (Or.inl ⟨by rfl, ?_⟩) (by assumption) ?_
                                rotate_left
                                · (intro w hSw; (try dsimp only at hSw); go_simp) <;> with_reducible rfl
                                try simp only [Act.put, List.setIfInBounds_toArray, List.set_cons_zero, List.set_cons_succ, List.getElem_toArray, List.getElem_cons_zero, List.getElem_cons_succ]
                                refine wpAnyH_take (i := 22) (v := ?_) rfl (by as_aux_lemma => kernel_rfl) (by as_aux_lemma => kernel_rfl) (by as_aux_lemma => kernel_rfl) (fun _ _ _ h => h) (Or.inl ⟨by rfl, ?_⟩) (by assumption) ?_
                                rotate_left
                                · (intro w hSw; (try dsimp only at hSw); go_simp) <;> with_reducible rfl
                                try simp only [Act.put, List.setIfInBounds_toArray, List.set_cons_zero, List.set_cons_succ, List.getElem_toArray, List.getElem_cons_zero, List.getElem_cons_succ]
                                refine wpAnyH_take (i := 23) (v := undef) rfl (by as_aux_lemma => kernel_rfl) (by as_aux_lemma => kernel_rfl) (by as_aux_lemma => kernel_rfl) (fun _ _ _ h => h) (Or.inr ⟨by rfl, rfl⟩) (by assumption) ?_
                                try simp only [Act.put, List.setIfInBounds_toArray, List.set_cons_zero, List.set_cons_succ, List.getElem_toArray, List.getElem_cons_zero, List.getElem_cons_succ]
                                refine wpAnyH_take (i := 24) (v := undef) rfl (by as_aux_lemma => kernel_rfl) (by as_aux_lemma => kernel_rfl) (by as_aux_lemma => kernel_rfl) (fun _ _ _ h => h) (Or.inr ⟨by rfl, rfl⟩) (by assumption) ?_
                                try simp only [Act.put, List.setIfInBounds_toArray, List.set_cons_zero, List.set_cons_succ, List.getElem_toArray, List.getElem_cons_zero, List.getElem_cons_succ]
                                refine wpAnyH_take (i := 25) (v := undef) rfl (by as_aux_lemma => kernel_rfl) (by as_aux_lemma => kernel_rfl) (by as_aux_lemma => kernel_rfl) (fun _ _ _ h => h) (Or.inr ⟨by rfl, rfl⟩) (by assumption) ?_
                                try simp only [Act.put, List.setIfInBounds_toArray, List.set_cons_zero, List.set_cons_succ, List.getElem_toArray, List.getElem_cons_zero, List.getElem_cons_succ]
                                refine wpAnyH_take (i := 26) (v := undef) rfl (by as_aux_lemma => kernel_rfl) (by as_aux_lemma => kernel_rfl) (by as_aux_lemma => kernel_rfl) (fun _ _ _ h => h) (Or.inr ⟨by rfl, rfl⟩) (by assumption) ?_
                                try simp only [Act.put, List.setIfInBounds_toArray, List.set_cons_zero, List.set_cons_succ, List.getElem_toArray, List.getElem_cons_zero, List.getElem_cons_succ]
                                refine wpAnyH_take (i := 27) (v := undef) rfl (by as_aux_lemma => kernel_rfl) (by as_aux_lemma => kernel_rfl) (by as_aux_lemma => kernel_rfl) (fun _ _ _ h => h) (Or.inr ⟨by rfl, rfl⟩) (by assumption) ?_
                                try simp only [Act.put, List.setIfInBounds_toArray, List.set_cons_zero, List.set_cons_succ, List.getElem_toArray, List.getElem_cons_zero, List.getElem_cons_succ]
                                refine wpAnyH_take (i := 28) (v := undef) rfl (by as_aux_lemma => kernel_rfl) (by as_aux_lemma => kernel_rfl) (by as_aux_lemma => kernel_rfl) (fun _ _ _ h => h) (Or.inr ⟨by rfl, rfl⟩) (by assumption) ?_
                                try simp only [Act.put, List.setIfInBounds_toArray, List.set_cons_zero, List.set_cons_succ, List.getElem_toArray, List.getElem_cons_zero, List.getElem_cons_succ]
                                refine wpAnyH_take (i := 29) (v := undef) rfl (by as_aux_lemma => kernel_rfl) (by as_aux_lemma => kernel_rfl) (by as_aux_lemma => kernel_rfl) (fun _ _ _ h => h) (Or.inr ⟨by rfl, rfl⟩) (by assumption) ?_
                                try simp only [Act.put, List.setIfInBounds_toArray, List.set_cons_zero, List.set_cons_succ, List.getElem_toArray, List.getElem_cons_zero, List.getElem_cons_succ]
                                refine wpAnyH_take (i := 30) (v := undef) rfl (by as_aux_lemma => kernel_rfl) (by as_aux_lemma => kernel_rfl) (by as_aux_lemma => kernel_rfl) (fun _ _ _ h => h) (Or.inr ⟨by rfl, rfl⟩) (by assumption) ?_
                                try simp only [Act.put, List.setIfInBounds_toArray, List.set_cons_zero, List.set_cons_succ, List.getElem_toArray, List.getElem_cons_zero, List.getElem_cons_succ]
                                refine wpAnyH_take (i := 31) (v := ?_) rfl (by as_aux_lemma => kernel_rfl) (by as_aux_lemma => kernel_rfl) (by as_aux_lemma => kernel_rfl) (fun _ _ _ h => h) (Or.inl ⟨by rfl, ?_⟩) (by assumption) ?_
                                rotate_left
                                · (intro w hSw; (try dsimp only at hSw); go_simp) <;> with_reducible rfl
                                try simp only [Act.put, List.setIfInBounds_toArray, List.set_cons_zero, List.set_cons_succ, List.getElem_toArray, List.getElem_cons_zero, List.getElem_cons_succ]
                                refine wpAnyH_take (i := 32) (v := ?_) rfl (by as_aux_lemma => kernel_rfl) (by as_aux_lemma => kernel_rfl) (by as_aux_lemma => kernel_rfl) (fun _ _ _ h => h) (Or.inl ⟨by rfl, ?_⟩) (by assumption) ?_
                                rotate_left
                                · (intro w hSw; (try dsimp only at hSw); go_simp) <;> with_reducible rfl
                                try simp only [Act.put, List.setIfInBounds_toArray, List.set_cons_zero, List.set_cons_succ, List.getElem_toArray, List.getElem_cons_zero, List.getElem_cons_succ]
                                refine wpAnyH_done (by kernel_rfl) ?_ _
                                clear hS9
                                all_goals
                                  go_wp2_with fail
                                  go_roundw
                                  case rel => exact ⟨n + 1, by omega, by go_num, ⟨by rw [HC1.out, HC.out]; exact (HRX.out.below HB10.out).setC cn, (HPX.out.below HB10.out).keep (Below.heap_setCell _ _ _ _ (by show P ≠ RB; have h1 := HPW.out; have h2 := HRB.out; omega)), (HBX.out.trans (HB10.out.mono HBX.out.size)).setCell (p := ⟨RB, 3, none⟩) (by exact HRB.out) _⟩⟩
                                  case measure => simp [intOf]; omega
                            · have hd2 : decide (c0 < 0) = false := decide_eq_false h1
                              by_cases h2 : cn < c0
                              · have hd3 : decide (cn < c0) = true := decide_eq_true h2
                                have HC := Go.Lib.hid (show c1 = cn by rw [HCN.out, HOK.out, if_pos ⟨by simp [hns, hcn, hin], .inr h2⟩])
                                rw [hin] at HHN
                                clear hin hns
                                as_aux_lemma =>
                                  go_wp2_with fail
                                  refine wp_region_held_drew (S := fun w' => w'.cell? ⟨P, 0, none⟩ = some (.int .i64 a) ∧ w'.cell? ⟨P, 1, none⟩ = some (.int .i64 b) ∧ w'.cell? ⟨RB, 3, none⟩ = some (.int .i64 c0) ∧ w'.cell? ⟨bw, offw + n * 2, none⟩ = some (.int .i64 cn)) (by kernel_rfl) ?_ (fun hHeld => ?_)
                                  · exact ⟨p0, p1, x3, f1⟩
                                  refine wpAnyH_take (i := 0) (v := ?_) rfl (by as_aux_lemma => kernel_rfl) (by as_aux_lemma => kernel_rfl) (by as_aux_lemma => kernel_rfl) (fun _ _ _ h => h) (Or.inl ⟨by rfl, ?_⟩) (by assumption) ?_
                                  rotate_left
                                  · (intro w hSw; (try dsimp only at hSw); go_simp) <;> with_reducible rfl
                                  try simp only [Act.put, List.setIfInBounds_toArray, List.set_cons_zero, List.set_cons_succ, List.getElem_toArray, List.getElem_cons_zero, List.getElem_cons_succ]
                                  refine wpAnyH_take (i := 1) (v := ?_) rfl (by as_aux_lemma => kernel_rfl) (by as_aux_lemma => kernel_rfl) (by as_aux_lemma => kernel_rfl) (fun _ _ _ h => h) (Or.inl ⟨by rfl, ?_⟩) (by assumption) ?_
                                  rotate_left
                                  · (intro w hSw; (try dsimp only at hSw); go_simp) <;> with_reducible rfl
                                  try simp only [Act.put, List.setIfInBounds_toArray, List.set_cons_zero, List.set_cons_succ, List.getElem_toArray, List.getElem_cons_zero, List.getElem_cons_succ]
                                  refine wpAnyH_take (i := 2) (v := ?_) rfl (by as_aux_lemma => kernel_rfl) (by as_aux_lemma => kernel_rfl) (by as_aux_lemma => kernel_rfl) (fun _ _ _ h => h) (Or.inl ⟨by rfl, ?_⟩) (by assumption) ?_
                                  rotate_left
                                  · (intro w hSw; (try dsimp only at hSw); go_simp) <;> with_reducible rfl
                                  try simp only [Act.put, List.setIfInBounds_toArray, List.set_cons_zero, List.set_cons_succ, List.getElem_toArray, List.getElem_cons_zero, List.getElem_cons_succ]
                                  refine wpAnyH_take (i := 3) (v := ?_) rfl (by as_aux_lemma => kernel_rfl) (by as_aux_lemma => kernel_rfl) (by as_aux_lemma => kernel_rfl) (fun _ _ _ h => h) (Or.inl ⟨by rfl, ?_⟩) (by assumption) ?_
                                  rotate_left
                                  · (intro w hSw; (try dsimp only at hSw); go_simp) <;> with_reducible rfl
                                  try simp only [Act.put, List.setIfInBounds_toArray, List.set_cons_zero, List.set_cons_succ, List.getElem_toArray, List.getElem_cons_zero, List.getElem_cons_succ]
                                  refine wpAnyH_take (i := 4) (v := ?_) rfl (by as_aux_lemma => kernel_rfl) (by as_aux_lemma => kernel_rfl) (by as_aux_lemma => kernel_rfl) (fun _ _ _ h => h) (Or.inl ⟨by rfl, ?_⟩) (by assumption) ?_
                                  rotate_left
                                  · (intro w hSw; (try dsimp only at hSw); go_simp) <;> with_reducible rfl
                                  try simp only [Act.put, List.setIfInBounds_toArray, List.set_cons_zero, List.set_cons_succ, List.getElem_toArray, List.getElem_cons_zero, List.getElem_cons_succ]
                                  refine wpAnyH_take (i := 5) (v := ?_) rfl (by as_aux_lemma => kernel_rfl) (by as_aux_lemma => kernel_rfl) (by as_aux_lemma => kernel_rfl) (fun _ _ _ h => h) (Or.inl ⟨by rfl, ?_⟩) (by assumption) ?_
                                  rotate_left
                                  · (intro w hSw; (try dsimp only at hSw); go_simp) <;> with_reducible rfl
                                  try simp only [Act.put, List.setIfInBounds_toArray, List.set_cons_zero, List.set_cons_succ, List.getElem_toArray, List.getElem_cons_zero, List.getElem_cons_succ]
                                  refine wpAnyH_take (i := 6) (v := ?_) rfl (by as_aux_lemma => kernel_rfl) (by as_aux_lemma => kernel_rfl) (by as_aux_lemma => kernel_rfl) (fun _ _ _ h => h) (Or.inl ⟨by rfl, ?_⟩) (by assumption) ?_
                                  rotate_left
                                  · (intro w hSw; (try dsimp only at hSw); go_simp) <;> with_reducible rfl
                                  try simp only [Act.put, List.setIfInBounds_toArray, List.set_cons_zero, List.set_cons_succ, List.getElem_toArray, List.getElem_cons_zero, List.getElem_cons_succ]
                                  refine wpAnyH_take (i := 7) (v := ?_) rfl (by as_aux_lemma => kernel_rfl) (by as_aux_lemma => kernel_rfl) (by as_aux_lemma => kernel_rfl) (fun _ _ _ h => h) (Or.inl ⟨by rfl, ?_⟩) (by assumption) ?_
                                  rotate_left
                                  · (intro w hSw; (try dsimp only at hSw); go_simp) <;> with_reducible rfl
                                  try simp only [Act.put, List.setIfInBounds_toArray, List.set_cons_zero, List.set_cons_succ, List.getElem_toArray, List.getElem_cons_zero, List.getElem_cons_succ]
                                  refine wpAnyH_take (i := 8) (v := ?_) rfl (by as_aux_lemma => kernel_rfl) (by as_aux_lemma => kernel_rfl) (by as_aux_lemma => kernel_rfl) (fun _ _ _ h => h) (Or.inl ⟨by rfl, ?_⟩) (by assumption) ?_
                                  rotate_left
                                  · (intro w hSw; (try dsimp only at hSw); go_simp) <;> with_reducible rfl
                                  try simp only [Act.put, List.setIfInBounds_toArray, List.set_cons_zero, List.set_cons_succ, List.getElem_toArray, List.getElem_cons_zero, List.getElem_cons_succ]
                                  refine wpAnyH_take (i := 9) (v := ?_) rfl (by as_aux_lemma => kernel_rfl) (by as_aux_lemma => kernel_rfl) (by as_aux_lemma => kernel_rfl) (fun _ _ _ h => h) (Or.inl ⟨by rfl, ?_⟩) (by assumption) ?_
                                  rotate_left
                                  · (intro w hSw; (try dsimp only at hSw); go_simp) <;> with_reducible rfl
                                  try simp only [Act.put, List.setIfInBounds_toArray, List.set_cons_zero, List.set_cons_succ, List.getElem_toArray, List.getElem_cons_zero, List.getElem_cons_succ]
                                  refine wpAnyH_take (i := 10) (v := ?_) rfl (by as_aux_lemma => kernel_rfl) (by as_aux_lemma => kernel_rfl) (by as_aux_lemma => kernel_rfl) (fun _ _ _ h => h) (Or.inl ⟨by rfl, ?_⟩) (by assumption) ?_
                                  rotate_left
                                  · (intro w hSw; (try dsimp only at hSw); go_simp) <;> with_reducible rfl
                                  try simp only [Act.put, List.setIfInBounds_toArray, List.set_cons_zero, List.set_cons_succ, List.getElem_toArray, List.getElem_cons_zero, List.getElem_cons_succ]
                                  refine wpAnyH_take (i := 11) (v := ?_) rfl (by as_aux_lemma => kernel_rfl) (by as_aux_lemma => kernel_rfl) (by as_aux_lemma => kernel_rfl) (fun _ _ _ h => h) (Or.inl ⟨by rfl, ?_⟩) (by assumption) ?_
                                  rotate_left
                                  · (intro w hSw; (try dsimp only at hSw); go_simp) <;> with_reducible rfl
                                  try simp only [Act.put, List.setIfInBounds_toArray, List.set_cons_zero, List.set_cons_succ, List.getElem_toArray, List.getElem_cons_zero, List.getElem_cons_succ]
                                  refine wpAnyH_take (i := 12) (v := ?_) rfl (by as_aux_lemma => kernel_rfl) (by as_aux_lemma => kernel_rfl) (by as_aux_lemma => kernel_rfl) (fun _ _ _ h => h) (Or.inl ⟨by rfl, ?_⟩) (by assumption) ?_
                                  rotate_left
                                  · (intro w hSw; (try dsimp only at hSw); go_simp) <;> with_reducible rfl
                                  try simp only [Act.put, List.setIfInBounds_toArray, List.set_cons_zero, List.set_cons_succ, List.getElem_toArray, List.getElem_cons_zero, List.getElem_cons_succ]
                                  refine wpAnyH_take (i := 13) (v := ?_) rfl (by as_aux_lemma => kernel_rfl) (by as_aux_lemma => kernel_rfl) (by as_aux_lemma => kernel_rfl) (fun _ _ _ h => h) (Or.inl ⟨by rfl, ?_⟩) (by assumption) ?_
                                  rotate_left
                                  · (intro w hSw; (try dsimp only at hSw); go_simp) <;> with_reducible rfl
                                  try simp only [Act.put, List.setIfInBounds_toArray, List.set_cons_zero, List.set_cons_succ, List.getElem_toArray, List.getElem_cons_zero, List.getElem_cons_succ]
                                  refine wpAnyH_take (i := 15) (v := ?_) rfl (by as_aux_lemma => kernel_rfl) (by as_aux_lemma => kernel_rfl) (by as_aux_lemma => kernel_rfl) (fun _ _ _ h => h) (Or.inl ⟨by rfl, ?_⟩) (by assumption) ?_
                                  rotate_left
                                  · (intro w hSw; (try dsimp only at hSw); go_simp) <;> with_reducible rfl
                                  try simp only [Act.put, List.setIfInBounds_toArray, List.set_cons_zero, List.set_cons_succ, List.getElem_toArray, List.getElem_cons_zero, List.getElem_cons_succ]
                                  refine wpAnyH_ready (rs := [14]) (by kernel_rfl) (by simp) ?_
                                  refine AllReadyH.cons rfl (fun K hK => ?_) AllReadyH.nil
                                  go_simp
                                  go_wp2_with (go_at_call 31; refine (HPN.out _ HBN.out.drew).mono ?_; rintro e w7 ⟨⟨v7, rfl, hs7⟩, hb7⟩; obtain ⟨A7, c7, rfl⟩ := hs7.form; have HS7 := Go.Lib.hid hs7; have hb8 := Below.trans ((Below.refl wr.heap.size wr).drew) hb7; have HB8 := Go.Lib.hid hb8; have y0 := cell_keep hb8 HPX.out.c0; have y1 := cell_keep hb8 HPX.out.c1; have y2 := cell_keep hb8 HRX.out.c3; have y3 := cell_keep hb8 HF1.out; clear hs7 hb7 hb8)
                                  refine hK.out _ _ ⟨y0, y1, y2, y3⟩ (fun hS7 => ?_)
                                  clear hHeld hK K
                                  try simp only [Act.put, List.setIfInBounds_toArray, List.set_cons_zero, List.set_cons_succ, List.getElem_toArray, List.getElem_cons_zero, List.getElem_cons_succ]
                                  refine wpAnyH_ready (rs := [16]) (by kernel_rfl) (by simp) ?_
                                  refine AllReadyH.cons rfl (fun K hK => ?_) AllReadyH.nil
                                  go_simp
                                  go_wp2_with (go_at_call 30; refine (HHN.out _ _ HS7.out).mono ?_; rintro e w9 ⟨rfl, hb9⟩; have hb10 := HB8.out.trans (hb9.mono HB8.out.size); have HB10 := Go.Lib.hid hb10; have z0 := cell_keep hb10 HPX.out.c0; have z1 := cell_keep hb10 HPX.out.c1; have z2 := cell_keep hb10 HRX.out.c3; have z3 := cell_keep hb10 HF1.out; have x6 := (HRX.out.below hb10).fz 3; clear hb9 hb10)
                                  refine hK.out _ _ ⟨z0, z1, z2, z3⟩ (fun hS9 => ?_)
                                  clear hS7 hK K
                                  try simp only [Act.put, List.setIfInBounds_toArray, List.set_cons_zero, List.set_cons_succ, List.getElem_toArray, List.getElem_cons_zero, List.getElem_cons_succ]
                                  refine wpAnyH_take (i := 17) (v := ?_) rfl (by as_aux_lemma => kernel_rfl) (by as_aux_lemma => kernel_rfl) (by as_aux_lemma => kernel_rfl) (fun _ _ _ h => h) (Or.inl ⟨by rfl, ?_⟩) (by assumption) ?_
                                  rotate_left
                                  · (intro w hSw; (try dsimp only at hSw); go_simp) <;> with_reducible rfl
                                  try simp only [Act.put, List.setIfInBounds_toArray, List.set_cons_zero, List.set_cons_succ, List.getElem_toArray, List.getElem_cons_zero, List.getElem_cons_succ]
                                  refine wpAnyH_take (i := 18) (v := ?_) rfl (by as_aux_lemma => kernel_rfl) (by as_aux_lemma => kernel_rfl) (by as_aux_lemma => kernel_rfl) (fun _ _ _ h => h) (Or.inl ⟨by rfl, ?_⟩) (by assumption) ?_
                                  rotate_left
                                  · (intro w hSw; (try dsimp only at hSw); go_simp) <;> with_reducible rfl
                                  try simp only [Act.put, List.setIfInBounds_toArray, List.set_cons_zero, List.set_cons_succ, List.getElem_toArray, List.getElem_cons_zero, List.getElem_cons_succ]
                                  refine wpAnyH_take (i := 19) (v := ?_) rfl (by as_aux_lemma => kernel_rfl) (by as_aux_lemma => kernel_rfl) (by as_aux_lemma => kernel_rfl) (fun _ _ _ h => h) (Or.inl ⟨by rfl, ?_⟩) (by assumption) ?_
                                  rotate_left
                                  · (intro w hSw; (try dsimp only at hSw); go_simp) <;> with_reducible rfl
                                  try simp only [Act.put, List.setIfInBounds_toArray, List.set_cons_zero, List.set_cons_succ, List.getElem_toArray, List.getElem_cons_zero, List.getElem_cons_succ]
                                  refine wpAnyH_take (i := 20) (v := ?_) rfl (by as_aux_lemma => kernel_rfl) (by as_aux_lemma => kernel_rfl) (by as_aux_lemma => kernel_rfl) (fun _ _ _ h => h) (Or.inl ⟨by rfl, ?_⟩) (by assumption) ?_
                                  rotate_left
                                  · (intro w hSw; (try dsimp only at hSw); go_simp) <;> with_reducible rfl
                                  try simp only [Act.put, List.setIfInBounds_toArray, List.set_cons_zero, List.set_cons_succ, List.getElem_toArray, List.getElem_cons_zero, List.getElem_cons_succ]
                                  refine wpAnyH_take (i := 21) (v := ?_) rfl (by as_aux_lemma => kernel_rfl) (by as_aux_lemma => kernel_rfl) (by as_aux_lemma => kernel_rfl) (fun _ _ _ h => h) (Or.inl ⟨by rfl, ?_⟩) (by assumption) ?_
                                  rotate_left
                                  · (intro w hSw; (try dsimp only at hSw); go_simp) <;> with_reducible rfl
                                  try simp only [Act.put, List.setIfInBounds_toArray, List.set_cons_zero, List.set_cons_succ, List.getElem_toArray, List.getElem_cons_zero, List.getElem_cons_succ]
                                  refine wpAnyH_take (i := 22) (v := ?_) rfl (by as_aux_lemma => kernel_rfl) (by as_aux_lemma => kernel_rfl) (by as_aux_lemma => kernel_rfl) (fun _ _ _ h => h) (Or.inl ⟨by rfl, ?_⟩) (by assumption) ?_
                                  rotate_left
                                  · (intro w hSw; (try dsimp only at hSw); go_simp) <;> with_reducible rfl
                                  try simp only [Act.put, List.setIfInBounds_toArray, List.set_cons_zero, List.set_cons_succ, List.getElem_toArray, List.getElem_cons_zero, List.getElem_cons_succ]
                                  refine wpAnyH_take (i := 23) (v := ?_) rfl (by as_aux_lemma => kernel_rfl) (by as_aux_lemma => kernel_rfl) (by as_aux_lemma => kernel_rfl) (fun _ _ _ h => h) (Or.inl ⟨by rfl, ?_⟩) (by assumption) ?_
                                  rotate_left
                                  · (intro w hSw; (try dsimp only at hSw); go_simp) <;> with_reducible rfl
                                  try simp only [Act.put, List.setIfInBounds_toArray, List.set_cons_zero, List.set_cons_succ, List.getElem_toArray, List.getElem_cons_zero, List.getElem_cons_succ]
                                  refine wpAnyH_take (i := 24) (v := ?_) rfl (by as_aux_lemma => kernel_rfl) (by as_aux_lemma => kernel_rfl) (by as_aux_lemma => kernel_rfl) (fun _ _ _ h => h) (Or.inl ⟨by rfl, ?_⟩) (by assumption) ?_
                                  rotate_left
                                  · (intro w hSw; (try dsimp only at hSw); go_simp) <;> with_reducible rfl
                                  try simp only [Act.put, List.setIfInBounds_toArray, List.set_cons_zero, List.set_cons_succ, List.getElem_toArray, List.getElem_cons_zero, List.getElem_cons_succ]
                                  refine wpAnyH_take (i := 25) (v := ?_) rfl (by as_aux_lemma => kernel_rfl) (by as_aux_lemma => kernel_rfl) (by as_aux_lemma => kernel_rfl) (fun _ _ _ h => h) (Or.inl ⟨by rfl, ?_⟩) (by assumption) ?_
                                  rotate_left
                                  · (intro w hSw; (try dsimp only at hSw); go_simp) <;> with_reducible rfl
                                  try simp only [Act.put, List.setIfInBounds_toArray, List.set_cons_zero, List.set_cons_succ, List.getElem_toArray, List.getElem_cons_zero, List.getElem_cons_succ]
                                  refine wpAnyH_take (i := 26) (v := ?_) rfl (by as_aux_lemma => kernel_rfl) (by as_aux_lemma => kernel_rfl) (by as_aux_lemma => kernel_rfl) (fun _ _ _ h => h) (Or.inl ⟨by rfl, ?_⟩) (by assumption) ?_
                                  rotate_left
                                  · (intro w hSw; (try dsimp only at hSw); go_simp) <;> with_reducible rfl
                                  try simp only [Act.put, List.setIfInBounds_toArray, List.set_cons_zero, List.set_cons_succ, List.getElem_toArray, List.getElem_cons_zero, List.getElem_cons_succ]
                                  refine wpAnyH_take (i := 27) (v := ?_) rfl (by as_aux_lemma => kernel_rfl) (by as_aux_lemma => kernel_rfl) (by as_aux_lemma => kernel_rfl) (fun _ _ _ h => h) (Or.inl ⟨by rfl, ?_⟩) (by assumption) ?_
                                  rotate_left
                                  · (intro w hSw; (try dsimp only at hSw); go_simp) <;> with_reducible rfl
                                  try simp only [Act.put, List.setIfInBounds_toArray, List.set_cons_zero, List.set_cons_succ, List.getElem_toArray, List.getElem_cons_zero, List.getElem_cons_succ]
                                  refine wpAnyH_take (i := 28) (v := ?_) rfl (by as_aux_lemma => kernel_rfl) (by as_aux_lemma => kernel_rfl) (by as_aux_lemma => kernel_rfl) (fun _ _ _ h => h) (Or.inl ⟨by rfl, ?_⟩) (by assumption) ?_
                                  rotate_left
                                  · (intro w hSw; (try dsimp only at hSw); go_simp) <;> with_reducible rfl
                                  try simp only [Act.put, List.setIfInBounds_toArray, List.set_cons_zero, List.set_cons_succ, List.getElem_toArray, List.getElem_cons_zero, List.getElem_cons_succ]
                                  refine wpAnyH_take (i := 29) (v := ?_) rfl (by as_aux_lemma => kernel_rfl) (by as_aux_lemma => kernel_rfl) (by as_aux_lemma => kernel_rfl) (fun _ _ _ h => h) (Or.inl ⟨by rfl, ?_⟩) (by assumption) ?_
                                  rotate_left
                                  · (intro w hSw; (try dsimp only at hSw); go_simp) <;> with_reducible rfl
                                  try simp only [Act.put, List.setIfInBounds_toArray, List.set_cons_zero, List.set_cons_succ, List.getElem_toArray, List.getElem_cons_zero, List.getElem_cons_succ]
                                  refine wpAnyH_take (i := 30) (v := ?_) rfl (by as_aux_lemma => kernel_rfl) (by as_aux_lemma => kernel_rfl) (by as_aux_lemma => kernel_rfl) (fun _ _ _ h => h) (Or.inl ⟨by rfl, ?_⟩) (by assumption) ?_
                                  rotate_left
                                  · (intro w hSw; (try dsimp only at hSw); go_simp) <;> with_reducible rfl
                                  try simp only [Act.put, List.setIfInBounds_toArray, List.set_cons_zero, List.set_cons_succ, List.getElem_toArray, List.getElem_cons_zero, List.getElem_cons_succ]
                                  refine wpAnyH_take (i := 31) (v := ?_) rfl (by as_aux_lemma => kernel_rfl) (by as_aux_lemma => kernel_rfl) (by as_aux_lemma => kernel_rfl) (fun _ _ _ h => h) (Or.inl ⟨by rfl, ?_⟩) (by assumption) ?_
                                  rotate_left
                                  · (intro w hSw; (try dsimp only at hSw); go_simp) <;> with_reducible rfl
                                  try simp only [Act.put, List.setIfInBounds_toArray, List.set_cons_zero, List.set_cons_succ, List.getElem_toArray, List.getElem_cons_zero, List.getElem_cons_succ]
                                  refine wpAnyH_take (i := 32) (v := ?_) rfl (by as_aux_lemma => kernel_rfl) (by as_aux_lemma => kernel_rfl) (by as_aux_lemma => kernel_rfl) (fun _ _ _ h => h) (Or.inl ⟨by rfl, ?_⟩) (by assumption) ?_
                                  rotate_left
                                  · (intro w hSw; (try dsimp only at hSw); go_simp) <;> with_reducible rfl
                                  try simp only [Act.put, List.setIfInBounds_toArray, List.set_cons_zero, List.set_cons_succ, List.getElem_toArray, List.getElem_cons_zero, List.getElem_cons_succ]
                                  refine wpAnyH_done (by kernel_rfl) ?_ _
                                  clear hS9
                                  all_goals
                                    go_wp2_with fail
                                    go_roundw
                                    case rel => exact ⟨n + 1, by omega, by go_num, ⟨by rw [HC1.out, HC.out]; exact (HRX.out.below HB10.out).setC cn, (HPX.out.below HB10.out).keep (Below.heap_setCell _ _ _ _ (by show P ≠ RB; have h1 := HPW.out; have h2 := HRB.out; omega)), (HBX.out.trans (HB10.out.mono HBX.out.size)).setCell (p := ⟨RB, 3, none⟩) (by exact HRB.out) _⟩⟩
                                    case measure => simp [intOf]; omega
                              · have hd3 : decide (cn < c0) = false := decide_eq_false h2
                                have HC := Go.Lib.hid (show c1 = c0 by rw [HCN.out, if_neg (by rintro ⟨_, h | h⟩ <;> contradiction)])
                                rw [hin] at HHN
                                clear hin hns
                                as_aux_lemma =>
                                  go_wp2_with fail
                                  refine wp_region_held_drew (S := fun w' => w'.cell? ⟨P, 0, none⟩ = some (.int .i64 a) ∧ w'.cell? ⟨P, 1, none⟩ = some (.int .i64 b) ∧ w'.cell? ⟨RB, 3, none⟩ = some (.int .i64 c0) ∧ w'.cell? ⟨bw, offw + n * 2, none⟩ = some (.int .i64 cn)) (by kernel_rfl) ?_ (fun hHeld => ?_)
                                  · exact ⟨p0, p1, x3, f1⟩
                                  refine wpAnyH_take (i := 0) (v := ?_) rfl (by as_aux_lemma => kernel_rfl) (by as_aux_lemma => kernel_rfl) (by as_aux_lemma => kernel_rfl) (fun _ _ _ h => h) (Or.inl ⟨by rfl, ?_⟩) (by assumption) ?_
                                  rotate_left
                                  · (intro w hSw; (try dsimp only at hSw); go_simp) <;> with_reducible rfl
                                  try simp only [Act.put, List.setIfInBounds_toArray, List.set_cons_zero, List.set_cons_succ, List.getElem_toArray, List.getElem_cons_zero, List.getElem_cons_succ]
                                  refine wpAnyH_take (i := 1) (v := ?_) rfl (by as_aux_lemma => kernel_rfl) (by as_aux_lemma => kernel_rfl) (by as_aux_lemma => kernel_rfl) (fun _ _ _ h => h) (Or.inl ⟨by rfl, ?_⟩) (by assumption) ?_
                                  rotate_left
                                  · (intro w hSw; (try dsimp only at hSw); go_simp) <;> with_reducible rfl
                                  try simp only [Act.put, List.setIfInBounds_toArray, List.set_cons_zero, List.set_cons_succ, List.getElem_toArray, List.getElem_cons_zero, List.getElem_cons_succ]
                                  refine wpAnyH_take (i := 2) (v := ?_) rfl (by as_aux_lemma => kernel_rfl) (by as_aux_lemma => kernel_rfl) (by as_aux_lemma => kernel_rfl) (fun _ _ _ h => h) (Or.inl ⟨by rfl, ?_⟩) (by assumption) ?_
                                  rotate_left
                                  · (intro w hSw; (try dsimp only at hSw); go_simp) <;> with_reducible rfl
                                  try simp only [Act.put, List.setIfInBounds_toArray, List.set_cons_zero, List.set_cons_succ, List.getElem_toArray, List.getElem_cons_zero, List.getElem_cons_succ]
                                  refine wpAnyH_take (i := 3) (v := ?_) rfl (by as_aux_lemma => kernel_rfl) (by as_aux_lemma => kernel_rfl) (by as_aux_lemma => kernel_rfl) (fun _ _ _ h => h) (Or.inl ⟨by rfl, ?_⟩) (by assumption) ?_
                                  rotate_left
                                  · (intro w hSw; (try dsimp only at hSw); go_simp) <;> with_reducible rfl
                                  try simp only [Act.put, List.setIfInBounds_toArray, List.set_cons_zero, List.set_cons_succ, List.getElem_toArray, List.getElem_cons_zero, List.getElem_cons_succ]
                                  refine wpAnyH_take (i := 4) (v := ?_) rfl (by as_aux_lemma => kernel_rfl) (by as_aux_lemma => kernel_rfl) (by as_aux_lemma => kernel_rfl) (fun _ _ _ h => h) (Or.inl ⟨by rfl, ?_⟩) (by assumption) ?_
                                  rotate_left
                                  · (intro w hSw; (try dsimp only at hSw); go_simp) <;> with_reducible rfl
                                  try simp only [Act.put, List.setIfInBounds_toArray, List.set_cons_zero, List.set_cons_succ, List.getElem_toArray, List.getElem_cons_zero, List.getElem_cons_succ]
                                  refine wpAnyH_take (i := 5) (v := ?_) rfl (by as_aux_lemma => kernel_rfl) (by as_aux_lemma => kernel_rfl) (by as_aux_lemma => kernel_rfl) (fun _ _ _ h => h) (Or.inl ⟨by rfl, ?_⟩) (by assumption) ?_
                                  rotate_left
                                  · (intro w hSw; (try dsimp only at hSw); go_simp) <;> with_reducible rfl
                                  try simp only [Act.put, List.setIfInBounds_toArray, List.set_cons_zero, List.set_cons_succ, List.getElem_toArray, List.getElem_cons_zero, List.getElem_cons_succ]
                                  refine wpAnyH_take (i := 6) (v := ?_) rfl (by as_aux_lemma => kernel_rfl) (by as_aux_lemma => kernel_rfl) (by as_aux_lemma => kernel_rfl) (fun _ _ _ h => h) (Or.inl ⟨by rfl, ?_⟩) (by assumption) ?_
                                  rotate_left
                                  · (intro w hSw; (try dsimp only at hSw); go_simp) <;> with_reducible rfl
                                  try simp only [Act.put, List.setIfInBounds_toArray, List.set_cons_zero, List.set_cons_succ, List.getElem_toArray, List.getElem_cons_zero, List.getElem_cons_succ]
                                  refine wpAnyH_take (i := 7) (v := ?_) rfl (by as_aux_lemma => kernel_rfl) (by as_aux_lemma => kernel_rfl) (by as_aux_lemma => kernel_rfl) (fun _ _ _ h => h) (Or.inl ⟨by rfl, ?_⟩) (by assumption) ?_
                                  rotate_left
                                  · (intro w hSw; (try dsimp only at hSw); go_simp) <;> with_reducible rfl
                                  try simp only [Act.put, List.setIfInBounds_toArray, List.set_cons_zero, List.set_cons_succ, List.getElem_toArray, List.getElem_cons_zero, List.getElem_cons_succ]
                                  refine wpAnyH_take (i := 8) (v := ?_) rfl (by as_aux_lemma => kernel_rfl) (by as_aux_lemma => kernel_rfl) (by as_aux_lemma => kernel_rfl) (fun _ _ _ h => h) (Or.inl ⟨by rfl, ?_⟩) (by assumption) ?_
                                  rotate_left
                                  · (intro w hSw; (try dsimp only at hSw); go_simp) <;> with_reducible rfl
                                  try simp only [Act.put, List.setIfInBounds_toArray, List.set_cons_zero, List.set_cons_succ, List.getElem_toArray, List.getElem_cons_zero, List.getElem_cons_succ]
                                  refine wpAnyH_take (i := 9) (v := ?_) rfl (by as_aux_lemma => kernel_rfl) (by as_aux_lemma => kernel_rfl) (by as_aux_lemma => kernel_rfl) (fun _ _ _ h => h) (Or.inl ⟨by rfl, ?_⟩) (by assumption) ?_
                                  rotate_left
                                  · (intro w hSw; (try dsimp only at hSw); go_simp) <;> with_reducible rfl
                                  try simp only [Act.put, List.setIfInBounds_toArray, List.set_cons_zero, List.set_cons_succ, List.getElem_toArray, List.getElem_cons_zero, List.getElem_cons_succ]
                                  refine wpAnyH_take (i := 10) (v := ?_) rfl (by as_aux_lemma => kernel_rfl) (by as_aux_lemma => kernel_rfl) (by as_aux_lemma => kernel_rfl) (fun _ _ _ h => h) (Or.inl ⟨by rfl, ?_⟩) (by assumption) ?_
                                  rotate_left
                                  · (intro w hSw; (try dsimp only at hSw); go_simp) <;> with_reducible rfl
                                  try simp only [Act.put, List.setIfInBounds_toArray, List.set_cons_zero, List.set_cons_succ, List.getElem_toArray, List.getElem_cons_zero, List.getElem_cons_succ]
                                  refine wpAnyH_take (i := 11) (v := ?_) rfl (by as_aux_lemma => kernel_rfl) (by as_aux_lemma => kernel_rfl) (by as_aux_lemma => kernel_rfl) (fun _ _ _ h => h) (Or.inl ⟨by rfl, ?_⟩) (by assumption) ?_
                                  rotate_left
                                  · (intro w hSw; (try dsimp only at hSw); go_simp) <;> with_reducible rfl
                                  try simp only [Act.put, List.setIfInBounds_toArray, List.set_cons_zero, List.set_cons_succ, List.getElem_toArray, List.getElem_cons_zero, List.getElem_cons_succ]
                                  refine wpAnyH_take (i := 12) (v := ?_) rfl (by as_aux_lemma => kernel_rfl) (by as_aux_lemma => kernel_rfl) (by as_aux_lemma => kernel_rfl) (fun _ _ _ h => h) (Or.inl ⟨by rfl, ?_⟩) (by assumption) ?_
                                  rotate_left
                                  · (intro w hSw; (try dsimp only at hSw); go_simp) <;> with_reducible rfl
                                  try simp only [Act.put, List.setIfInBounds_toArray, List.set_cons_zero, List.set_cons_succ, List.getElem_toArray, List.getElem_cons_zero, List.getElem_cons_succ]
                                  refine wpAnyH_take (i := 13) (v := ?_) rfl (by as_aux_lemma => kernel_rfl) (by as_aux_lemma => kernel_rfl) (by as_aux_lemma => kernel_rfl) (fun _ _ _ h => h) (Or.inl ⟨by rfl, ?_⟩) (by assumption) ?_
                                  rotate_left
                                  · (intro w hSw; (try dsimp only at hSw); go_simp) <;> with_reducible rfl
                                  try simp only [Act.put, List.setIfInBounds_toArray, List.set_cons_zero, List.set_cons_succ, List.getElem_toArray, List.getElem_cons_zero, List.getElem_cons_succ]
                                  refine wpAnyH_take (i := 15) (v := ?_) rfl (by as_aux_lemma => kernel_rfl) (by as_aux_lemma => kernel_rfl) (by as_aux_lemma => kernel_rfl) (fun _ _ _ h => h) (Or.inl ⟨by rfl, ?_⟩) (by assumption) ?_
                                  rotate_left
                                  · (intro w hSw; (try dsimp only at hSw); go_simp) <;> with_reducible rfl
                                  try simp only [Act.put, List.setIfInBounds_toArray, List.set_cons_zero, List.set_cons_succ, List.getElem_toArray, List.getElem_cons_zero, List.getElem_cons_succ]
                                  refine wpAnyH_ready (rs := [14]) (by kernel_rfl) (by simp) ?_
                                  refine AllReadyH.cons rfl (fun K hK => ?_) AllReadyH.nil
                                  go_simp
                                  go_wp2_with (go_at_call 31; refine (HPN.out _ HBN.out.drew).mono ?_; rintro e w7 ⟨⟨v7, rfl, hs7⟩, hb7⟩; obtain ⟨A7, c7, rfl⟩ := hs7.form; have HS7 := Go.Lib.hid hs7; have hb8 := Below.trans ((Below.refl wr.heap.size wr).drew) hb7; have HB8 := Go.Lib.hid hb8; have y0 := cell_keep hb8 HPX.out.c0; have y1 := cell_keep hb8 HPX.out.c1; have y2 := cell_keep hb8 HRX.out.c3; have y3 := cell_keep hb8 HF1.out; clear hs7 hb7 hb8)
                                  refine hK.out _ _ ⟨y0, y1, y2, y3⟩ (fun hS7 => ?_)
                                  clear hHeld hK K
                                  try simp only [Act.put, List.setIfInBounds_toArray, List.set_cons_zero, List.set_cons_succ, List.getElem_toArray, List.getElem_cons_zero, List.getElem_cons_succ]
                                  refine wpAnyH_ready (rs := [16]) (by kernel_rfl) (by simp) ?_
                                  refine AllReadyH.cons rfl (fun K hK => ?_) AllReadyH.nil
                                  go_simp
                                  go_wp2_with (go_at_call 30; refine (HHN.out _ _ HS7.out).mono ?_; rintro e w9 ⟨rfl, hb9⟩; have hb10 := HB8.out.trans (hb9.mono HB8.out.size); have HB10 := Go.Lib.hid hb10; have z0 := cell_keep hb10 HPX.out.c0; have z1 := cell_keep hb10 HPX.out.c1; have z2 := cell_keep hb10 HRX.out.c3; have z3 := cell_keep hb10 HF1.out; have x6 := (HRX.out.below hb10).fz 3; clear hb9 hb10)
                                  refine hK.out _ _ ⟨z0, z1, z2, z3⟩ (fun hS9 => ?_)
                                  clear hS7 hK K
                                  try simp only [Act.put, List.setIfInBounds_toArray, List.set_cons_zero, List.set_cons_succ, List.getElem_toArray, List.getElem_cons_zero, List.getElem_cons_succ]
                                  refine wpAnyH_take (i := 17) (v := ?_) rfl (by as_aux_lemma => kernel_rfl) (by as_aux_lemma => kernel_rfl) (by as_aux_lemma => kernel_rfl) (fun _ _ _ h => h) (Or.inl ⟨by rfl, ?_⟩) (by assumption) ?_
                                  rotate_left
                                  · (intro w hSw; (try dsimp only at hSw); go_simp) <;> with_reducible rfl
                                  try simp only [Act.put, List.setIfInBounds_toArray, List.set_cons_zero, List.set_cons_succ, List.getElem_toArray, List.getElem_cons_zero, List.getElem_cons_succ]
                                  refine wpAnyH_take (i := 18) (v := ?_) rfl (by as_aux_lemma => kernel_rfl) (by as_aux_lemma => kernel_rfl) (by as_aux_lemma => kernel_rfl) (fun _ _ _ h => h) (Or.inl ⟨by rfl, ?_⟩) (by assumption) ?_
                                  rotate_left
                                  · (intro w hSw; (try dsimp only at hSw); go_simp) <;> with_reducible rfl
                                  try simp only [Act.put, List.setIfInBounds_toArray, List.set_cons_zero, List.set_cons_succ, List.getElem_toArray, List.getElem_cons_zero, List.getElem_cons_succ]
                                  refine wpAnyH_take (i := 19) (v := ?_) rfl (by as_aux_lemma => kernel_rfl) (by as_aux_lemma => kernel_rfl) (by as_aux_lemma => kernel_rfl) (fun _ _ _ h => h) (Or.inl ⟨by rfl, ?_⟩) (by assumption) ?_
                                  rotate_left
                                  · (intro w hSw; (try dsimp only at hSw); go_simp) <;> with_reducible rfl
                                  try simp only [Act.put, List.setIfInBounds_toArray, List.set_cons_zero, List.set_cons_succ, List.getElem_toArray, List.getElem_cons_zero, List.getElem_cons_succ]
                                  refine wpAnyH_take (i := 20) (v := ?_) rfl (by as_aux_lemma => kernel_rfl) (by as_aux_lemma => kernel_rfl) (by as_aux_lemma => kernel_rfl) (fun _ _ _ h => h) (Or.inl ⟨by rfl, ?_⟩) (by assumption) ?_
                                  rotate_left
                                  · (intro w hSw; (try dsimp only at hSw); go_simp) <;> with_reducible rfl
                                  try simp only [Act.put, List.setIfInBounds_toArray, List.set_cons_zero, List.set_cons_succ, List.getElem_toArray, List.getElem_cons_zero, List.getElem_cons_succ]
                                  refine wpAnyH_take (i := 21) (v := ?_) rfl (by as_aux_lemma => kernel_rfl) (by as_aux_lemma => kernel_rfl) (by as_aux_lemma => kernel_rfl) (fun _ _ _ h => h) (Or.inl ⟨by rfl, ?_⟩) (by assumption) ?_
                                  rotate_left
                                  · (intro w hSw; (try dsimp only at hSw); go_simp) <;> with_reducible rfl
                                  try simp only [Act.put, List.setIfInBounds_toArray, List.set_cons_zero, List.set_cons_succ, List.getElem_toArray, List.getElem_cons_zero, List.getElem_cons_succ]
                                  refine wpAnyH_take (i := 22) (v := ?_) rfl (by as_aux_lemma => kernel_rfl) (by as_aux_lemma => kernel_rfl) (by as_aux_lemma => kernel_rfl) (fun _ _ _ h => h) (Or.inl ⟨by rfl, ?_⟩) (by assumption) ?_
                                  rotate_left
                                  · (intro w hSw; (try dsimp only at hSw); go_simp) <;> with_reducible rfl
                                  try simp only [Act.put, List.setIfInBounds_toArray, List.set_cons_zero, List.set_cons_succ, List.getElem_toArray, List.getElem_cons_zero, List.getElem_cons_succ]
                                  refine wpAnyH_take (i := 23) (v := ?_) rfl (by as_aux_lemma => kernel_rfl) (by as_aux_lemma => kernel_rfl) (by as_aux_lemma => kernel_rfl) (fun _ _ _ h => h) (Or.inl ⟨by rfl, ?_⟩) (by assumption) ?_
                                  rotate_left
                                  · (intro w hSw; (try dsimp only at hSw); go_simp) <;> with_reducible rfl
                                  try simp only [Act.put, List.setIfInBounds_toArray, List.set_cons_zero, List.set_cons_succ, List.getElem_toArray, List.getElem_cons_zero, List.getElem_cons_succ]
                                  refine wpAnyH_take (i := 24) (v := ?_) rfl (by as_aux_lemma => kernel_rfl) (by as_aux_lemma => kernel_rfl) (by as_aux_lemma => kernel_rfl) (fun _ _ _ h => h) (Or.inl ⟨by rfl, ?_⟩) (by assumption) ?_
                                  rotate_left
                                  · (intro w hSw; (try dsimp only at hSw); go_simp) <;> with_reducible rfl
                                  try simp only [Act.put, List.setIfInBounds_toArray, List.set_cons_zero, List.set_cons_succ, List.getElem_toArray, List.getElem_cons_zero, List.getElem_cons_succ]
                                  refine wpAnyH_take (i := 25) (v := ?_) rfl (by as_aux_lemma => kernel_rfl) (by as_aux_lemma => kernel_rfl) (by as_aux_lemma => kernel_rfl) (fun _ _ _ h => h) (Or.inl ⟨by rfl, ?_⟩) (by assumption) ?_
                                  rotate_left
                                  · (intro w hSw; (try dsimp only at hSw); go_simp) <;> with_reducible rfl
                                  try simp only [Act.put, List.setIfInBounds_toArray, List.set_cons_zero, List.set_cons_succ, List.getElem_toArray, List.getElem_cons_zero, List.getElem_cons_succ]
                                  refine wpAnyH_take (i := 26) (v := ?_) rfl (by as_aux_lemma => kernel_rfl) (by as_aux_lemma => kernel_rfl) (by as_aux_lemma => kernel_rfl) (fun _ _ _ h => h) (Or.inl ⟨by rfl, ?_⟩) (by assumption) ?_
                                  rotate_left
                                  · (intro w hSw; (try dsimp only at hSw); go_simp) <;> with_reducible rfl
                                  try simp only [Act.put, List.setIfInBounds_toArray, List.set_cons_zero, List.set_cons_succ, List.getElem_toArray, List.getElem_cons_zero, List.getElem_cons_succ]
                                  refine wpAnyH_take (i := 27) (v := ?_) rfl (by as_aux_lemma => kernel_rfl) (by as_aux_lemma => kernel_rfl) (by as_aux_lemma => kernel_rfl) (fun _ _ _ h => h) (Or.inl ⟨by rfl, ?_⟩) (by assumption) ?_
                                  rotate_left
                                  · (intro w hSw; (try dsimp only at hSw); go_simp) <;> with_reducible rfl
                                  try simp only [Act.put, List.setIfInBounds_toArray, List.set_cons_zero, List.set_cons_succ, List.getElem_toArray, List.getElem_cons_zero, List.getElem_cons_succ]
                                  refine wpAnyH_take (i := 28) (v := ?_) rfl (by as_aux_lemma => kernel_rfl) (by as_aux_lemma => kernel_rfl) (by as_aux_lemma => kernel_rfl) (fun _ _ _ h => h) (Or.inl ⟨by rfl, ?_⟩) (by assumption) ?_
                                  rotate_left
                                  · (intro w hSw; (try dsimp only at hSw); go_simp) <;> with_reducible rfl
                                  try simp only [Act.put, List.setIfInBounds_toArray, List.set_cons_zero, List.set_cons_succ, List.getElem_toArray, List.getElem_cons_zero, List.getElem_cons_succ]
                                  refine wpAnyH_take (i := 29) (v := ?_) rfl (by as_aux_lemma => kernel_rfl) (by as_aux_lemma => kernel_rfl) (by as_aux_lemma => kernel_rfl) (fun _ _ _ h => h) (Or.inl ⟨by rfl, ?_⟩) (by assumption) ?_
                                  rotate_left
                                  · (intro w hSw; (try dsimp only at hSw); go_simp) <;> with_reducible rfl
                                  try simp only [Act.put, List.setIfInBounds_toArray, List.set_cons_zero, List.set_cons_succ, List.getElem_toArray, List.getElem_cons_zero, List.getElem_cons_succ]
                                  refine wpAnyH_take (i := 30) (v := ?_) rfl (by as_aux_lemma => kernel_rfl) (by as_aux_lemma => kernel_rfl) (by as_aux_lemma => kernel_rfl) (fun _ _ _ h => h) (Or.inl ⟨by rfl, ?_⟩) (by assumption) ?_
                                  rotate_left
                                  · (intro w hSw; (try dsimp only at hSw); go_simp) <;> with_reducible rfl
                                  try simp only [Act.put, List.setIfInBounds_toArray, List.set_cons_zero, List.set_cons_succ, List.getElem_toArray, List.getElem_cons_zero, List.getElem_cons_succ]
                                  refine wpAnyH_take (i := 31) (v := ?_) rfl (by as_aux_lemma => kernel_rfl) (by as_aux_lemma => kernel_rfl) (by as_aux_lemma => kernel_rfl) (fun _ _ _ h => h) (Or.inl ⟨by rfl, ?_⟩) (by assumption) ?_
                                  rotate_left
                                  · (intro w hSw; (try dsimp only at hSw); go_simp) <;> with_reducible rfl
                                  try simp only [Act.put, List.setIfInBounds_toArray, List.set_cons_zero, List.set_cons_succ, List.getElem_toArray, List.getElem_cons_zero, List.getElem_cons_succ]
                                  refine wpAnyH_take (i := 32) (v := ?_) rfl (by as_aux_lemma => kernel_rfl) (by as_aux_lemma => kernel_rfl) (by as_aux_lemma => kernel_rfl) (fun _ _ _ h => h) (Or.inl ⟨by rfl, ?_⟩) (by assumption) ?_
                                  rotate_left
                                  · (intro w hSw; (try dsimp only at hSw); go_simp) <;> with_reducible rfl
                                  try simp only [Act.put, List.setIfInBounds_toArray, List.set_cons_zero, List.set_cons_succ, List.getElem_toArray, List.getElem_cons_zero, List.getElem_cons_succ]
                                  refine wpAnyH_done (by kernel_rfl) ?_ _
                                  clear hS9
                                  all_goals
                                    go_wp2_with fail
                                    go_roundw
                                    case rel => exact ⟨n + 1, by omega, by go_num, ⟨by rw [HC1.out, HC.out]; exact HRX.out.below HB10.out, HPX.out.below HB10.out, HBX.out.trans (HB10.out.mono HBX.out.size)⟩⟩
                                    case measure => simp [intOf]; omega
                        · have hd1 : decide (0 ≤ cn) = false := decide_eq_false hcn
                          have HC := Go.Lib.hid (show c1 = c0 by rw [HCN.out, HOK.out, if_neg (by simp; omega)])
                          clear hns
                          as_aux_lemma =>
                            go_wp2_with fail
                            go_quiet (fail)
                            obtain ⟨q1, rfl⟩ : ∃ m, m = nq := ⟨nq, rfl⟩
                            have HBQ := Go.Lib.hid (bDrewN (Below.refl wr.heap.size wr) q1)
                            go_wp2_with fail
                            go_roundw
                            case rel => exact ⟨n + 1, by omega, by go_num, ⟨by rw [HC1.out, HC.out]; exact HRX.out.below HBQ.out, HPX.out.below HBQ.out, HBX.out.trans (HBQ.out.mono HBX.out.size)⟩⟩
                            case measure => simp [intOf]; omega
                    · obtain rfl : n = 12 := by omega
                      have hni : ¬ (((12 : Nat) : Int) < 12) := by omega
                      clear x3 x3f p0 p1
                      go_wp2_with fail
                      have HCR := Go.Lib.hid (refCost_bd (xs := xs) (p := ⟨a, b⟩) hs 12 (Nat.le_refl _))
                      generalize refCost xs s ⟨a, b⟩ 12 = C at HRX HRR HCR
                      go_loopw [14] (fun i wr4 => ∃ (h : Nat) (v : Value), h ≤ 12 ∧ i = .int .i64 h ∧ RBox wr4 RB a b C v ∧ OwR intR 3 (RB + 1) wr4 v (if C < 0 then [] else refHops xs s ⟨a, b⟩ C h) ∧ PBox wr4 P a b ∧ Below W2.heap.size W2 wr4) (fun i _ => 12 - (intOf i).toNat)
                      case atStart => exact ⟨0, _, Nat.zero_le _, rfl, HRX.out, (by unfold refHops; rw [ite_self]; exact OwR.nil _ _ HRX.out.lt), HPX.out, HBX.out⟩
                      case round =>
                        obtain ⟨h, v, hh, rfl, hrx, hov, hpx, hb⟩ := hrel
                        obtain ⟨A8, n8, c8, rfl⟩ := ow_form hov (by decide)
                        clear HRX HPX HBX
                        have HRX := Go.Lib.hid hrx
                        have HPX := Go.Lib.hid hpx
                        have HBX := Go.Lib.hid hb
                        have HOV := Go.Lib.hid hov
                        have x3 := hrx.c3
                        clear hrx hpx hb hov
                        by_cases hC : C < 0
                        · have hc1 : ¬ 0 ≤ C := by omega
                          have HFN := Go.Lib.hid (show refAt xs s ⟨a, b⟩ = [] by rw [HRA.out, HRR.out, if_pos hC]; rfl)
                          by_cases hlh : h < 12
                          · have hhi : (h : Int) < 12 := by omega
                            as_aux_lemma =>
                              go_wp2_with fail
                              go_roundw
                              case rel => exact ⟨b + 1, by omega, by go_num, by rw [HNX.out, HFN.out, List.append_nil]; exact HO1.out.keep HBX.out, HBA.out.trans (HBX.out.mono HBA.out.size)⟩
                              case measure => simp [intOf]; omega
                          · have hhi : ¬ (h : Int) < 12 := by omega
                            as_aux_lemma =>
                              go_wp2_with fail
                              go_roundw
                              case rel => exact ⟨b + 1, by omega, by go_num, by rw [HNX.out, HFN.out, List.append_nil]; exact HO1.out.keep HBX.out, HBA.out.trans (HBX.out.mono HBA.out.size)⟩
                              case measure => simp [intOf]; omega
                        · have hc1 : 0 ≤ C := by omega
                          by_cases hlh : h < 12
                          · have hhi : (h : Int) < 12 := by omega
                            have hh0 : (0 : Int) ≤ (h : Int) := Int.natCast_nonneg h
                            rw [if_neg hC] at HOV
                            have HNC := Go.Lib.hid hc1
                            clear hC
                            go_wp2_with fail
                            go_loopw [15, 16] (fun t i wr5 => ∃ n : Nat, n ≤ 12 ∧ i = .int .i64 n ∧ t = .bool (refHas xs s ⟨a, b⟩ C (h : Int) n) ∧ RBox wr5 RB a b C (.slice A8 n8 c8) ∧ PBox wr5 P a b ∧ Below wr.heap.size wr wr5) (fun _ i _ => 12 - (intOf i).toNat)
                            case atStart => exact ⟨0, Nat.zero_le _, rfl, rfl, HRX.out, HPX.out, Below.refl _ _⟩
                            case round =>
                              obtain ⟨n, hn, rfl, rfl, hrx, hpx, hb⟩ := hrel
                              have HBH := Go.Lib.hid hb
                              have HBX5 := Go.Lib.hid (HBX.out.trans (hb.mono HBX.out.size))
                              have HOV5 := Go.Lib.hid (HOV.out.keep hb)
                              clear HRX HPX x3
                              have HRX := Go.Lib.hid hrx
                              have HPX := Go.Lib.hid hpx
                              have x3 := hrx.c3
                              have p0 := hpx.c0
                              have p1 := hpx.c1
                              clear hrx hpx hb
                              by_cases hln : n < 12
                              · have hni : (n : Int) < 12 := by omega
                                have hn0 : (0 : Int) ≤ (n : Int) := Int.natCast_nonneg n
                                have hbw1 := (HBA.out.trans (HBX5.out.mono HBA.out.size))
                                obtain ⟨bw, offw, hAw, hbw⟩ := HS1.out.at_ (k := n) (by rw [waysTo_len]; exact hln)
                                subst hAw
                                obtain ⟨vh, f1, f2, f3, f4⟩ := (HS1.out.below hbw1).way (k := n) (by rw [waysTo_len]; exact hln)
                                rw [waysTo_at] at f1 f3
                                obtain ⟨Ah, nh, ch, rfl⟩ : ∃ A n c, vh = .slice A n c := by obtain ⟨A, c, e⟩ := f3.form; exact ⟨A, _, c, e⟩
                                have HF1 := Go.Lib.hid f1
                                have HF2 := Go.Lib.hid f2
                                have HBN := Go.Lib.hid (HBW.out.trans (HBX5.out.mono HBW.out.size))
                                have HPN := Go.Lib.hid (HPI.out n hln)
                                have hhn := fun v3 w3 (h : Sl prefR w3 v3 (prefsAt xs n)) => hasPrefix_any v3 (prefsAt xs n) ⟨a, b⟩ w3 h (by have := (prefs_fine (prefsAt_chk xs n)).1; omega)
                                have HHN := Go.Lib.hid hhn
                                have hcan : (wayTo xs s n).hops.length ≤ 12 := by
                                  have h9 := canon_way xs s n
                                  unfold Canon at h9
                                  rw [← h9]
                                  exact Nat.le_trans (List.length_filter_le _ _) (by decide)
                                have hno := fun w' (hb : Below wr.heap.size wr w') => hasNode_any (.slice Ah nh ch) (wayTo xs s n).hops (h : Int) w' (f3.below hb) (by omega)
                                have HNO := Go.Lib.hid hno
                                have HNE := Go.Lib.hid (show refHas xs s ⟨a, b⟩ C (h : Int) (n + 1) = (refHas xs s ⟨a, b⟩ C (h : Int) n || atN xs s ⟨a, b⟩ C (h : Int) n) from rfl)
                                have HAT := Go.Lib.hid (show atN xs s ⟨a, b⟩ C (h : Int) n = (decide (n ≠ s) && decide ((wayTo xs s n).cost = C) && inP (prefsAt xs n) ⟨a, b⟩ && (wayTo xs s n).hops.contains (h : Int)) from rfl)
                                clear hhn hno hcan hbw1 f3 f4
                                generalize refHas xs s ⟨a, b⟩ C (h : Int) n = hs0 at *
                                generalize (wayTo xs s n).cost = cn at *
                                generalize (wayTo xs s n).hops = hw at *
                                generalize hw.contains (h : Int) = R at *
                                generalize atN xs s ⟨a, b⟩ C (h : Int) n = at0 at *
                                rcases hs0 with _ | _
                                · by_cases hns : n = s
                                  · have g1 : ((n : Int) != (s : Int)) = false := by rw [hns]; simp
                                    have HA0 := Go.Lib.hid (show at0 = false by rw [HAT.out]; simp [hns])
                                    rw [HA0.out] at HNE
                                    clear hns
                                    as_aux_lemma =>
                                      go_wp2_with fail
                                      go_quiet (fail)
                                      obtain ⟨q1, rfl⟩ : ∃ m, m = nq := ⟨nq, rfl⟩
                                      have HBQ := Go.Lib.hid (bDrewN (Below.refl wr.heap.size wr) q1)
                                      go_wp2_with fail
                                      go_roundw
                                      case rel => exact ⟨n + 1, by omega, by go_num, (by first | (rw [HNE.out]; done) | (rw [HNE.out]; simp)), HRX.out.below HBQ.out, HPX.out.below HBQ.out, HBH.out.trans (Below.mono HBQ.out HBH.out.size)⟩
                                      case measure => simp [intOf]; omega
                                  · have g1 : ((n : Int) != (s : Int)) = true := by rw [bne_iff_ne]; omega
                                    by_cases hce : cn = C
                                    · have g2 : (cn == C) = true := by rw [beq_iff_eq]; exact hce
                                      rcases hin : inP (prefsAt xs n) ⟨a, b⟩ with _ | _
                                      · have HA0 := Go.Lib.hid (show at0 = false by rw [HAT.out, hin]; simp)
                                        rw [HA0.out] at HNE
                                        rw [hin] at HHN
                                        clear hin hns hce
                                        as_aux_lemma =>
                                          go_wp2_with fail
                                          refine wp_region_held_drew (S := fun w' => w'.cell? ⟨P, 0, none⟩ = some (.int .i64 a) ∧ w'.cell? ⟨P, 1, none⟩ = some (.int .i64 b) ∧ w'.cell? ⟨RB, 3, none⟩ = some (.int .i64 C) ∧ w'.cell? ⟨bw, offw + n * 2, none⟩ = some (.int .i64 cn) ∧ w'.cell? ⟨bw, offw + n * 2 + 1, none⟩ = some (.slice Ah nh ch)) (by kernel_rfl) ?_ (fun hHeld => ?_)
                                          · exact ⟨p0, p1, x3, f1, f2⟩
                                          refine wpAnyH_take (i := 0) (v := ?_) rfl (by as_aux_lemma => kernel_rfl) (by as_aux_lemma => kernel_rfl) (by as_aux_lemma => kernel_rfl) (fun _ _ _ h => h) (Or.inl ⟨by rfl, ?_⟩) (by assumption) ?_
                                          rotate_left
                                          · (intro w hSw; (try dsimp only at hSw); go_simp) <;> with_reducible rfl
                                          try simp only [Act.put, List.setIfInBounds_toArray, List.set_cons_zero, List.set_cons_succ, List.getElem_toArray, List.getElem_cons_zero, List.getElem_cons_succ]
                                          refine wpAnyH_take (i := 1) (v := ?_) rfl (by as_aux_lemma => kernel_rfl) (by as_aux_lemma => kernel_rfl) (by as_aux_lemma => kernel_rfl) (fun _ _ _ h => h) (Or.inl ⟨by rfl, ?_⟩) (by assumption) ?_
                                          rotate_left
                                          · (intro w hSw; (try dsimp only at hSw); go_simp) <;> with_reducible rfl
                                          try simp only [Act.put, List.setIfInBounds_toArray, List.set_cons_zero, List.set_cons_succ, List.getElem_toArray, List.getElem_cons_zero, List.getElem_cons_succ]
                                          refine wpAnyH_take (i := 2) (v := ?_) rfl (by as_aux_lemma => kernel_rfl) (by as_aux_lemma => kernel_rfl) (by as_aux_lemma => kernel_rfl) (fun _ _ _ h => h) (Or.inl ⟨by rfl, ?_⟩) (by assumption) ?_
                                          rotate_left
                                          · (intro w hSw; (try dsimp only at hSw); go_simp) <;> with_reducible rfl
                                          try simp only [Act.put, List.setIfInBounds_toArray, List.set_cons_zero, List.set_cons_succ, List.getElem_toArray, List.getElem_cons_zero, List.getElem_cons_succ]
                                          refine wpAnyH_take (i := 3) (v := ?_) rfl (by as_aux_lemma => kernel_rfl) (by as_aux_lemma => kernel_rfl) (by as_aux_lemma => kernel_rfl) (fun _ _ _ h => h) (Or.inl ⟨by rfl, ?_⟩) (by assumption) ?_
                                          rotate_left
                                          · (intro w hSw; (try dsimp only at hSw); go_simp) <;> with_reducible rfl
                                          try simp only [Act.put, List.setIfInBounds_toArray, List.set_cons_zero, List.set_cons_succ, List.getElem_toArray, List.getElem_cons_zero, List.getElem_cons_succ]
                                          refine wpAnyH_take (i := 4) (v := ?_) rfl (by as_aux_lemma => kernel_rfl) (by as_aux_lemma => kernel_rfl) (by as_aux_lemma => kernel_rfl) (fun _ _ _ h => h) (Or.inl ⟨by rfl, ?_⟩) (by assumption) ?_
                                          rotate_left
                                          · (intro w hSw; (try dsimp only at hSw); go_simp) <;> with_reducible rfl
                                          try simp only [Act.put, List.setIfInBounds_toArray, List.set_cons_zero, List.set_cons_succ, List.getElem_toArray, List.getElem_cons_zero, List.getElem_cons_succ]
                                          refine wpAnyH_take (i := 5) (v := ?_) rfl (by as_aux_lemma => kernel_rfl) (by as_aux_lemma => kernel_rfl) (by as_aux_lemma => kernel_rfl) (fun _ _ _ h => h) (Or.inl ⟨by rfl, ?_⟩) (by assumption) ?_
                                          rotate_left
                                          · (intro w hSw; (try dsimp only at hSw); go_simp) <;> with_reducible rfl
                                          try simp only [Act.put, List.setIfInBounds_toArray, List.set_cons_zero, List.set_cons_succ, List.getElem_toArray, List.getElem_cons_zero, List.getElem_cons_succ]
                                          refine wpAnyH_take (i := 6) (v := ?_) rfl (by as_aux_lemma => kernel_rfl) (by as_aux_lemma => kernel_rfl) (by as_aux_lemma => kernel_rfl) (fun _ _ _ h => h) (Or.inl ⟨by rfl, ?_⟩) (by assumption) ?_
                                          rotate_left
                                          · (intro w hSw; (try dsimp only at hSw); go_simp) <;> with_reducible rfl
                                          try simp only [Act.put, List.setIfInBounds_toArray, List.set_cons_zero, List.set_cons_succ, List.getElem_toArray, List.getElem_cons_zero, List.getElem_cons_succ]
                                          refine wpAnyH_take (i := 7) (v := ?_) rfl (by as_aux_lemma => kernel_rfl) (by as_aux_lemma => kernel_rfl) (by as_aux_lemma => kernel_rfl) (fun _ _ _ h => h) (Or.inl ⟨by rfl, ?_⟩) (by assumption) ?_
                                          rotate_left
                                          · (intro w hSw; (try dsimp only at hSw); go_simp) <;> with_reducible rfl
                                          try simp only [Act.put, List.setIfInBounds_toArray, List.set_cons_zero, List.set_cons_succ, List.getElem_toArray, List.getElem_cons_zero, List.getElem_cons_succ]
                                          refine wpAnyH_take (i := 8) (v := ?_) rfl (by as_aux_lemma => kernel_rfl) (by as_aux_lemma => kernel_rfl) (by as_aux_lemma => kernel_rfl) (fun _ _ _ h => h) (Or.inl ⟨by rfl, ?_⟩) (by assumption) ?_
                                          rotate_left
                                          · (intro w hSw; (try dsimp only at hSw); go_simp) <;> with_reducible rfl
                                          try simp only [Act.put, List.setIfInBounds_toArray, List.set_cons_zero, List.set_cons_succ, List.getElem_toArray, List.getElem_cons_zero, List.getElem_cons_succ]
                                          refine wpAnyH_take (i := 9) (v := ?_) rfl (by as_aux_lemma => kernel_rfl) (by as_aux_lemma => kernel_rfl) (by as_aux_lemma => kernel_rfl) (fun _ _ _ h => h) (Or.inl ⟨by rfl, ?_⟩) (by assumption) ?_
                                          rotate_left
                                          · (intro w hSw; (try dsimp only at hSw); go_simp) <;> with_reducible rfl
                                          try simp only [Act.put, List.setIfInBounds_toArray, List.set_cons_zero, List.set_cons_succ, List.getElem_toArray, List.getElem_cons_zero, List.getElem_cons_succ]
                                          refine wpAnyH_take (i := 10) (v := ?_) rfl (by as_aux_lemma => kernel_rfl) (by as_aux_lemma => kernel_rfl) (by as_aux_lemma => kernel_rfl) (fun _ _ _ h => h) (Or.inl ⟨by rfl, ?_⟩) (by assumption) ?_
                                          rotate_left
                                          · (intro w hSw; (try dsimp only at hSw); go_simp) <;> with_reducible rfl
                                          try simp only [Act.put, List.setIfInBounds_toArray, List.set_cons_zero, List.set_cons_succ, List.getElem_toArray, List.getElem_cons_zero, List.getElem_cons_succ]
                                          refine wpAnyH_take (i := 11) (v := ?_) rfl (by as_aux_lemma => kernel_rfl) (by as_aux_lemma => kernel_rfl) (by as_aux_lemma => kernel_rfl) (fun _ _ _ h => h) (Or.inl ⟨by rfl, ?_⟩) (by assumption) ?_
                                          rotate_left
                                          · (intro w hSw; (try dsimp only at hSw); go_simp) <;> with_reducible rfl
                                          try simp only [Act.put, List.setIfInBounds_toArray, List.set_cons_zero, List.set_cons_succ, List.getElem_toArray, List.getElem_cons_zero, List.getElem_cons_succ]
                                          refine wpAnyH_take (i := 12) (v := ?_) rfl (by as_aux_lemma => kernel_rfl) (by as_aux_lemma => kernel_rfl) (by as_aux_lemma => kernel_rfl) (fun _ _ _ h => h) (Or.inl ⟨by rfl, ?_⟩) (by assumption) ?_
                                          rotate_left
                                          · (intro w hSw; (try dsimp only at hSw); go_simp) <;> with_reducible rfl
                                          try simp only [Act.put, List.setIfInBounds_toArray, List.set_cons_zero, List.set_cons_succ, List.getElem_toArray, List.getElem_cons_zero, List.getElem_cons_succ]
                                          refine wpAnyH_take (i := 13) (v := ?_) rfl (by as_aux_lemma => kernel_rfl) (by as_aux_lemma => kernel_rfl) (by as_aux_lemma => kernel_rfl) (fun _ _ _ h => h) (Or.inl ⟨by rfl, ?_⟩) (by assumption) ?_
                                          rotate_left
                                          · (intro w hSw; (try dsimp only at hSw); go_simp) <;> with_reducible rfl
                                          try simp only [Act.put, List.setIfInBounds_toArray, List.set_cons_zero, List.set_cons_succ, List.getElem_toArray, List.getElem_cons_zero, List.getElem_cons_succ]
                                          refine wpAnyH_take (i := 14) (v := ?_) rfl (by as_aux_lemma => kernel_rfl) (by as_aux_lemma => kernel_rfl) (by as_aux_lemma => kernel_rfl) (fun _ _ _ h => h) (Or.inl ⟨by rfl, ?_⟩) (by assumption) ?_
                                          rotate_left
                                          · (intro w hSw; (try dsimp only at hSw); go_simp) <;> with_reducible rfl
                                          try simp only [Act.put, List.setIfInBounds_toArray, List.set_cons_zero, List.set_cons_succ, List.getElem_toArray, List.getElem_cons_zero, List.getElem_cons_succ]
                                          refine wpAnyH_take (i := 15) (v := ?_) rfl (by as_aux_lemma => kernel_rfl) (by as_aux_lemma => kernel_rfl) (by as_aux_lemma => kernel_rfl) (fun _ _ _ h => h) (Or.inl ⟨by rfl, ?_⟩) (by assumption) ?_
                                          rotate_left
                                          · (intro w hSw; (try dsimp only at hSw); go_simp) <;> with_reducible rfl
                                          try simp only [Act.put, List.setIfInBounds_toArray, List.set_cons_zero, List.set_cons_succ, List.getElem_toArray, List.getElem_cons_zero, List.getElem_cons_succ]
                                          refine wpAnyH_take (i := 16) (v := ?_) rfl (by as_aux_lemma => kernel_rfl) (by as_aux_lemma => kernel_rfl) (by as_aux_lemma => kernel_rfl) (fun _ _ _ h => h) (Or.inl ⟨by rfl, ?_⟩) (by assumption) ?_
                                          rotate_left
                                          · (intro w hSw; (try dsimp only at hSw); go_simp) <;> with_reducible rfl
                                          try simp only [Act.put, List.setIfInBounds_toArray, List.set_cons_zero, List.set_cons_succ, List.getElem_toArray, List.getElem_cons_zero, List.getElem_cons_succ]
                                          refine wpAnyH_take (i := 17) (v := ?_) rfl (by as_aux_lemma => kernel_rfl) (by as_aux_lemma => kernel_rfl) (by as_aux_lemma => kernel_rfl) (fun _ _ _ h => h) (Or.inl ⟨by rfl, ?_⟩) (by assumption) ?_
                                          rotate_left
                                          · (intro w hSw; (try dsimp only at hSw); go_simp) <;> with_reducible rfl
                                          try simp only [Act.put, List.setIfInBounds_toArray, List.set_cons_zero, List.set_cons_succ, List.getElem_toArray, List.getElem_cons_zero, List.getElem_cons_succ]
                                          refine wpAnyH_take (i := 19) (v := ?_) rfl (by as_aux_lemma => kernel_rfl) (by as_aux_lemma => kernel_rfl) (by as_aux_lemma => kernel_rfl) (fun _ _ _ h => h) (Or.inl ⟨by rfl, ?_⟩) (by assumption) ?_
                                          rotate_left
                                          · (intro w hSw; (try dsimp only at hSw); go_simp) <;> with_reducible rfl
                                          try simp only [Act.put, List.setIfInBounds_toArray, List.set_cons_zero, List.set_cons_succ, List.getElem_toArray, List.getElem_cons_zero, List.getElem_cons_succ]
                                          refine wpAnyH_ready (rs := [18]) (by kernel_rfl) (by simp) ?_
                                          refine AllReadyH.cons rfl (fun K hK => ?_) AllReadyH.nil
                                          go_simp
                                          go_wp2_with (go_at_call 31; refine (HPN.out _ HBN.out.drew).mono ?_; rintro e w7 ⟨⟨v7, rfl, hs7⟩, hb7⟩; obtain ⟨A7, c7, rfl⟩ := hs7.form; have HS7 := Go.Lib.hid hs7; have hb8 := Below.trans ((Below.refl wr.heap.size wr).drew) hb7; have HB8 := Go.Lib.hid hb8; have y0 := cell_keep hb8 HPX.out.c0; have y1 := cell_keep hb8 HPX.out.c1; have y2 := cell_keep hb8 HRX.out.c3; have y3 := cell_keep hb8 HF1.out; have y4 := cell_keep hb8 HF2.out; clear hs7 hb7 hb8)
                                          refine hK.out _ _ ⟨y0, y1, y2, y3, y4⟩ (fun hS7 => ?_)
                                          clear hHeld hK K
                                          try simp only [Act.put, List.setIfInBounds_toArray, List.set_cons_zero, List.set_cons_succ, List.getElem_toArray, List.getElem_cons_zero, List.getElem_cons_succ]
                                          refine wpAnyH_ready (rs := [20]) (by kernel_rfl) (by simp) ?_
                                          refine AllReadyH.cons rfl (fun K hK => ?_) AllReadyH.nil
                                          go_simp
                                          go_wp2_with (go_at_call 30; refine (HHN.out _ _ HS7.out).mono ?_; rintro e w9 ⟨rfl, hb9⟩; have hb10 := HB8.out.trans (hb9.mono HB8.out.size); have HB10 := Go.Lib.hid hb10; have z0 := cell_keep hb10 HPX.out.c0; have z1 := cell_keep hb10 HPX.out.c1; have z2 := cell_keep hb10 HRX.out.c3; have z3 := cell_keep hb10 HF1.out; have z4 := cell_keep hb10 HF2.out; clear hb9 hb10)
                                          refine hK.out _ _ ⟨z0, z1, z2, z3, z4⟩ (fun hS9 => ?_)
                                          clear hS7 hK K
                                          try simp only [Act.put, List.setIfInBounds_toArray, List.set_cons_zero, List.set_cons_succ, List.getElem_toArray, List.getElem_cons_zero, List.getElem_cons_succ]
                                          refine wpAnyH_take (i := 21) (v := ?_) rfl (by as_aux_lemma => kernel_rfl) (by as_aux_lemma => kernel_rfl) (by as_aux_lemma => kernel_rfl) (fun _ _ _ h => h) (Or.inl ⟨by rfl, ?_⟩) (by assumption) ?_
                                          rotate_left
                                          · (intro w hSw; (try dsimp only at hSw); go_simp) <;> with_reducible rfl
                                          try simp only [Act.put, List.setIfInBounds_toArray, List.set_cons_zero, List.set_cons_succ, List.getElem_toArray, List.getElem_cons_zero, List.getElem_cons_succ]
                                          refine wpAnyH_take (i := 22) (v := ?_) rfl (by as_aux_lemma => kernel_rfl) (by as_aux_lemma => kernel_rfl) (by as_aux_lemma => kernel_rfl) (fun _ _ _ h => h) (Or.inl ⟨by rfl, ?_⟩) (by assumption) ?_
                                          rotate_left
                                          · (intro w hSw; (try dsimp only at hSw); go_simp) <;> with_reducible rfl
                                          try simp only [Act.put, List.setIfInBounds_toArray, List.set_cons_zero, List.set_cons_succ, List.getElem_toArray, List.getElem_cons_zero, List.getElem_cons_succ]
                                          refine wpAnyH_take (i := 23) (v := undef) rfl (by as_aux_lemma => kernel_rfl) (by as_aux_lemma => kernel_rfl) (by as_aux_lemma => kernel_rfl) (fun _ _ _ h => h) (Or.inr ⟨by rfl, rfl⟩) (by assumption) ?_
                                          try simp only [Act.put, List.setIfInBounds_toArray, List.set_cons_zero, List.set_cons_succ, List.getElem_toArray, List.getElem_cons_zero, List.getElem_cons_succ]
                                          refine wpAnyH_take (i := 24) (v := undef) rfl (by as_aux_lemma => kernel_rfl) (by as_aux_lemma => kernel_rfl) (by as_aux_lemma => kernel_rfl) (fun _ _ _ h => h) (Or.inr ⟨by rfl, rfl⟩) (by assumption) ?_
                                          try simp only [Act.put, List.setIfInBounds_toArray, List.set_cons_zero, List.set_cons_succ, List.getElem_toArray, List.getElem_cons_zero, List.getElem_cons_succ]
                                          refine wpAnyH_take (i := 25) (v := undef) rfl (by as_aux_lemma => kernel_rfl) (by as_aux_lemma => kernel_rfl) (by as_aux_lemma => kernel_rfl) (fun _ _ _ h => h) (Or.inr ⟨by rfl, rfl⟩) (by assumption) ?_
                                          try simp only [Act.put, List.setIfInBounds_toArray, List.set_cons_zero, List.set_cons_succ, List.getElem_toArray, List.getElem_cons_zero, List.getElem_cons_succ]
                                          refine wpAnyH_take (i := 26) (v := undef) rfl (by as_aux_lemma => kernel_rfl) (by as_aux_lemma => kernel_rfl) (by as_aux_lemma => kernel_rfl) (fun _ _ _ h => h) (Or.inr ⟨by rfl, rfl⟩) (by assumption) ?_
                                          try simp only [Act.put, List.setIfInBounds_toArray, List.set_cons_zero, List.set_cons_succ, List.getElem_toArray, List.getElem_cons_zero, List.getElem_cons_succ]
                                          refine wpAnyH_take (i := 27) (v := undef) rfl (by as_aux_lemma => kernel_rfl) (by as_aux_lemma => kernel_rfl) (by as_aux_lemma => kernel_rfl) (fun _ _ _ h => h) (Or.inr ⟨by rfl, rfl⟩) (by assumption) ?_
                                          try simp only [Act.put, List.setIfInBounds_toArray, List.set_cons_zero, List.set_cons_succ, List.getElem_toArray, List.getElem_cons_zero, List.getElem_cons_succ]
                                          refine wpAnyH_take (i := 28) (v := undef) rfl (by as_aux_lemma => kernel_rfl) (by as_aux_lemma => kernel_rfl) (by as_aux_lemma => kernel_rfl) (fun _ _ _ h => h) (Or.inr ⟨by rfl, rfl⟩) (by assumption) ?_
                                          try simp only [Act.put, List.setIfInBounds_toArray, List.set_cons_zero, List.set_cons_succ, List.getElem_toArray, List.getElem_cons_zero, List.getElem_cons_succ]
                                          refine wpAnyH_take (i := 29) (v := undef) rfl (by as_aux_lemma => kernel_rfl) (by as_aux_lemma => kernel_rfl) (by as_aux_lemma => kernel_rfl) (fun _ _ _ h => h) (Or.inr ⟨by rfl, rfl⟩) (by assumption) ?_
                                          try simp only [Act.put, List.setIfInBounds_toArray, List.set_cons_zero, List.set_cons_succ, List.getElem_toArray, List.getElem_cons_zero, List.getElem_cons_succ]
                                          refine wpAnyH_take (i := 30) (v := ?_) rfl (by as_aux_lemma => kernel_rfl) (by as_aux_lemma => kernel_rfl) (by as_aux_lemma => kernel_rfl) (fun _ _ _ h => h) (Or.inl ⟨by rfl, ?_⟩) (by assumption) ?_
                                          rotate_left
                                          · (intro w hSw; (try dsimp only at hSw); go_simp) <;> with_reducible rfl
                                          try simp only [Act.put, List.setIfInBounds_toArray, List.set_cons_zero, List.set_cons_succ, List.getElem_toArray, List.getElem_cons_zero, List.getElem_cons_succ]
                                          refine wpAnyH_take (i := 31) (v := ?_) rfl (by as_aux_lemma => kernel_rfl) (by as_aux_lemma => kernel_rfl) (by as_aux_lemma => kernel_rfl) (fun _ _ _ h => h) (Or.inl ⟨by rfl, ?_⟩) (by assumption) ?_
                                          rotate_left
                                          · (intro w hSw; (try dsimp only at hSw); go_simp) <;> with_reducible rfl
                                          try simp only [Act.put, List.setIfInBounds_toArray, List.set_cons_zero, List.set_cons_succ, List.getElem_toArray, List.getElem_cons_zero, List.getElem_cons_succ]
                                          refine wpAnyH_take (i := 32) (v := ?_) rfl (by as_aux_lemma => kernel_rfl) (by as_aux_lemma => kernel_rfl) (by as_aux_lemma => kernel_rfl) (fun _ _ _ h => h) (Or.inl ⟨by rfl, ?_⟩) (by assumption) ?_
                                          rotate_left
                                          · (intro w hSw; (try dsimp only at hSw); go_simp) <;> with_reducible rfl
                                          try simp only [Act.put, List.setIfInBounds_toArray, List.set_cons_zero, List.set_cons_succ, List.getElem_toArray, List.getElem_cons_zero, List.getElem_cons_succ]
                                          refine wpAnyH_done (by kernel_rfl) ?_ _
                                          all_goals
                                            go_wp2_with fail
                                            go_roundw
                                            case rel => exact ⟨n + 1, by omega, by go_num, (by first | (rw [HNE.out]; done) | (rw [HNE.out]; simp)), HRX.out.below HB10.out, HPX.out.below HB10.out, HBH.out.trans (Below.mono HB10.out HBH.out.size)⟩
                                            case measure => simp [intOf]; omega
                                      · have HA0 := Go.Lib.hid (show at0 = R by rw [HAT.out, hin]; simp [hns, hce])
                                        rw [HA0.out] at HNE
                                        rw [hin] at HHN
                                        clear hin hns hce
                                        rcases R with _ | _
                                        · as_aux_lemma =>
                                            go_wp2_with fail
                                            refine wp_region_held_drew (S := fun w' => w'.cell? ⟨P, 0, none⟩ = some (.int .i64 a) ∧ w'.cell? ⟨P, 1, none⟩ = some (.int .i64 b) ∧ w'.cell? ⟨RB, 3, none⟩ = some (.int .i64 C) ∧ w'.cell? ⟨bw, offw + n * 2, none⟩ = some (.int .i64 cn) ∧ w'.cell? ⟨bw, offw + n * 2 + 1, none⟩ = some (.slice Ah nh ch)) (by kernel_rfl) ?_ (fun hHeld => ?_)
                                            · exact ⟨p0, p1, x3, f1, f2⟩
                                            refine wpAnyH_take (i := 0) (v := ?_) rfl (by as_aux_lemma => kernel_rfl) (by as_aux_lemma => kernel_rfl) (by as_aux_lemma => kernel_rfl) (fun _ _ _ h => h) (Or.inl ⟨by rfl, ?_⟩) (by assumption) ?_
                                            rotate_left
                                            · (intro w hSw; (try dsimp only at hSw); go_simp) <;> with_reducible rfl
                                            try simp only [Act.put, List.setIfInBounds_toArray, List.set_cons_zero, List.set_cons_succ, List.getElem_toArray, List.getElem_cons_zero, List.getElem_cons_succ]
                                            refine wpAnyH_take (i := 1) (v := ?_) rfl (by as_aux_lemma => kernel_rfl) (by as_aux_lemma => kernel_rfl) (by as_aux_lemma => kernel_rfl) (fun _ _ _ h => h) (Or.inl ⟨by rfl, ?_⟩) (by assumption) ?_
                                            rotate_left
                                            · (intro w hSw; (try dsimp only at hSw); go_simp) <;> with_reducible rfl
                                            try simp only [Act.put, List.setIfInBounds_toArray, List.set_cons_zero, List.set_cons_succ, List.getElem_toArray, List.getElem_cons_zero, List.getElem_cons_succ]
                                            refine wpAnyH_take (i := 2) (v := ?_) rfl (by as_aux_lemma => kernel_rfl) (by as_aux_lemma => kernel_rfl) (by as_aux_lemma => kernel_rfl) (fun _ _ _ h => h) (Or.inl ⟨by rfl, ?_⟩) (by assumption) ?_
                                            rotate_left
                                            · (intro w hSw; (try dsimp only at hSw); go_simp) <;> with_reducible rfl
                                            try simp only [Act.put, List.setIfInBounds_toArray, List.set_cons_zero, List.set_cons_succ, List.getElem_toArray, List.getElem_cons_zero, List.getElem_cons_succ]
                                            refine wpAnyH_take (i := 3) (v := ?_) rfl (by as_aux_lemma => kernel_rfl) (by as_aux_lemma => kernel_rfl) (by as_aux_lemma => kernel_rfl) (fun _ _ _ h => h) (Or.inl ⟨by rfl, ?_⟩) (by assumption) ?_
                                            rotate_left
                                            · (intro w hSw; (try dsimp only at hSw); go_simp) <;> with_reducible rfl
                                            try simp only [Act.put, List.setIfInBounds_toArray, List.set_cons_zero, List.set_cons_succ, List.getElem_toArray, List.getElem_cons_zero, List.getElem_cons_succ]
                                            refine wpAnyH_take (i := 4) (v := ?_) rfl (by as_aux_lemma => kernel_rfl) (by as_aux_lemma => kernel_rfl) (by as_aux_lemma => kernel_rfl) (fun _ _ _ h => h) (Or.inl ⟨by rfl, ?_⟩) (by assumption) ?_
                                            rotate_left
                                            · (intro w hSw; (try dsimp only at hSw); go_simp) <;> with_reducible rfl
                                            try simp only [Act.put, List.setIfInBounds_toArray, List.set_cons_zero, List.set_cons_succ, List.getElem_toArray, List.getElem_cons_zero, List.getElem_cons_succ]
                                            refine wpAnyH_take (i := 5) (v := ?_) rfl (by as_aux_lemma => kernel_rfl) (by as_aux_lemma => kernel_rfl) (by as_aux_lemma => kernel_rfl) (fun _ _ _ h => h) (Or.inl ⟨by rfl, ?_⟩) (by assumption) ?_
                                            rotate_left
                                            · (intro w hSw; (try dsimp only at hSw); go_simp) <;> with_reducible rfl
                                            try simp only [Act.put, List.setIfInBounds_toArray, List.set_cons_zero, List.set_cons_succ, List.getElem_toArray, List.getElem_cons_zero, List.getElem_cons_succ]
                                            refine wpAnyH_take (i := 6) (v := ?_) rfl (by as_aux_lemma => kernel_rfl) (by as_aux_lemma => kernel_rfl) (by as_aux_lemma => kernel_rfl) (fun _ _ _ h => h) (Or.inl ⟨by rfl, ?_⟩) (by assumption) ?_
                                            rotate_left
                                            · (intro w hSw; (try dsimp only at hSw); go_simp) <;> with_reducible rfl
                                            try simp only [Act.put, List.setIfInBounds_toArray, List.set_cons_zero, List.set_cons_succ, List.getElem_toArray, List.getElem_cons_zero, List.getElem_cons_succ]
                                            refine wpAnyH_take (i := 7) (v := ?_) rfl (by as_aux_lemma => kernel_rfl) (by as_aux_lemma => kernel_rfl) (by as_aux_lemma => kernel_rfl) (fun _ _ _ h => h) (Or.inl ⟨by rfl, ?_⟩) (by assumption) ?_
                                            rotate_left
                                            · (intro w hSw; (try dsimp only at hSw); go_simp) <;> with_reducible rfl
                                            try simp only [Act.put, List.setIfInBounds_toArray, List.set_cons_zero, List.set_cons_succ, List.getElem_toArray, List.getElem_cons_zero, List.getElem_cons_succ]
                                            refine wpAnyH_take (i := 8) (v := ?_) rfl (by as_aux_lemma => kernel_rfl) (by as_aux_lemma => kernel_rfl) (by as_aux_lemma => kernel_rfl) (fun _ _ _ h => h) (Or.inl ⟨by rfl, ?_⟩) (by assumption) ?_
                                            rotate_left
                                            · (intro w hSw; (try dsimp only at hSw); go_simp) <;> with_reducible rfl
                                            try simp only [Act.put, List.setIfInBounds_toArray, List.set_cons_zero, List.set_cons_succ, List.getElem_toArray, List.getElem_cons_zero, List.getElem_cons_succ]
                                            refine wpAnyH_take (i := 9) (v := ?_) rfl (by as_aux_lemma => kernel_rfl) (by as_aux_lemma => kernel_rfl) (by as_aux_lemma => kernel_rfl) (fun _ _ _ h => h) (Or.inl ⟨by rfl, ?_⟩) (by assumption) ?_
                                            rotate_left
                                            · (intro w hSw; (try dsimp only at hSw); go_simp) <;> with_reducible rfl
                                            try simp only [Act.put, List.setIfInBounds_toArray, List.set_cons_zero, List.set_cons_succ, List.getElem_toArray, List.getElem_cons_zero, List.getElem_cons_succ]
                                            refine wpAnyH_take (i := 10) (v := ?_) rfl (by as_aux_lemma => kernel_rfl) (by as_aux_lemma => kernel_rfl) (by as_aux_lemma => kernel_rfl) (fun _ _ _ h => h) (Or.inl ⟨by rfl, ?_⟩) (by assumption) ?_
                                            rotate_left
                                            · (intro w hSw; (try dsimp only at hSw); go_simp) <;> with_reducible rfl
                                            try simp only [Act.put, List.setIfInBounds_toArray, List.set_cons_zero, List.set_cons_succ, List.getElem_toArray, List.getElem_cons_zero, List.getElem_cons_succ]
                                            refine wpAnyH_take (i := 11) (v := ?_) rfl (by as_aux_lemma => kernel_rfl) (by as_aux_lemma => kernel_rfl) (by as_aux_lemma => kernel_rfl) (fun _ _ _ h => h) (Or.inl ⟨by rfl, ?_⟩) (by assumption) ?_
                                            rotate_left
                                            · (intro w hSw; (try dsimp only at hSw); go_simp) <;> with_reducible rfl
                                            try simp only [Act.put, List.setIfInBounds_toArray, List.set_cons_zero, List.set_cons_succ, List.getElem_toArray, List.getElem_cons_zero, List.getElem_cons_succ]
                                            refine wpAnyH_take (i := 12) (v := ?_) rfl (by as_aux_lemma => kernel_rfl) (by as_aux_lemma => kernel_rfl) (by as_aux_lemma => kernel_rfl) (fun _ _ _ h => h) (Or.inl ⟨by rfl, ?_⟩) (by assumption) ?_
                                            rotate_left
                                            · (intro w hSw; (try dsimp only at hSw); go_simp) <;> with_reducible rfl
                                            try simp only [Act.put, List.setIfInBounds_toArray, List.set_cons_zero, List.set_cons_succ, List.getElem_toArray, List.getElem_cons_zero, List.getElem_cons_succ]
                                            refine wpAnyH_take (i := 13) (v := ?_) rfl (by as_aux_lemma => kernel_rfl) (by as_aux_lemma => kernel_rfl) (by as_aux_lemma => kernel_rfl) (fun _ _ _ h => h) (Or.inl ⟨by rfl, ?_⟩) (by assumption) ?_
                                            rotate_left
                                            · (intro w hSw; (try dsimp only at hSw); go_simp) <;> with_reducible rfl
                                            try simp only [Act.put, List.setIfInBounds_toArray, List.set_cons_zero, List.set_cons_succ, List.getElem_toArray, List.getElem_cons_zero, List.getElem_cons_succ]
                                            refine wpAnyH_take (i := 14) (v := ?_) rfl (by as_aux_lemma => kernel_rfl) (by as_aux_lemma => kernel_rfl) (by as_aux_lemma => kernel_rfl) (fun _ _ _ h => h) (Or.inl ⟨by rfl, ?_⟩) (by assumption) ?_
                                            rotate_left
                                            · (intro w hSw; (try dsimp only at hSw); go_simp) <;> with_reducible rfl
                                            try simp only [Act.put, List.setIfInBounds_toArray, List.set_cons_zero, List.set_cons_succ, List.getElem_toArray, List.getElem_cons_zero, List.getElem_cons_succ]
                                            refine wpAnyH_take (i := 15) (v := ?_) rfl (by as_aux_lemma => kernel_rfl) (by as_aux_lemma => kernel_rfl) (by as_aux_lemma => kernel_rfl) (fun _ _ _ h => h) (Or.inl ⟨by rfl, ?_⟩) (by assumption) ?_
                                            rotate_left
                                            · (intro w hSw; (try dsimp only at hSw); go_simp) <;> with_reducible rfl
                                            try simp only [Act.put, List.setIfInBounds_toArray, List.set_cons_zero, List.set_cons_succ, List.getElem_toArray, List.getElem_cons_zero, List.getElem_cons_succ]
                                            refine wpAnyH_take (i := 16) (v := ?_) rfl (by as_aux_lemma => kernel_rfl) (by as_aux_lemma => kernel_rfl) (by as_aux_lemma => kernel_rfl) (fun _ _ _ h => h) (Or.inl ⟨by rfl, ?_⟩) (by assumption) ?_
                                            rotate_left
                                            · (intro w hSw; (try dsimp only at hSw); go_simp) <;> with_reducible rfl
                                            try simp only [Act.put, List.setIfInBounds_toArray, List.set_cons_zero, List.set_cons_succ, List.getElem_toArray, List.getElem_cons_zero, List.getElem_cons_succ]
                                            refine wpAnyH_take (i := 17) (v := ?_) rfl (by as_aux_lemma => kernel_rfl) (by as_aux_lemma => kernel_rfl) (by as_aux_lemma => kernel_rfl) (fun _ _ _ h => h) (Or.inl ⟨by rfl, ?_⟩) (by assumption) ?_
                                            rotate_left
                                            · (intro w hSw; (try dsimp only at hSw); go_simp) <;> with_reducible rfl
                                            try simp only [Act.put, List.setIfInBounds_toArray, List.set_cons_zero, List.set_cons_succ, List.getElem_toArray, List.getElem_cons_zero, List.getElem_cons_succ]
                                            refine wpAnyH_take (i := 19) (v := ?_) rfl (by as_aux_lemma => kernel_rfl) (by as_aux_lemma => kernel_rfl) (by as_aux_lemma => kernel_rfl) (fun _ _ _ h => h) (Or.inl ⟨by rfl, ?_⟩) (by assumption) ?_
                                            rotate_left
                                            · (intro w hSw; (try dsimp only at hSw); go_simp) <;> with_reducible rfl
                                            try simp only [Act.put, List.setIfInBounds_toArray, List.set_cons_zero, List.set_cons_succ, List.getElem_toArray, List.getElem_cons_zero, List.getElem_cons_succ]
                                            refine wpAnyH_ready (rs := [18]) (by kernel_rfl) (by simp) ?_
                                            refine AllReadyH.cons rfl (fun K hK => ?_) AllReadyH.nil
                                            go_simp
                                            go_wp2_with (go_at_call 31; refine (HPN.out _ HBN.out.drew).mono ?_; rintro e w7 ⟨⟨v7, rfl, hs7⟩, hb7⟩; obtain ⟨A7, c7, rfl⟩ := hs7.form; have HS7 := Go.Lib.hid hs7; have hb8 := Below.trans ((Below.refl wr.heap.size wr).drew) hb7; have HB8 := Go.Lib.hid hb8; have y0 := cell_keep hb8 HPX.out.c0; have y1 := cell_keep hb8 HPX.out.c1; have y2 := cell_keep hb8 HRX.out.c3; have y3 := cell_keep hb8 HF1.out; have y4 := cell_keep hb8 HF2.out; clear hs7 hb7 hb8)
                                            refine hK.out _ _ ⟨y0, y1, y2, y3, y4⟩ (fun hS7 => ?_)
                                            clear hHeld hK K
                                            try simp only [Act.put, List.setIfInBounds_toArray, List.set_cons_zero, List.set_cons_succ, List.getElem_toArray, List.getElem_cons_zero, List.getElem_cons_succ]
                                            refine wpAnyH_ready (rs := [20]) (by kernel_rfl) (by simp) ?_
                                            refine AllReadyH.cons rfl (fun K hK => ?_) AllReadyH.nil
                                            go_simp
                                            go_wp2_with (go_at_call 30; refine (HHN.out _ _ HS7.out).mono ?_; rintro e w9 ⟨rfl, hb9⟩; have hb10 := HB8.out.trans (hb9.mono HB8.out.size); have HB10 := Go.Lib.hid hb10; have z0 := cell_keep hb10 HPX.out.c0; have z1 := cell_keep hb10 HPX.out.c1; have z2 := cell_keep hb10 HRX.out.c3; have z3 := cell_keep hb10 HF1.out; have z4 := cell_keep hb10 HF2.out; clear hb9 hb10)
                                            refine hK.out _ _ ⟨z0, z1, z2, z3, z4⟩ (fun hS9 => ?_)
                                            clear hS7 hK K
                                            try simp only [Act.put, List.setIfInBounds_toArray, List.set_cons_zero, List.set_cons_succ, List.getElem_toArray, List.getElem_cons_zero, List.getElem_cons_succ]
                                            refine wpAnyH_take (i := 21) (v := ?_) rfl (by as_aux_lemma => kernel_rfl) (by as_aux_lemma => kernel_rfl) (by as_aux_lemma => kernel_rfl) (fun _ _ _ h => h) (Or.inl ⟨by rfl, ?_⟩) (by assumption) ?_
                                            rotate_left
                                            · (intro w hSw; (try dsimp only at hSw); go_simp) <;> with_reducible rfl
                                            try simp only [Act.put, List.setIfInBounds_toArray, List.set_cons_zero, List.set_cons_succ, List.getElem_toArray, List.getElem_cons_zero, List.getElem_cons_succ]
                                            refine wpAnyH_take (i := 22) (v := ?_) rfl (by as_aux_lemma => kernel_rfl) (by as_aux_lemma => kernel_rfl) (by as_aux_lemma => kernel_rfl) (fun _ _ _ h => h) (Or.inl ⟨by rfl, ?_⟩) (by assumption) ?_
                                            rotate_left
                                            · (intro w hSw; (try dsimp only at hSw); go_simp) <;> with_reducible rfl
                                            try simp only [Act.put, List.setIfInBounds_toArray, List.set_cons_zero, List.set_cons_succ, List.getElem_toArray, List.getElem_cons_zero, List.getElem_cons_succ]
                                            refine wpAnyH_take (i := 23) (v := ?_) rfl (by as_aux_lemma => kernel_rfl) (by as_aux_lemma => kernel_rfl) (by as_aux_lemma => kernel_rfl) (fun _ _ _ h => h) (Or.inl ⟨by rfl, ?_⟩) (by assumption) ?_
                                            rotate_left
                                            · (intro w hSw; (try dsimp only at hSw); go_simp) <;> with_reducible rfl
                                            try simp only [Act.put, List.setIfInBounds_toArray, List.set_cons_zero, List.set_cons_succ, List.getElem_toArray, List.getElem_cons_zero, List.getElem_cons_succ]
                                            refine wpAnyH_take (i := 24) (v := ?_) rfl (by as_aux_lemma => kernel_rfl) (by as_aux_lemma => kernel_rfl) (by as_aux_lemma => kernel_rfl) (fun _ _ _ h => h) (Or.inl ⟨by rfl, ?_⟩) (by assumption) ?_
                                            rotate_left
                                            · (intro w hSw; (try dsimp only at hSw); go_simp) <;> with_reducible rfl
                                            try simp only [Act.put, List.setIfInBounds_toArray, List.set_cons_zero, List.set_cons_succ, List.getElem_toArray, List.getElem_cons_zero, List.getElem_cons_succ]
                                            refine wpAnyH_take (i := 25) (v := ?_) rfl (by as_aux_lemma => kernel_rfl) (by as_aux_lemma => kernel_rfl) (by as_aux_lemma => kernel_rfl) (fun _ _ _ h => h) (Or.inl ⟨by rfl, ?_⟩) (by assumption) ?_
                                            rotate_left
                                            · (intro w hSw; (try dsimp only at hSw); go_simp) <;> with_reducible rfl
                                            try simp only [Act.put, List.setIfInBounds_toArray, List.set_cons_zero, List.set_cons_succ, List.getElem_toArray, List.getElem_cons_zero, List.getElem_cons_succ]
                                            refine wpAnyH_take (i := 26) (v := ?_) rfl (by as_aux_lemma => kernel_rfl) (by as_aux_lemma => kernel_rfl) (by as_aux_lemma => kernel_rfl) (fun _ _ _ h => h) (Or.inl ⟨by rfl, ?_⟩) (by assumption) ?_
                                            rotate_left
                                            · (intro w hSw; (try dsimp only at hSw); go_simp) <;> with_reducible rfl
                                            try simp only [Act.put, List.setIfInBounds_toArray, List.set_cons_zero, List.set_cons_succ, List.getElem_toArray, List.getElem_cons_zero, List.getElem_cons_succ]
                                            refine wpAnyH_take (i := 27) (v := ?_) rfl (by as_aux_lemma => kernel_rfl) (by as_aux_lemma => kernel_rfl) (by as_aux_lemma => kernel_rfl) (fun _ _ _ h => h) (Or.inl ⟨by rfl, ?_⟩) (by assumption) ?_
                                            rotate_left
                                            · (intro w hSw; (try dsimp only at hSw); go_simp) <;> with_reducible rfl
                                            try simp only [Act.put, List.setIfInBounds_toArray, List.set_cons_zero, List.set_cons_succ, List.getElem_toArray, List.getElem_cons_zero, List.getElem_cons_succ]
                                            refine wpAnyH_take (i := 28) (v := ?_) rfl (by as_aux_lemma => kernel_rfl) (by as_aux_lemma => kernel_rfl) (by as_aux_lemma => kernel_rfl) (fun _ _ _ h => h) (Or.inl ⟨by rfl, ?_⟩) (by assumption) ?_
                                            rotate_left
                                            · (intro w hSw; (try dsimp only at hSw); go_simp) <;> with_reducible rfl
                                            try simp only [Act.put, List.setIfInBounds_toArray, List.set_cons_zero, List.set_cons_succ, List.getElem_toArray, List.getElem_cons_zero, List.getElem_cons_succ]
                                            refine wpAnyH_ready (rs := [29]) (by kernel_rfl) (by simp) ?_
                                            refine AllReadyH.cons rfl (fun K hK => ?_) AllReadyH.nil
                                            go_simp
                                            go_wp2_with (go_at_call 32; refine (HNO.out _ HB10.out).mono ?_; rintro e w11 ⟨rfl, hb11⟩; have hb12 := HB10.out.trans (hb11.mono HB10.out.size); have HB12 := Go.Lib.hid hb12; have t0 := cell_keep hb12 HPX.out.c0; have t1 := cell_keep hb12 HPX.out.c1; have t2 := cell_keep hb12 HRX.out.c3; have t3 := cell_keep hb12 HF1.out; have t4 := cell_keep hb12 HF2.out; clear hb11 hb12)
                                            refine hK.out _ _ ⟨t0, t1, t2, t3, t4⟩ (fun hS11 => ?_)
                                            clear hS9 hK K
                                            try simp only [Act.put, List.setIfInBounds_toArray, List.set_cons_zero, List.set_cons_succ, List.getElem_toArray, List.getElem_cons_zero, List.getElem_cons_succ]
                                            refine wpAnyH_take (i := 30) (v := ?_) rfl (by as_aux_lemma => kernel_rfl) (by as_aux_lemma => kernel_rfl) (by as_aux_lemma => kernel_rfl) (fun _ _ _ h => h) (Or.inl ⟨by rfl, ?_⟩) (by assumption) ?_
                                            rotate_left
                                            · (intro w hSw; (try dsimp only at hSw); go_simp) <;> with_reducible rfl
                                            try simp only [Act.put, List.setIfInBounds_toArray, List.set_cons_zero, List.set_cons_succ, List.getElem_toArray, List.getElem_cons_zero, List.getElem_cons_succ]
                                            refine wpAnyH_take (i := 31) (v := ?_) rfl (by as_aux_lemma => kernel_rfl) (by as_aux_lemma => kernel_rfl) (by as_aux_lemma => kernel_rfl) (fun _ _ _ h => h) (Or.inl ⟨by rfl, ?_⟩) (by assumption) ?_
                                            rotate_left
                                            · (intro w hSw; (try dsimp only at hSw); go_simp) <;> with_reducible rfl
                                            try simp only [Act.put, List.setIfInBounds_toArray, List.set_cons_zero, List.set_cons_succ, List.getElem_toArray, List.getElem_cons_zero, List.getElem_cons_succ]
                                            refine wpAnyH_take (i := 32) (v := ?_) rfl (by as_aux_lemma => kernel_rfl) (by as_aux_lemma => kernel_rfl) (by as_aux_lemma => kernel_rfl) (fun _ _ _ h => h) (Or.inl ⟨by rfl, ?_⟩) (by assumption) ?_
                                            rotate_left
                                            · (intro w hSw; (try dsimp only at hSw); go_simp) <;> with_reducible rfl
                                            try simp only [Act.put, List.setIfInBounds_toArray, List.set_cons_zero, List.set_cons_succ, List.getElem_toArray, List.getElem_cons_zero, List.getElem_cons_succ]
                                            refine wpAnyH_done (by kernel_rfl) ?_ _
                                            all_goals
                                              go_wp2_with fail
                                              go_roundw
                                              case rel => exact ⟨n + 1, by omega, by go_num, (by first | (rw [HNE.out]; done) | (rw [HNE.out]; simp)), HRX.out.below HB12.out, HPX.out.below HB12.out, HBH.out.trans (Below.mono HB12.out HBH.out.size)⟩
                                              case measure => simp [intOf]; omega
                                        · as_aux_lemma =>
                                            go_wp2_with fail
                                            refine wp_region_held_drew (S := fun w' => w'.cell? ⟨P, 0, none⟩ = some (.int .i64 a) ∧ w'.cell? ⟨P, 1, none⟩ = some (.int .i64 b) ∧ w'.cell? ⟨RB, 3, none⟩ = some (.int .i64 C) ∧ w'.cell? ⟨bw, offw + n * 2, none⟩ = some (.int .i64 cn) ∧ w'.cell? ⟨bw, offw + n * 2 + 1, none⟩ = some (.slice Ah nh ch)) (by kernel_rfl) ?_ (fun hHeld => ?_)
                                            · exact ⟨p0, p1, x3, f1, f2⟩
                                            refine wpAnyH_take (i := 0) (v := ?_) rfl (by as_aux_lemma => kernel_rfl) (by as_aux_lemma => kernel_rfl) (by as_aux_lemma => kernel_rfl) (fun _ _ _ h => h) (Or.inl ⟨by rfl, ?_⟩) (by assumption) ?_
                                            rotate_left
                                            · (intro w hSw; (try dsimp only at hSw); go_simp) <;> with_reducible rfl
                                            try simp only [Act.put, List.setIfInBounds_toArray, List.set_cons_zero, List.set_cons_succ, List.getElem_toArray, List.getElem_cons_zero, List.getElem_cons_succ]
                                            refine wpAnyH_take (i := 1) (v := ?_) rfl (by as_aux_lemma => kernel_rfl) (by as_aux_lemma => kernel_rfl) (by as_aux_lemma => kernel_rfl) (fun _ _ _ h => h) (Or.inl ⟨by rfl, ?_⟩) (by assumption) ?_
                                            rotate_left
                                            · (intro w hSw; (try dsimp only at hSw); go_simp) <;> with_reducible rfl
                                            try simp only [Act.put, List.setIfInBounds_toArray, List.set_cons_zero, List.set_cons_succ, List.getElem_toArray, List.getElem_cons_zero, List.getElem_cons_succ]
                                            refine wpAnyH_take (i := 2) (v := ?_) rfl (by as_aux_lemma => kernel_rfl) (by as_aux_lemma => kernel_rfl) (by as_aux_lemma => kernel_rfl) (fun _ _ _ h => h) (Or.inl ⟨by rfl, ?_⟩) (by assumption) ?_
                                            rotate_left
                                            · (intro w hSw; (try dsimp only at hSw); go_simp) <;> with_reducible rfl
                                            try simp only [Act.put, List.setIfInBounds_toArray, List.set_cons_zero, List.set_cons_succ, List.getElem_toArray, List.getElem_cons_zero, List.getElem_cons_succ]
                                            refine wpAnyH_take (i := 3) (v := ?_) rfl (by as_aux_lemma => kernel_rfl) (by as_aux_lemma => kernel_rfl) (by as_aux_lemma => kernel_rfl) (fun _ _ _ h => h) (Or.inl ⟨by rfl, ?_⟩) (by assumption) ?_
                                            rotate_left
                                            · (intro w hSw; (try dsimp only at hSw); go_simp) <;> with_reducible rfl
                                            try simp only [Act.put, List.setIfInBounds_toArray, List.set_cons_zero, List.set_cons_succ, List.getElem_toArray, List.getElem_cons_zero, List.getElem_cons_succ]
                                            refine wpAnyH_take (i := 4) (v := ?_) rfl (by as_aux_lemma => kernel_rfl) (by as_aux_lemma => kernel_rfl) (by as_aux_lemma => kernel_rfl) (fun _ _ _ h => h) (Or.inl ⟨by rfl, ?_⟩) (by assumption) ?_
                                            rotate_left
                                            · (intro w hSw; (try dsimp only at hSw); go_simp) <;> with_reducible rfl
                                            try simp only [Act.put, List.setIfInBounds_toArray, List.set_cons_zero, List.set_cons_succ, List.getElem_toArray, List.getElem_cons_zero, List.getElem_cons_succ]
                                            refine wpAnyH_take (i := 5) (v := ?_) rfl (by as_aux_lemma => kernel_rfl) (by as_aux_lemma => kernel_rfl) (by as_aux_lemma => kernel_rfl) (fun _ _ _ h => h) (Or.inl ⟨by rfl, ?_⟩) (by assumption) ?_
                                            rotate_left
                                            · (intro w hSw; (try dsimp only at hSw); go_simp) <;> with_reducible rfl
                                            try simp only [Act.put, List.setIfInBounds_toArray, List.set_cons_zero, List.set_cons_succ, List.getElem_toArray, List.getElem_cons_zero, List.getElem_cons_succ]
                                            refine wpAnyH_take (i := 6) (v := ?_) rfl (by as_aux_lemma => kernel_rfl) (by as_aux_lemma => kernel_rfl) (by as_aux_lemma => kernel_rfl) (fun _ _ _ h => h) (Or.inl ⟨by rfl, ?_⟩) (by assumption) ?_
                                            rotate_left
                                            · (intro w hSw; (try dsimp only at hSw); go_simp) <;> with_reducible rfl
                                            try simp only [Act.put, List.setIfInBounds_toArray, List.set_cons_zero, List.set_cons_succ, List.getElem_toArray, List.getElem_cons_zero, List.getElem_cons_succ]
                                            refine wpAnyH_take (i := 7) (v := ?_) rfl (by as_aux_lemma => kernel_rfl) (by as_aux_lemma => kernel_rfl) (by as_aux_lemma => kernel_rfl) (fun _ _ _ h => h) (Or.inl ⟨by rfl, ?_⟩) (by assumption) ?_
                                            rotate_left
                                            · (intro w hSw; (try dsimp only at hSw); go_simp) <;> with_reducible rfl
                                            try simp only [Act.put, List.setIfInBounds_toArray, List.set_cons_zero, List.set_cons_succ, List.getElem_toArray, List.getElem_cons_zero, List.getElem_cons_succ]
                                            refine wpAnyH_take (i := 8) (v := ?_) rfl (by as_aux_lemma => kernel_rfl) (by as_aux_lemma => kernel_rfl) (by as_aux_lemma => kernel_rfl) (fun _ _ _ h => h) (Or.inl ⟨by rfl, ?_⟩) (by assumption) ?_
                                            rotate_left
                                            · (intro w hSw; (try dsimp only at hSw); go_simp) <;> with_reducible rfl
                                            try simp only [Act.put, List.setIfInBounds_toArray, List.set_cons_zero, List.set_cons_succ, List.getElem_toArray, List.getElem_cons_zero, List.getElem_cons_succ]
                                            refine wpAnyH_take (i := 9) (v := ?_) rfl (by as_aux_lemma => kernel_rfl) (by as_aux_lemma => kernel_rfl) (by as_aux_lemma => kernel_rfl) (fun _ _ _ h => h) (Or.inl ⟨by rfl, ?_⟩) (by assumption) ?_
                                            rotate_left
                                            · (intro w hSw; (try dsimp only at hSw); go_simp) <;> with_reducible rfl
                                            try simp only [Act.put, List.setIfInBounds_toArray, List.set_cons_zero, List.set_cons_succ, List.getElem_toArray, List.getElem_cons_zero, List.getElem_cons_succ]
                                            refine wpAnyH_take (i := 10) (v := ?_) rfl (by as_aux_lemma => kernel_rfl) (by as_aux_lemma => kernel_rfl) (by as_aux_lemma => kernel_rfl) (fun _ _ _ h => h) (Or.inl ⟨by rfl, ?_⟩) (by assumption) ?_
                                            rotate_left
                                            · (intro w hSw; (try dsimp only at hSw); go_simp) <;> with_reducible rfl
                                            try simp only [Act.put, List.setIfInBounds_toArray, List.set_cons_zero, List.set_cons_succ, List.getElem_toArray, List.getElem_cons_zero, List.getElem_cons_succ]
                                            refine wpAnyH_take (i := 11) (v := ?_) rfl (by as_aux_lemma => kernel_rfl) (by as_aux_lemma => kernel_rfl) (by as_aux_lemma => kernel_rfl) (fun _ _ _ h => h) (Or.inl ⟨by rfl, ?_⟩) (by assumption) ?_
                                            rotate_left
                                            · (intro w hSw; (try dsimp only at hSw); go_simp) <;> with_reducible rfl
                                            try simp only [Act.put, List.setIfInBounds_toArray, List.set_cons_zero, List.set_cons_succ, List.getElem_toArray, List.getElem_cons_zero, List.getElem_cons_succ]
                                            refine wpAnyH_take (i := 12) (v := ?_) rfl (by as_aux_lemma => kernel_rfl) (by as_aux_lemma => kernel_rfl) (by as_aux_lemma => kernel_rfl) (fun _ _ _ h => h) (Or.inl ⟨by rfl, ?_⟩) (by assumption) ?_
                                            rotate_left
                                            · (intro w hSw; (try dsimp only at hSw); go_simp) <;> with_reducible rfl
                                            try simp only [Act.put, List.setIfInBounds_toArray, List.set_cons_zero, List.set_cons_succ, List.getElem_toArray, List.getElem_cons_zero, List.getElem_cons_succ]
                                            refine wpAnyH_take (i := 13) (v := ?_) rfl (by as_aux_lemma => kernel_rfl) (by as_aux_lemma => kernel_rfl) (by as_aux_lemma => kernel_rfl) (fun _ _ _ h => h) (Or.inl ⟨by rfl, ?_⟩) (by assumption) ?_
                                            rotate_left
                                            · (intro w hSw; (try dsimp only at hSw); go_simp) <;> with_reducible rfl
                                            try simp only [Act.put, List.setIfInBounds_toArray, List.set_cons_zero, List.set_cons_succ, List.getElem_toArray, List.getElem_cons_zero, List.getElem_cons_succ]
                                            refine wpAnyH_take (i := 14) (v := ?_) rfl (by as_aux_lemma => kernel_rfl) (by as_aux_lemma => kernel_rfl) (by as_aux_lemma => kernel_rfl) (fun _ _ _ h => h) (Or.inl ⟨by rfl, ?_⟩) (by assumption) ?_
                                            rotate_left
                                            · (intro w hSw; (try dsimp only at hSw); go_simp) <;> with_reducible rfl
                                            try simp only [Act.put, List.setIfInBounds_toArray, List.set_cons_zero, List.set_cons_succ, List.getElem_toArray, List.getElem_cons_zero, List.getElem_cons_succ]
                                            refine wpAnyH_take (i := 15) (v := ?_) rfl (by as_aux_lemma => kernel_rfl) (by as_aux_lemma => kernel_rfl) (by as_aux_lemma => kernel_rfl) (fun _ _ _ h => h) (Or.inl ⟨by rfl, ?_⟩) (by assumption) ?_
                                            rotate_left
                                            · (intro w hSw; (try dsimp only at hSw); go_simp) <;> with_reducible rfl
                                            try simp only [Act.put, List.setIfInBounds_toArray, List.set_cons_zero, List.set_cons_succ, List.getElem_toArray, List.getElem_cons_zero, List.getElem_cons_succ]
                                            refine wpAnyH_take (i := 16) (v := ?_) rfl (by as_aux_lemma => kernel_rfl) (by as_aux_lemma => kernel_rfl) (by as_aux_lemma => kernel_rfl) (fun _ _ _ h => h) (Or.inl ⟨by rfl, ?_⟩) (by assumption) ?_
                                            rotate_left
                                            · (intro w hSw; (try dsimp only at hSw); go_simp) <;> with_reducible rfl
                                            try simp only [Act.put, List.setIfInBounds_toArray, List.set_cons_zero, List.set_cons_succ, List.getElem_toArray, List.getElem_cons_zero, List.getElem_cons_succ]
                                            refine wpAnyH_take (i := 17) (v := ?_) rfl (by as_aux_lemma => kernel_rfl) (by as_aux_lemma => kernel_rfl) (by as_aux_lemma => kernel_rfl) (fun _ _ _ h => h) (Or.inl ⟨by rfl, ?_⟩) (by assumption) ?_
                                            rotate_left
                                            · (intro w hSw; (try dsimp only at hSw); go_simp) <;> with_reducible rfl
                                            try simp only [Act.put, List.setIfInBounds_toArray, List.set_cons_zero, List.set_cons_succ, List.getElem_toArray, List.getElem_cons_zero, List.getElem_cons_succ]
                                            refine wpAnyH_take (i := 19) (v := ?_) rfl (by as_aux_lemma => kernel_rfl) (by as_aux_lemma => kernel_rfl) (by as_aux_lemma => kernel_rfl) (fun _ _ _ h => h) (Or.inl ⟨by rfl, ?_⟩) (by assumption) ?_
                                            rotate_left
                                            · (intro w hSw; (try dsimp only at hSw); go_simp) <;> with_reducible rfl
                                            try simp only [Act.put, List.setIfInBounds_toArray, List.set_cons_zero, List.set_cons_succ, List.getElem_toArray, List.getElem_cons_zero, List.getElem_cons_succ]
                                            refine wpAnyH_ready (rs := [18]) (by kernel_rfl) (by simp) ?_
                                            refine AllReadyH.cons rfl (fun K hK => ?_) AllReadyH.nil
                                            go_simp
                                            go_wp2_with (go_at_call 31; refine (HPN.out _ HBN.out.drew).mono ?_; rintro e w7 ⟨⟨v7, rfl, hs7⟩, hb7⟩; obtain ⟨A7, c7, rfl⟩ := hs7.form; have HS7 := Go.Lib.hid hs7; have hb8 := Below.trans ((Below.refl wr.heap.size wr).drew) hb7; have HB8 := Go.Lib.hid hb8; have y0 := cell_keep hb8 HPX.out.c0; have y1 := cell_keep hb8 HPX.out.c1; have y2 := cell_keep hb8 HRX.out.c3; have y3 := cell_keep hb8 HF1.out; have y4 := cell_keep hb8 HF2.out; clear hs7 hb7 hb8)
                                            refine hK.out _ _ ⟨y0, y1, y2, y3, y4⟩ (fun hS7 => ?_)
                                            clear hHeld hK K
                                            try simp only [Act.put, List.setIfInBounds_toArray, List.set_cons_zero, List.set_cons_succ, List.getElem_toArray, List.getElem_cons_zero, List.getElem_cons_succ]
                                            refine wpAnyH_ready (rs := [20]) (by kernel_rfl) (by simp) ?_
                                            refine AllReadyH.cons rfl (fun K hK => ?_) AllReadyH.nil
                                            go_simp
                                            go_wp2_with (go_at_call 30; refine (HHN.out _ _ HS7.out).mono ?_; rintro e w9 ⟨rfl, hb9⟩; have hb10 := HB8.out.trans (hb9.mono HB8.out.size); have HB10 := Go.Lib.hid hb10; have z0 := cell_keep hb10 HPX.out.c0; have z1 := cell_keep hb10 HPX.out.c1; have z2 := cell_keep hb10 HRX.out.c3; have z3 := cell_keep hb10 HF1.out; have z4 := cell_keep hb10 HF2.out; clear hb9 hb10)
                                            refine hK.out _ _ ⟨z0, z1, z2, z3, z4⟩ (fun hS9 => ?_)
                                            clear hS7 hK K
                                            try simp only [Act.put, List.setIfInBounds_toArray, List.set_cons_zero, List.set_cons_succ, List.getElem_toArray, List.getElem_cons_zero, List.getElem_cons_succ]
                                            refine wpAnyH_take (i := 21) (v := ?_) rfl (by as_aux_lemma => kernel_rfl) (by as_aux_lemma => kernel_rfl) (by as_aux_lemma => kernel_rfl) (fun _ _ _ h => h) (Or.inl ⟨by rfl, ?_⟩) (by assumption) ?_
                                            rotate_left
                                            · (intro w hSw; (try dsimp only at hSw); go_simp) <;> with_reducible rfl
                                            try simp only [Act.put, List.setIfInBounds_toArray, List.set_cons_zero, List.set_cons_succ, List.getElem_toArray, List.getElem_cons_zero, List.getElem_cons_succ]
                                            refine wpAnyH_take (i := 22) (v := ?_) rfl (by as_aux_lemma => kernel_rfl) (by as_aux_lemma => kernel_rfl) (by as_aux_lemma => kernel_rfl) (fun _ _ _ h => h) (Or.inl ⟨by rfl, ?_⟩) (by assumption) ?_
                                            rotate_left
                                            · (intro w hSw; (try dsimp only at hSw); go_simp) <;> with_reducible rfl
                                            try simp only [Act.put, List.setIfInBounds_toArray, List.set_cons_zero, List.set_cons_succ, List.getElem_toArray, List.getElem_cons_zero, List.getElem_cons_succ]
                                            refine wpAnyH_take (i := 23) (v := ?_) rfl (by as_aux_lemma => kernel_rfl) (by as_aux_lemma => kernel_rfl) (by as_aux_lemma => kernel_rfl) (fun _ _ _ h => h) (Or.inl ⟨by rfl, ?_⟩) (by assumption) ?_
                                            rotate_left
                                            · (intro w hSw; (try dsimp only at hSw); go_simp) <;> with_reducible rfl
                                            try simp only [Act.put, List.setIfInBounds_toArray, List.set_cons_zero, List.set_cons_succ, List.getElem_toArray, List.getElem_cons_zero, List.getElem_cons_succ]
                                            refine wpAnyH_take (i := 24) (v := ?_) rfl (by as_aux_lemma => kernel_rfl) (by as_aux_lemma => kernel_rfl) (by as_aux_lemma => kernel_rfl) (fun _ _ _ h => h) (Or.inl ⟨by rfl, ?_⟩) (by assumption) ?_
                                            rotate_left
                                            · (intro w hSw; (try dsimp only at hSw); go_simp) <;> with_reducible rfl
                                            try simp only [Act.put, List.setIfInBounds_toArray, List.set_cons_zero, List.set_cons_succ, List.getElem_toArray, List.getElem_cons_zero, List.getElem_cons_succ]
                                            refine wpAnyH_take (i := 25) (v := ?_) rfl (by as_aux_lemma => kernel_rfl) (by as_aux_lemma => kernel_rfl) (by as_aux_lemma => kernel_rfl) (fun _ _ _ h => h) (Or.inl ⟨by rfl, ?_⟩) (by assumption) ?_
                                            rotate_left
                                            · (intro w hSw; (try dsimp only at hSw); go_simp) <;> with_reducible rfl
                                            try simp only [Act.put, List.setIfInBounds_toArray, List.set_cons_zero, List.set_cons_succ, List.getElem_toArray, List.getElem_cons_zero, List.getElem_cons_succ]
                                            refine wpAnyH_take (i := 26) (v := ?_) rfl (by as_aux_lemma => kernel_rfl) (by as_aux_lemma => kernel_rfl) (by as_aux_lemma => kernel_rfl) (fun _ _ _ h => h) (Or.inl ⟨by rfl, ?_⟩) (by assumption) ?_
                                            rotate_left
                                            · (intro w hSw; (try dsimp only at hSw); go_simp) <;> with_reducible rfl
                                            try simp only [Act.put, List.setIfInBounds_toArray, List.set_cons_zero, List.set_cons_succ, List.getElem_toArray, List.getElem_cons_zero, List.getElem_cons_succ]
                                            refine wpAnyH_take (i := 27) (v := ?_) rfl (by as_aux_lemma => kernel_rfl) (by as_aux_lemma => kernel_rfl) (by as_aux_lemma => kernel_rfl) (fun _ _ _ h => h) (Or.inl ⟨by rfl, ?_⟩) (by assumption) ?_
                                            rotate_left
                                            · (intro w hSw; (try dsimp only at hSw); go_simp) <;> with_reducible rfl
                                            try simp only [Act.put, List.setIfInBounds_toArray, List.set_cons_zero, List.set_cons_succ, List.getElem_toArray, List.getElem_cons_zero, List.getElem_cons_succ]
                                            refine wpAnyH_take (i := 28) (v := ?_) rfl (by as_aux_lemma => kernel_rfl) (by as_aux_lemma => kernel_rfl) (by as_aux_lemma => kernel_rfl) (fun _ _ _ h => h) (Or.inl ⟨by rfl, ?_⟩) (by assumption) ?_
                                            rotate_left
                                            · (intro w hSw; (try dsimp only at hSw); go_simp) <;> with_reducible rfl
                                            try simp only [Act.put, List.setIfInBounds_toArray, List.set_cons_zero, List.set_cons_succ, List.getElem_toArray, List.getElem_cons_zero, List.getElem_cons_succ]
                                            refine wpAnyH_ready (rs := [29]) (by kernel_rfl) (by simp) ?_
                                            refine AllReadyH.cons rfl (fun K hK => ?_) AllReadyH.nil
                                            go_simp
                                            go_wp2_with (go_at_call 32; refine (HNO.out _ HB10.out).mono ?_; rintro e w11 ⟨rfl, hb11⟩; have hb12 := HB10.out.trans (hb11.mono HB10.out.size); have HB12 := Go.Lib.hid hb12; have t0 := cell_keep hb12 HPX.out.c0; have t1 := cell_keep hb12 HPX.out.c1; have t2 := cell_keep hb12 HRX.out.c3; have t3 := cell_keep hb12 HF1.out; have t4 := cell_keep hb12 HF2.out; clear hb11 hb12)
                                            refine hK.out _ _ ⟨t0, t1, t2, t3, t4⟩ (fun hS11 => ?_)
                                            clear hS9 hK K
                                            try simp only [Act.put, List.setIfInBounds_toArray, List.set_cons_zero, List.set_cons_succ, List.getElem_toArray, List.getElem_cons_zero, List.getElem_cons_succ]
                                            refine wpAnyH_take (i := 30) (v := ?_) rfl (by as_aux_lemma => kernel_rfl) (by as_aux_lemma => kernel_rfl) (by as_aux_lemma => kernel_rfl) (fun _ _ _ h => h) (Or.inl ⟨by rfl, ?_⟩) (by assumption) ?_
                                            rotate_left
                                            · (intro w hSw; (try dsimp only at hSw); go_simp) <;> with_reducible rfl
                                            try simp only [Act.put, List.setIfInBounds_toArray, List.set_cons_zero, List.set_cons_succ, List.getElem_toArray, List.getElem_cons_zero, List.getElem_cons_succ]
                                            refine wpAnyH_take (i := 31) (v := ?_) rfl (by as_aux_lemma => kernel_rfl) (by as_aux_lemma => kernel_rfl) (by as_aux_lemma => kernel_rfl) (fun _ _ _ h => h) (Or.inl ⟨by rfl, ?_⟩) (by assumption) ?_
                                            rotate_left
                                            · (intro w hSw; (try dsimp only at hSw); go_simp) <;> with_reducible rfl
                                            try simp only [Act.put, List.setIfInBounds_toArray, List.set_cons_zero, List.set_cons_succ, List.getElem_toArray, List.getElem_cons_zero, List.getElem_cons_succ]
                                            refine wpAnyH_take (i := 32) (v := ?_) rfl (by as_aux_lemma => kernel_rfl) (by as_aux_lemma => kernel_rfl) (by as_aux_lemma => kernel_rfl) (fun _ _ _ h => h) (Or.inl ⟨by rfl, ?_⟩) (by assumption) ?_
                                            rotate_left
                                            · (intro w hSw; (try dsimp only at hSw); go_simp) <;> with_reducible rfl
                                            try simp only [Act.put, List.setIfInBounds_toArray, List.set_cons_zero, List.set_cons_succ, List.getElem_toArray, List.getElem_cons_zero, List.getElem_cons_succ]
                                            refine wpAnyH_done (by kernel_rfl) ?_ _
                                            all_goals
                                              go_wp2_with fail
                                              go_roundw
                                              case rel => exact ⟨n + 1, by omega, by go_num, (by first | (rw [HNE.out]; done) | (rw [HNE.out]; simp)), HRX.out.below HB12.out, HPX.out.below HB12.out, HBH.out.trans (Below.mono HB12.out HBH.out.size)⟩
                                              case measure => simp [intOf]; omega
                                    · have g2 : (cn == C) = false := by rw [beq_eq_false_iff_ne]; exact hce
                                      have HA0 := Go.Lib.hid (show at0 = false by rw [HAT.out]; simp [hce])
                                      rw [HA0.out] at HNE
                                      clear hns hce
                                      as_aux_lemma =>
                                        go_wp2_with fail
                                        go_quiet (fail)
                                        obtain ⟨q1, rfl⟩ : ∃ m, m = nq := ⟨nq, rfl⟩
                                        have HBQ := Go.Lib.hid (bDrewN (Below.refl wr.heap.size wr) q1)
                                        go_wp2_with fail
                                        go_roundw
                                        case rel => exact ⟨n + 1, by omega, by go_num, (by first | (rw [HNE.out]; done) | (rw [HNE.out]; simp)), HRX.out.below HBQ.out, HPX.out.below HBQ.out, HBH.out.trans (Below.mono HBQ.out HBH.out.size)⟩
                                        case measure => simp [intOf]; omega
                                · rw [Bool.true_or] at HNE
                                  as_aux_lemma =>
                                    go_wp2_with fail
                                    go_quiet (fail)
                                    obtain ⟨q1, rfl⟩ : ∃ m, m = nq := ⟨nq, rfl⟩
                                    have HBQ := Go.Lib.hid (bDrewN (Below.refl wr.heap.size wr) q1)
                                    go_wp2_with fail
                                    go_roundw
                                    case rel => exact ⟨n + 1, by omega, by go_num, (by first | (rw [HNE.out]; done) | (rw [HNE.out]; simp)), HRX.out.below HBQ.out, HPX.out.below HBQ.out, HBH.out.trans (Below.mono HBQ.out HBH.out.size)⟩
                                    case measure => simp [intOf]; omega
                              · obtain rfl : n = 12 := by omega
                                have hni : ¬ (((12 : Nat) : Int) < 12) := by omega
                                have HSU := Go.Lib.hid (show refHops xs s ⟨a, b⟩ C (h + 1) = if refHas xs s ⟨a, b⟩ C (h : Int) 12 = true then refHops xs s ⟨a, b⟩ C h ++ [(h : Int)] else refHops xs s ⟨a, b⟩ C h from rfl)
                                have x4 := HRX.out.c4
                                have x4f := HRX.out.fz 4
                                have hln9 : (refHops xs s ⟨a, b⟩ C h).length ≤ 12 := by
                                  rw [refHops_filter]
                                  refine Nat.le_trans (List.length_filter_le _ _) ?_
                                  simp; omega
                                have HL9 := Go.Lib.hid (show (refHops xs s ⟨a, b⟩ C h).length + 1 ≤ 1000000000000 by omega)
                                clear hln9 p0 p1
                                rcases hR : refHas xs s ⟨a, b⟩ C (h : Int) 12 with _ | _
                                · rw [hR, if_neg (by simp)] at HSU
                                  clear hR
                                  go_wp2_with fail
                                  go_roundw
                                  case rel => exact ⟨h + 1, _, by omega, by go_num, HRX.out, by rw [if_neg (Int.not_lt.2 HNC.out), HSU.out]; exact HOV5.out, HPX.out, HBX5.out⟩
                                  case measure => simp [intOf]; omega
                                · rw [hR, if_pos rfl] at HSU
                                  clear hR
                                  have HHR := Go.Lib.hid (show inR (h : Int) by unfold inR; omega)
                                  go_wp2_with (at_builtin; refine wpList_gen (base := RB + 1) elt_int rfl (.tmp 144) (.tmp 146) rfl (ow_alloc HOV5.out _) (one_flat (r := intR) (cs := [.int .i64 h]) (x := (h : Int)) rfl ⟨rfl, HHR.out⟩) (fun _ _ h => h) rfl rfl HL9.out (by decide) ?_; intro v5 w5 ho5 hg5; obtain ⟨A9, n9, c9, rfl⟩ := ow_form ho5 (by decide); have hk5 := fun k (hk : k < RB + 1) (hl : k < wr.heap.size) => (hg5.grown.block k (by simp; omega) (fun e => by have := (HOV5.out.base_le k e.symm).1; omega)).trans (Below.heap_alloc wr _ k hl); have HRX6 := Go.Lib.hid (HRX.out.keep (hk5 RB (Nat.lt_succ_self _) HRX.out.lt)); have HPX6 := Go.Lib.hid (HPX.out.keep (hk5 P (by have h1 := HPW.out; have h2 := HRB.out; omega) HPX.out.lt)); have HB6 := Go.Lib.hid (below_growI (HBX5.out.alloc HBX5.out.size (.cells #[.int .i64 h] 3)) (ow_alloc HOV5.out (.cells #[.int .i64 h] 3)) hg5 (Nat.le_trans HRB.out (Nat.le_succ RB))); have HO6 := Go.Lib.hid ho5; have u4 := HRX6.out.c4; have u4f := HRX6.out.fz 4; clear hk5 hg5 ho5)
                                  go_roundw
                                  case rel => exact ⟨h + 1, _, by omega, by go_num, HRX6.out.setV _, by rw [if_neg (Int.not_lt.2 HNC.out), HSU.out]; exact ow_set HO6.out (p := ⟨RB, 4, none⟩) (Nat.lt_succ_self RB) _ (fun _ _ h => h), HPX6.out.keep (Below.heap_setCell _ _ _ _ (by show P ≠ RB; have h1 := HPW.out; have h2 := HRB.out; omega)), HB6.out.setCell (p := ⟨RB, 4, none⟩) (by exact HRB.out) _⟩
                                  case measure => simp [intOf]; omega
                          · obtain rfl : h = 12 := by omega
                            have hhi : ¬ (((12 : Nat) : Int) < 12) := by omega
                            rw [if_neg hC] at HOV
                            have HFN := Go.Lib.hid (show refAt xs s ⟨a, b⟩ = [⟨⟨a, b⟩, false, C, refHops xs s ⟨a, b⟩ C 12⟩] by rw [HRA.out, HRR.out, if_neg hC]; rfl)
                            have HWF := Go.Lib.hid (show (⟨⟨a, b⟩, false, C, refHops xs s ⟨a, b⟩ C 12⟩ : Route).wf by
                              have h9 := HCR.out
                              refine ⟨?_, ?_, ?_⟩ <;> (unfold inR; simp; try omega))
                            have x0 := HRX.out.c0
                            have x1 := HRX.out.c1
                            have x2 := HRX.out.c2
                            have x4 := HRX.out.c4
                            have HSS := Go.Lib.hid (fun k (hk : k < wr.heap.size ∧ RB + 1 ≤ k) => (show k < wr.heap.size ∧ (Value.slice A5 n5 c5).ownBlock ≠ some k from ⟨hk.1, fun e => by have h1 := (HO1.out.base_le k e).2; have h2 := HRB.out; have h3 := hk.2; omega⟩))
                            clear hC
                            go_wp2_with (at_builtin; refine wpList_route (base := w1.heap.size) (r := ⟨⟨a, b⟩, false, C, refHops xs s ⟨a, b⟩ C 12⟩) (S := fun k => k < wr.heap.size ∧ RB + 1 ≤ k) rfl (.tmp 152) (.tmp 154) rfl (HO1.out.keep HBX.out) HOV.out.slF HWF.out HSS.out rfl rfl rfl HLN.out ?_; intro v5 w5 ho5 hg5)
                            go_roundw
                            case rel => exact ⟨b + 1, by omega, by go_num, by rw [HNX.out, HFN.out]; exact ho5, below_grow ((HBA.out.trans (HBX.out.mono HBA.out.size)).alloc (by have h1 := HBA.out.size; have h2 := HBX.out.size; omega) _) ((HO1.out.keep HBX.out).alloc1 _) hg5⟩
                            case measure => simp [intOf]; omega
              · rw [hin] at HHP
                have HRR := Go.Lib.hid (show refAt xs s ⟨a, b⟩ = [⟨⟨a, b⟩, true, 0, []⟩] by rw [HRA.out]; unfold refRoute; rw [if_pos hin]; rfl)
                have HWF := Go.Lib.hid (show (⟨⟨a, b⟩, true, 0, []⟩ : Route).wf by refine ⟨?_, ?_, ?_⟩ <;> (unfold inR; simp; try omega))
                clear hin
                have p0 := HPX.out.c0
                have p1 := HPX.out.c1
                refine wp_region_held_drew (S := fun w' => w'.cell? ⟨P, 0, none⟩ = some (.int .i64 a) ∧ w'.cell? ⟨P, 1, none⟩ = some (.int .i64 b)) (by kernel_rfl) ?_ (fun hHeld => ?_)
                · exact ⟨p0, p1⟩
                refine wpAnyH_take (i := 0) (v := ?_) rfl (by as_aux_lemma => kernel_rfl) (by as_aux_lemma => kernel_rfl) (by as_aux_lemma => kernel_rfl) (fun _ _ _ h => h) (Or.inl ⟨by rfl, ?_⟩) (by assumption) ?_
                rotate_left
                · (intro w hSw; (try dsimp only at hSw); go_simp) <;> with_reducible rfl
                try simp only [Act.put, List.setIfInBounds_toArray, List.set_cons_zero, List.set_cons_succ, List.getElem_toArray, List.getElem_cons_zero, List.getElem_cons_succ]
                refine wpAnyH_take (i := 1) (v := ?_) rfl (by as_aux_lemma => kernel_rfl) (by as_aux_lemma => kernel_rfl) (by as_aux_lemma => kernel_rfl) (fun _ _ _ h => h) (Or.inl ⟨by rfl, ?_⟩) (by assumption) ?_
                rotate_left
                · (intro w hSw; (try dsimp only at hSw); go_simp) <;> with_reducible rfl
                try simp only [Act.put, List.setIfInBounds_toArray, List.set_cons_zero, List.set_cons_succ, List.getElem_toArray, List.getElem_cons_zero, List.getElem_cons_succ]
                refine wpAnyH_take (i := 3) (v := ?_) rfl (by as_aux_lemma => kernel_rfl) (by as_aux_lemma => kernel_rfl) (by as_aux_lemma => kernel_rfl) (fun _ _ _ h => h) (Or.inl ⟨by rfl, ?_⟩) (by assumption) ?_
                rotate_left
                · (intro w hSw; (try dsimp only at hSw); go_simp) <;> with_reducible rfl
                try simp only [Act.put, List.setIfInBounds_toArray, List.set_cons_zero, List.set_cons_succ, List.getElem_toArray, List.getElem_cons_zero, List.getElem_cons_succ]
                refine wpAnyH_ready (rs := [2]) (by kernel_rfl) (by simp) ?_
                refine AllReadyH.cons rfl (fun K hK => ?_) AllReadyH.nil
                go_simp
                go_wp2_with (go_at_call 31; refine (HPS.out _ HBW.out.drew).mono ?_; rintro e w3 ⟨⟨v3, rfl, hs3⟩, hb3⟩; obtain ⟨A3, c3, rfl⟩ := hs3.form; have HS3 := Go.Lib.hid hs3; have hb5 := Below.trans ((Below.refl W2.heap.size W2).drew) hb3; have HB3 := Go.Lib.hid hb5; have y0 := cell_keep hb5 HPX.out.c0; have y1 := cell_keep hb5 HPX.out.c1; clear hs3 hb3 hb5)
                refine hK.out _ _ ⟨y0, y1⟩ (fun hS3 => ?_)
                clear hHeld hK K
                try simp only [Act.put, List.setIfInBounds_toArray, List.set_cons_zero, List.set_cons_succ, List.getElem_toArray, List.getElem_cons_zero, List.getElem_cons_succ]
                refine wpAnyH_ready (rs := [4]) (by kernel_rfl) (by simp) ?_
                refine AllReadyH.cons rfl (fun K hK => ?_) AllReadyH.nil
                go_simp
                go_wp2_with (go_at_call 30; refine (HHP.out _ _ HS3.out).mono ?_; rintro e w4 ⟨rfl, hb4⟩; have hb6 := HB3.out.trans (hb4.mono HB3.out.size); have HB4 := Go.Lib.hid hb6; have x0 := cell_keep hb6 HPX.out.c0; have x1 := cell_keep hb6 HPX.out.c1; clear hb4 hb6)
                refine hK.out _ _ ⟨x0, x1⟩ (fun hS4 => ?_)
                clear hS3 hK K
                try simp only [Act.put, List.setIfInBounds_toArray, List.set_cons_zero, List.set_cons_succ, List.getElem_toArray, List.getElem_cons_zero, List.getElem_cons_succ]
                refine wpAnyH_done (by kernel_rfl) ?_ _
                clear hS4
                all_goals
                  go_wp2_with (at_builtin; refine wpList_route (base := w1.heap.size) (r := ⟨⟨a, b⟩, true, 0, []⟩) (S := fun _ => False) rfl (.tmp 47) (.tmp 50) rfl (HO1.out.keep HB4.out) ⟨none, 0, rfl, by simp, by simp [maxLen], fun i x h => by simp at h⟩ HWF.out (fun k hk => hk.elim) rfl rfl rfl HLN.out ?_; intro v5 w5 ho5 hg5)
                  go_roundw
                  case rel => exact ⟨b + 1, by omega, by go_num, by rw [HNX.out, HRR.out]; exact ho5, below_grow ((HBA.out.trans (HB4.out.mono HBA.out.size)).alloc (by have h1 := HBA.out.size; have h2 := HB4.out.size; omega) _) ((HO1.out.keep HB4.out).alloc1 _) hg5⟩
                  case measure => simp [intOf]; omega
            · have hme : ((a : Int) % sp != 0) = true := by rw [bne_iff_ne]; exact hmz
              have HRA := Go.Lib.hid (show refAt xs s ⟨a, b⟩ = [] by unfold refAt; rw [if_pos]; show (a : Int) % spanN (b : Int) ≠ 0; rw [← HSPE.out]; exact hmz)
              have hal := (Below.refl wr.heap.size wr).alloc (Nat.le_refl _) (.cells #[.int .i64 a, .int .i64 b] 62)
              have HAL := Go.Lib.hid hal
              clear hal hmz
              go_wp2_with (go_at_call 29; refine (HSP.out _).mono ?_; rintro e w' ⟨rfl, rfl⟩)
              go_roundw
              case rel => exact ⟨b + 1, by omega, by go_num, by rw [HNX.out, HRA.out, List.append_nil]; exact HO.out.keep HAL.out, HB.out.trans (HAL.out.mono HB.out.size)⟩
              case measure => simp [intOf]; omega
          · obtain rfl : b = 9 := by omega
            have HTE := Go.Lib.hid (show refTab xs s a ++ refBits xs s a 9 = refTab xs s (a + 1) from rfl)
            have hbi : ¬ (((9 : Nat) : Int) ≤ 8) := by omega
            go_wp2_with fail
            go_roundw
            case rel => exact ⟨a + 1, by omega, by go_num, by rw [← HTE.out]; exact HO.out, HB.out⟩
            case measure => simp [intOf]; omega
      · obtain rfl : a = 256 := by omega
        have hai : ¬ (((256 : Nat) : Int) ≤ 255) := by omega
        go_wp2_with fail
        go_ret2
        exact tb_fin HT.out (HO.out.lower HB1.out.size) (HB1.out.trans (HB.out.mono HB1.out.size))
  · have hcb : ((waysS xs f).2 != 0) = true := by rw [bne_iff_ne]; exact hc
    have HT := Go.Lib.hid (show tableS xs f = ([], (waysS xs f).2) by rw [tableS_ref, if_pos hc])
    generalize waysS xs f = g at *
    obtain ⟨ys, n⟩ := g
    clear hc
    go_enter Tryz.func9, Tryz.ntmps9
    go_wp2_with (go_at_call 28; refine HW.out.mono ?_; rintro e w1 ⟨v1, rfl, hs1, hb1⟩)
    go_ret2
    exact tb_fin HT.out (OwR.nil _ _ hb1.size) hb1
end Go.Proofs.YtcbkimbeljhbhaaGreatDoor
