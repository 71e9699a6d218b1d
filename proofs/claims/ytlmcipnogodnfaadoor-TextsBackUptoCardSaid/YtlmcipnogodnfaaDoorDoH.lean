/-
  Showing links as text: ShowAdj and AdjText, walked.
-/
import Derived.Test.YtlmcipnogodnfaaDoorDoG
import Derived.Test.YtlmcipnogodnfaaDoorDoF
namespace Go.Proofs.YtlmcipnogodnfaaDoor
open Go Go.RowKit



def TAdj (d : Bool) (xs : List Side) (e : Ending) : Prop := e = .returned (.tuple #[.string (if chkSides xs = 0 then bOf (adjT d xs) else ⟨#[]⟩), .int .i64 (chkSides xs)])
theorem ta_good {d : Bool} {xs : List Side} {t : List UInt8} (h : chkSides xs = 0) (ht : t = adjT d xs) : TAdj d xs (.returned (.tuple #[.string (bOf t), .int .i64 0])) := by unfold TAdj; rw [if_pos h, h, ht]
theorem ta_bad {d : Bool} {xs : List Side} (h : chkSides xs ≠ 0) : TAdj d xs (.returned (.tuple #[.string ⟨#[]⟩, .int .i64 (chkSides xs)])) := by unfold TAdj; rw [if_neg h]
theorem add_bang (T : List UInt8) (h : 1 + T.length ≤ 9223372036854775807) (w : World) : (Op.stringOp .add ⟨#[33]⟩ (bOf T)).run Tryd.prog w = .ok (.string (bOf (33 :: T))) w := add_run [33] T h w

set_option maxRecDepth 50000 in
set_option maxHeartbeats 2000000 in
theorem showAdj_any (d : Bool) (v : Value) (xs : List Side) (w : World) (h : Sl sideR w v xs) (hE : EnvT w) :
    Calls Tryd.prog 10 #[.agg #[.bool d, v]] w fun e w' => TAdj d xs e ∧ Below w.heap.size w w' := by
  have hl := h.len_le
  obtain ⟨A, c, rfl⟩ := h.form
  have hb0 := (Below.refl w.heap.size w).alloc (Nat.le_refl _) (.cells #[.bool d, .slice A xs.length c] 24)
  have HBW := Go.Lib.hid hb0
  have H := Go.Lib.hid h
  have HE := Go.Lib.hid hE
  have HCK := Go.Lib.hid (checkAdj_any d _ xs _ (h.below hb0))
  clear h hE hb0
  by_cases hc : chkSides xs = 0
  · have HC := Go.Lib.hid hc
    have hn6 := sides_len hc
    have HALL := Go.Lib.hid (sides_all hc)
    rw [hc] at HCK
    clear hc
    have HPL0 := Go.Lib.hid (fun x (hx : x ∈ xs.map sideT) => (by
      obtain ⟨p, hp, rfl⟩ := List.mem_map.1 hx
      obtain ⟨i, hi, rfl⟩ := List.getElem_of_mem hp
      obtain ⟨a1, a2, a3, a4⟩ := HALL.out i hi
      exact pair_len 61 _ _ a1 (by omega) (by omega) (by omega) : x.length ≤ 20))
    go_enter Tryd.func10, Tryd.ntmps10
    go_wp2_with (go_at_call 26; refine HCK.out.mono ?_; rintro e w1 ⟨rfl, hb1⟩; obtain ⟨hA, hN, _, hS⟩ := pastAlloc hb1; have n0 : w1.cell? ⟨w.heap.size, 0, none⟩ = some (.bool d) := hN 0; have n1 : w1.cell? ⟨w.heap.size, 1, none⟩ = some (.slice A xs.length c) := hN 1; have HB1 := Go.Lib.hid hA; clear hb1 hA hN)
    have HV1 := Go.Lib.hid (H.out.below HB1.out)
    have N0 := Go.Lib.hid n0
    clear n0 n1
    go_loopw [5, 17] (fun o i wr => ∃ k : Nat, k ≤ xs.length ∧ i = .int .i64 k ∧ OwR strR 9 w1.heap.size wr o (((xs.take k).map sideT).map bOf) ∧ Below w1.heap.size w1 wr) (fun _ i _ => xs.length - (intOf i).toNat)
    case atStart => exact ⟨0, Nat.zero_le _, rfl, OwR.nil _ _ (Nat.le_refl _), Below.refl _ _⟩
    case round =>
      obtain ⟨k, hk, rfl, ho, hB⟩ := hrel
      have HO := Go.Lib.hid ho
      have HB := Go.Lib.hid hB
      clear ho hB
      by_cases hlt : k < xs.length
      · obtain ⟨b, off, rfl, hb⟩ := HV1.out.at_ hlt
        obtain ⟨f1, f2, i1, i2⟩ := (HV1.out.below HB.out).side hlt
        obtain ⟨a1, a2, a3, a4⟩ := HALL.out k hlt
        have HT := Go.Lib.hid (show sideT xs[k] = pairT 61 xs[k].node xs[k].cost from rfl)
        have hsuc : ((xs.take (k + 1)).map sideT).map bOf = ((xs.take k).map sideT).map bOf ++ [bOf (sideT xs[k])] := by
          rw [List.take_succ_eq_append_getElem hlt, List.map_append, List.map_append]; rfl
        rw [HT.out] at hsuc
        have HSUC := Go.Lib.hid hsuc
        have hn1 : (((xs.take k).map sideT).map bOf).length + 1 ≤ 1000000000000 := by rw [List.length_map, List.length_map, List.length_take]; omega
        have HN1 := Go.Lib.hid hn1
        have hpl := pair_len 61 xs[k].node xs[k].cost a1 (by omega) (by omega) (by omega)
        have ea := itoa_pos a1
        have eb := itoa_pos (show 0 ≤ xs[k].cost by omega)
        have la := dec_len 4 xs[k].node.toNat (by omega)
        have lb := dec_len 4 xs[k].cost.toNat (by omega)
        generalize xs[k].node = p at *
        generalize xs[k].cost = q at *
        have hpc := pair_cat 61 p q
        have HIA := Go.Lib.hid (fun w h => itoa_any p w i1 h)
        have HIB := Go.Lib.hid (fun w h => itoa_any q w i2 h)
        rw [ea] at HIA
        rw [eb] at HIB
        have HPL := Go.Lib.hid hpl
        have za : (bOf (Lib.decDigits p.toNat)).size ≤ 5 := by rw [bOf_size]; exact la
        have zb : (bOf (Lib.decDigits q.toNat)).size ≤ 5 := by rw [bOf_size]; exact lb
        have r1 : ∀ w, (Op.stringOp .add (bOf (Lib.decDigits p.toNat)) ⟨#[61]⟩).run Tryd.prog w = .ok (.string (bOf (Lib.decDigits p.toNat) ++ ⟨#[61]⟩)) w := fun w => run_string_add_sum w _ _ (by show _ + 1 ≤ _; omega)
        have r2 : ∀ w, (Op.stringOp .add (bOf (Lib.decDigits p.toNat) ++ ⟨#[61]⟩) (bOf (Lib.decDigits q.toNat))).run Tryd.prog w = .ok (.string (bOf (pairT 61 p q))) w := fun w => by
          rw [run_string_add_sum w _ _ (by rw [ByteArray.size_append]; show _ + 1 + _ ≤ _; omega), hpc]
        have hz1 : w1.heap.size ≤ wr.heap.size := HB.out.size
        have hwf : (bOf (pairT 61 p q)).size ≤ maxLen := by rw [bOf_size]; unfold maxLen; omega
        have HWF := Go.Lib.hid hwf
        have HOWN := Go.Lib.hid (fun k (h : Value.ownBlock u5 = some k) => (HO.out.base_le k h).2)
        clear ea eb la lb hpc hpl hsuc hn1 a1 a2 a3 a4 i1 i2 hwf
        have hcl : ∀ w', Below (wr.heap.size + 1) (wr.alloc (.cells #[.int .i64 p, .int .i64 q] 47)) w' → w'.cell? ⟨wr.heap.size, 0, none⟩ = some (.int .i64 p) ∧ w'.cell? ⟨wr.heap.size, 1, none⟩ = some (.int .i64 q) ∧ EnvT w' ∧ Below w1.heap.size w1 w' ∧ OwR strR 9 w1.heap.size w' u5 (((xs.take k).map sideT).map bOf) ∧ wr.heap.size < w'.heap.size := by
          intro w' hb'
          have hq : Below wr.heap.size wr w' := ((Below.refl _ _).alloc (Nat.le_refl _) _).trans (hb'.mono (by omega))
          refine ⟨?_, ?_, (HE.out.below HB1.out).below (HB.out.trans (hq.mono hz1)), HB.out.trans (hq.mono hz1), HO.out.keep hq, by have := hb'.size; simp at this; omega⟩
          · rw [hb'.cell (p := ⟨wr.heap.size, 0, none⟩) (by simp), World.cell?_alloc_at _ _ _ _ rfl]; rfl
          · rw [hb'.cell (p := ⟨wr.heap.size, 1, none⟩) (by simp), World.cell?_alloc_at _ _ _ _ rfl]; rfl
        have HCL := Go.Lib.hid hcl
        have HB0 := Go.Lib.hid (Below.refl (wr.heap.size + 1) (wr.alloc (.cells #[.int .i64 p, .int .i64 q] 47))).drew
        clear hcl
        go_wp2_with fail
        go_region_held3 (fun w' => w'.cell? ⟨wr.heap.size, 0, none⟩ = some (.int .i64 p) ∧ w'.cell? ⟨wr.heap.size, 1, none⟩ = some (.int .i64 q)) (first | go_keep | exact ⟨k1, k2⟩)
          (first
            | (go_at_call 27; refine (HIA.out _ (HCL.out _ (by first | exact HBB.out | exact HB0.out)).2.2.1).mono ?_; rintro e w2 ⟨rfl, hb2⟩; have HBB := Go.Lib.hid (Below.trans (by first | exact HBB.out | exact HB0.out) (hb2.mono (HCL.out _ (by first | exact HBB.out | exact HB0.out)).2.2.2.2.2)); clear hb2; obtain ⟨k1, k2, _⟩ := HCL.out _ HBB.out)
            | (go_at_call 27; refine (HIB.out _ (HCL.out _ (by first | exact HBB.out | exact HB0.out)).2.2.1).mono ?_; rintro e w2 ⟨rfl, hb2⟩; have HBB := Go.Lib.hid (Below.trans (by first | exact HBB.out | exact HB0.out) (hb2.mono (HCL.out _ (by first | exact HBB.out | exact HB0.out)).2.2.2.2.2)); clear hb2; obtain ⟨k1, k2, _⟩ := HCL.out _ HBB.out)
            | (refine step_gen (base := w1.heap.size) elt_strA (by rfl) (.tmp 21) (.tmp 30) (by rfl) (ow_alloc (HCL.out _ HBB.out).2.2.2.2.1 _) (one_flat (r := strR) (cs := [.string (bOf (pairT 61 p q))]) (x := bOf (pairT 61 p q)) rfl ⟨rfl, HWF.out⟩) (fun _ _ h => h) (by rfl) (by rfl) HN1.out (by decide) ?_; intro v2 w4 ho2 hg2; have HG2 := Go.Lib.hid hg2; have k1 := (after_app2 (HCL.out _ HBB.out).2.2.2.2.2 hg2 HOWN.out 0).trans (HCL.out _ HBB.out).1; have k2 := (after_app2 (HCL.out _ HBB.out).2.2.2.2.2 hg2 HOWN.out 1).trans (HCL.out _ HBB.out).2.1; clear hg2))
        all_goals
          have hb4 := (ow_alloc (HCL.out _ HBB.out).2.2.2.2.1 (.cells #[.string (bOf (pairT 61 p q))] 9)).below_grown ((HCL.out _ HBB.out).2.2.2.1.alloc (HCL.out _ HBB.out).2.2.2.1.size (.cells #[.string (bOf (pairT 61 p q))] 9)) HG2.out.grown
          have HB4 := Go.Lib.hid hb4
          have HO2 := Go.Lib.hid ho2
          clear hb4 ho2 k1 k2
          go_wp2_with fail
          go_roundw
          case rel => exact ⟨k + 1, by omega, by go_num, by rw [HSUC.out]; exact HO2.out, HB4.out⟩
          case measure => simp [intOf]; omega
      · have hte : xs.take k = xs := List.take_of_length_le (by omega)
        rw [hte] at HO
        have hj := fun w h => join_any u5 (xs.map sideT) w h (by rw [List.length_map]; omega) HPL0.out
        have HJ := Go.Lib.hid hj
        have hjl := join_len 20 (xs.map sideT) HPL0.out
        rw [List.length_map] at hjl
        have hbx := (cell_keep (HB.out.mono (Nat.le_refl _)) N0.out)
        have RB := add_bang (Lib.join (xs.map sideT) [44]) (by omega)
        have hjs : (bOf (Lib.join (xs.map sideT) [44])).size ≤ 300 := by rw [bOf_size]; omega
        clear hj hte hjl
        cases d with
        | true =>
          go_wp2_with (go_at_call 28; refine (HJ.out _ (HO.out.sl (by decide))).mono ?_; rintro e w3 ⟨rfl, hb3⟩; have hby := cell_keep hb3 hbx)
          go_ret2
          exact ⟨ta_good HC.out rfl, HB1.out.trans ((HB.out.trans (hb3.mono HB.out.size)).mono HB1.out.size)⟩
        | false =>
          go_wp2_with (go_at_call 28; refine (HJ.out _ (HO.out.sl (by decide))).mono ?_; rintro e w3 ⟨rfl, hb3⟩; have hby := cell_keep hb3 hbx)
          go_ret2
          exact ⟨ta_good HC.out rfl, HB1.out.trans ((HB.out.trans (hb3.mono HB.out.size)).mono HB1.out.size)⟩
  · have hcb : (chkSides xs == 0) = false := by rw [beq_eq_false_iff_ne]; exact hc
    have HC := Go.Lib.hid hc
    clear hc
    go_enter Tryd.func10, Tryd.ntmps10
    go_wp2_with (go_at_call 26; refine HCK.out.mono ?_; rintro e w1 ⟨rfl, hb1⟩)
    go_ret2
    exact ⟨ta_bad HC.out, HBW.out.trans (hb1.mono HBW.out.size)⟩

set_option maxRecDepth 50000 in
set_option maxHeartbeats 2000000 in
theorem adjText_any (d : Bool) (v : Value) (xs : List Side) (w : World) (h : Sl sideR w v xs) :
    Calls Tryd.prog 11 #[.agg #[.bool d, v]] w fun e w' => TAdj d xs e ∧ Below w.heap.size w w' := by
  have hl := h.len_le
  obtain ⟨A, c, rfl⟩ := h.form
  have hb0 := (Below.refl w.heap.size w).alloc (Nat.le_refl _) (.cells #[.bool d, .slice A xs.length c] 24)
  have HBW := Go.Lib.hid hb0
  have H := Go.Lib.hid h
  have HCK := Go.Lib.hid (adjFault_any d _ xs _ (h.below hb0))
  clear h hb0
  by_cases hc : chkSides xs = 0
  · have HC := Go.Lib.hid hc
    have hn6 := sides_len hc
    have HALL := Go.Lib.hid (sides_all hc)
    rw [hc] at HCK
    clear hc
    have hal : ∀ k, (adjTo (xs.map sideT) k).length ≤ 420 := adjTo_len (fun x hx => by
      obtain ⟨p, hp, rfl⟩ := List.mem_map.1 hx
      obtain ⟨i, hi, rfl⟩ := List.getElem_of_mem hp
      obtain ⟨a1, a2, a3, a4⟩ := HALL.out i hi
      exact pair_len 61 _ _ a1 (by omega) (by omega) (by omega)) (by rw [List.length_map]; omega)
    have HAL := Go.Lib.hid hal
    clear hal
    go_enter Tryd.func11, Tryd.ntmps11
    go_wp2_with (go_at_call 29; refine HCK.out.mono ?_; rintro e w1 ⟨rfl, hb1⟩; obtain ⟨hA, hN, _, hS⟩ := pastAlloc hb1; have n0 : w1.cell? ⟨w.heap.size, 0, none⟩ = some (.bool d) := hN 0; have n1 : w1.cell? ⟨w.heap.size, 1, none⟩ = some (.slice A xs.length c) := hN 1; have HB1 := Go.Lib.hid hA; clear hb1 hA hN)
    have HV1 := Go.Lib.hid (H.out.below HB1.out)
    have N0 := Go.Lib.hid n0
    have N1 := Go.Lib.hid n1
    clear n0 n1
    go_loopw [5, 6] (fun o i wr => ∃ k : Nat, k ≤ xs.length ∧ i = .int .i64 k ∧ o = .string (bOf (adjTo (xs.map sideT) k)) ∧ Below w1.heap.size w1 wr) (fun _ i _ => xs.length - (intOf i).toNat)
    case atStart => exact ⟨0, Nat.zero_le _, rfl, rfl, Below.refl _ _⟩
    case round =>
      obtain ⟨k, hk, rfl, rfl, hB⟩ := hrel
      have HB := Go.Lib.hid hB
      have hsl := HAL.out k
      have f0 := cell_keep hB N1.out
      have fd := cell_keep hB N0.out
      clear hB
      by_cases hlt : k < xs.length
      · obtain ⟨b, off, rfl, hb⟩ := HV1.out.at_ hlt
        obtain ⟨f1, f2, i1, i2⟩ := (HV1.out.below HB.out).side hlt
        obtain ⟨a1, a2, a3, a4⟩ := HALL.out k hlt
        have DP := Go.Lib.hid (fun w => dec_int a1 (by omega) w)
        have DQ := Go.Lib.hid (fun w => dec_int (show 0 ≤ xs[k].cost by omega) (by omega) w)
        have la := dec_len 4 xs[k].node.toNat (by omega)
        have lb := dec_len 4 xs[k].cost.toNat (by omega)
        have hlk : k < (xs.map sideT).length := by rw [List.length_map]; exact hlt
        have hxk : (xs.map sideT)[k] = pairT 61 xs[k].node xs[k].cost := by rw [List.getElem_map]; rfl
        have hlti : (k : Int) < (xs.length : Int) := by omega
        have hk0 : (0 : Int) ≤ (k : Int) := by omega
        rcases Nat.eq_zero_or_pos k with h0 | h0
        · subst h0
          have hsuc := adjTo_first hlk
          rw [hxk] at hsuc
          have HSUC := Go.Lib.hid (show adjTo (xs.map sideT) (0 + 1) = [] ++ pairT 61 xs[0].node xs[0].cost by rw [hsuc]; rfl)
          clear hsuc hlk hxk
          generalize xs[0].node = p at *
          generalize xs[0].cost = q at *
          obtain ⟨S, hS⟩ : ∃ S : List UInt8, S = [] := ⟨_, rfl⟩
          have hS0 : adjTo (xs.map sideT) 0 = S := by rw [hS]; rfl
          rw [← hS] at HSUC
          have hSl : S.length ≤ 420 := by rw [hS]; simp
          rw [hS0] at hsl ⊢
          clear hS hS0
          simp only [Nat.zero_mul, Nat.add_zero] at f1 f2
          go_wp2_with fail
          obtain ⟨T1, hT1⟩ : ∃ T, T = S ++ Lib.decDigits p.toNat := ⟨_, rfl⟩
          obtain ⟨T2, hT2⟩ : ∃ T, T = T1 ++ [61] := ⟨_, rfl⟩
          obtain ⟨T3, hT3⟩ : ∃ T, T = S ++ pairT 61 p q := ⟨_, rfl⟩
          have hl1 : T1.length ≤ 430 := by rw [hT1, List.length_append]; omega
          have hl2 : T2.length ≤ 431 := by rw [hT2, List.length_append]; show _ + 1 ≤ _; omega
          have R1 : ∀ w, (Op.stringOp .add (bOf S) (bOf (Lib.decDigits p.toNat))).run Tryd.prog w = .ok (.string (bOf T1)) w := by rw [hT1]; exact add_run S (Lib.decDigits p.toNat) (by omega)
          have R2 : ∀ w, (Op.stringOp .add (bOf T1) ⟨#[61]⟩).run Tryd.prog w = .ok (.string (bOf T2)) w := by rw [hT2]; exact add_run1 T1 61 (by omega)
          have R3 : ∀ w, (Op.stringOp .add (bOf T2) (bOf (Lib.decDigits q.toNat))).run Tryd.prog w = .ok (.string (bOf T3)) w := by
            have hpe : T2 ++ Lib.decDigits q.toNat = T3 := by rw [hT3, hT2, hT1]; unfold pairT; simp
            rw [← hpe]; exact add_run T2 (Lib.decDigits q.toNat) (by omega)
          rw [← hT3] at HSUC
          clear hT1 hT2 hT3 hl1 hl2
          have cA : ∀ d os, Calls Tryd.prog 30 #[.int .i64 p] (Sort.grow (redrawn wr d) os) fun e w'' => e = .returned (.string (bOf (Lib.decDigits p.toNat))) ∧ ∃ p : Regrown, w'' = Sort.grow (redrawn wr p.d) p.os := fun d os => Calls.regrown_of (DP.out _)
          have cB : ∀ d os, Calls Tryd.prog 30 #[.int .i64 q] (Sort.grow (redrawn wr d) os) fun e w'' => e = .returned (.string (bOf (Lib.decDigits q.toNat))) ∧ ∃ p : Regrown, w'' = Sort.grow (redrawn wr p.d) p.os := fun d os => Calls.regrown_of (DQ.out _)
          have g1 := cell_regrown f1
          have g2 := cell_regrown f2
          have g0 := cell_regrown f0
          refine wp_region_quiet_below (by kernel_rfl) (by kernel_rfl) ?_
          repeat (quiet_step (fail))
          quiet_step (exact cA _ _)
          repeat (quiet_step (fail))
          quiet_step (exact cB _ _)
          repeat (quiet_step (fail))
          refine wpQuiet_nil ?_
          intro _ hw'
          obtain ⟨⟨dq, osq⟩, hw''⟩ := hw'
          subst hw''
          clear cA cB g1 g2 R1 R2 R3
          go_wp2_with fail
          go_roundw
          case rel => exact ⟨0 + 1, by omega, by go_num, by rw [HSUC.out], HB.out.trans ((below_regrown wr dq osq).mono HB.out.size)⟩
          case measure => simp [intOf]; omega
        · have hsuc := adjTo_next h0 hlk
          rw [hxk] at hsuc
          have HSUC := Go.Lib.hid hsuc
          have hk0' : (0 : Int) < (k : Int) := by omega
          clear hsuc hlk hxk
          generalize xs[k].node = p at *
          generalize xs[k].cost = q at *
          generalize adjTo (xs.map sideT) k = S0 at *
          have RS := add_run1 S0 44 (by omega)
          go_wp2_with fail
          clear RS
          have hSl : (S0 ++ [44]).length ≤ 421 := by rw [List.length_append]; show _ + 1 ≤ _; omega
          generalize S0 ++ [44] = S at *
          obtain ⟨T1, hT1⟩ : ∃ T, T = S ++ Lib.decDigits p.toNat := ⟨_, rfl⟩
          obtain ⟨T2, hT2⟩ : ∃ T, T = T1 ++ [61] := ⟨_, rfl⟩
          obtain ⟨T3, hT3⟩ : ∃ T, T = S ++ pairT 61 p q := ⟨_, rfl⟩
          have hl1 : T1.length ≤ 430 := by rw [hT1, List.length_append]; omega
          have hl2 : T2.length ≤ 431 := by rw [hT2, List.length_append]; show _ + 1 ≤ _; omega
          have R1 : ∀ w, (Op.stringOp .add (bOf S) (bOf (Lib.decDigits p.toNat))).run Tryd.prog w = .ok (.string (bOf T1)) w := by rw [hT1]; exact add_run S (Lib.decDigits p.toNat) (by omega)
          have R2 : ∀ w, (Op.stringOp .add (bOf T1) ⟨#[61]⟩).run Tryd.prog w = .ok (.string (bOf T2)) w := by rw [hT2]; exact add_run1 T1 61 (by omega)
          have R3 : ∀ w, (Op.stringOp .add (bOf T2) (bOf (Lib.decDigits q.toNat))).run Tryd.prog w = .ok (.string (bOf T3)) w := by
            have hpe : T2 ++ Lib.decDigits q.toNat = T3 := by rw [hT3, hT2, hT1]; unfold pairT; simp
            rw [← hpe]; exact add_run T2 (Lib.decDigits q.toNat) (by omega)
          rw [← hT3] at HSUC
          clear hT1 hT2 hT3 hl1 hl2
          have cA : ∀ d os, Calls Tryd.prog 30 #[.int .i64 p] (Sort.grow (redrawn wr d) os) fun e w'' => e = .returned (.string (bOf (Lib.decDigits p.toNat))) ∧ ∃ p : Regrown, w'' = Sort.grow (redrawn wr p.d) p.os := fun d os => Calls.regrown_of (DP.out _)
          have cB : ∀ d os, Calls Tryd.prog 30 #[.int .i64 q] (Sort.grow (redrawn wr d) os) fun e w'' => e = .returned (.string (bOf (Lib.decDigits q.toNat))) ∧ ∃ p : Regrown, w'' = Sort.grow (redrawn wr p.d) p.os := fun d os => Calls.regrown_of (DQ.out _)
          have g1 := cell_regrown f1
          have g2 := cell_regrown f2
          have g0 := cell_regrown f0
          refine wp_region_quiet_below (by kernel_rfl) (by kernel_rfl) ?_
          repeat (quiet_step (fail))
          quiet_step (exact cA _ _)
          repeat (quiet_step (fail))
          quiet_step (exact cB _ _)
          repeat (quiet_step (fail))
          refine wpQuiet_nil ?_
          intro _ hw'
          obtain ⟨⟨dq, osq⟩, hw''⟩ := hw'
          subst hw''
          clear cA cB g1 g2 R1 R2 R3
          go_wp2_with fail
          go_roundw
          case rel => exact ⟨k + 1, by omega, by go_num, by rw [HSUC.out], HB.out.trans ((below_regrown wr dq osq).mono HB.out.size)⟩
          case measure => simp [intOf]; omega
      · have hte := adjTo_all (xs.map sideT) (k := k) (by rw [List.length_map]; omega)
        have HTE := Go.Lib.hid hte
        rw [hte] at hsl ⊢
        have RB := add_bang (Lib.join (xs.map sideT) [44]) (by omega)
        clear hte
        cases d with
        | true =>
          go_wp2_with fail
          go_ret2
          exact ⟨ta_good HC.out rfl, HB1.out.trans (HB.out.mono HB1.out.size)⟩
        | false =>
          go_wp2_with fail
          go_ret2
          exact ⟨ta_good HC.out rfl, HB1.out.trans (HB.out.mono HB1.out.size)⟩
  · have hcb : (chkSides xs == 0) = false := by rw [beq_eq_false_iff_ne]; exact hc
    have HC := Go.Lib.hid hc
    clear hc
    go_enter Tryd.func11, Tryd.ntmps11
    go_wp2_with (go_at_call 29; refine HCK.out.mono ?_; rintro e w1 ⟨rfl, hb1⟩)
    go_ret2
    exact ⟨ta_bad HC.out, HBW.out.trans (hb1.mono HBW.out.size)⟩
end Go.Proofs.YtlmcipnogodnfaaDoor
