/-
  Proved here: the law TextsBack returns true for every list of draws and every string, where what it reads is of bulk at most 1048576; the listed package-level variables hold what the program's text lays.
-/
import Derived.Test.YtlmcipnogodnfaaDoorDoJ
import Derived.Test.YtlmcipnogodnfaaDoorDoW
import Derived.Deep.RegionLaw
namespace Go.Proofs.YtlmcipnogodnfaaDoor
open Go.RowKit Go.ChangeShapes Go.WideShapes Go.ChangeAt

theorem adjT_len (d : Bool) {xs : List Side} (h : chkSides xs = 0) : (adjT d xs).length ≤ 300 := by
  have h1 := sides_len h
  have h2 := join_len 20 (xs.map sideT) (fun x hx => by
    obtain ⟨p, hp, rfl⟩ := List.mem_map.1 hx
    obtain ⟨i, hi, rfl⟩ := List.getElem_of_mem hp
    obtain ⟨a1, a2, a3, a4⟩ := sides_all h i hi
    exact pair_len 61 _ _ a1 (by omega) (by omega) (by omega))
  rw [List.length_map] at h2
  unfold adjT
  split
  · rw [List.length_cons]; omega
  · omega
theorem prefsT_len {xs : List Prefix} (h : chkPrefs xs = 0) : (prefsT xs).length ≤ 300 := by
  have h1 := prefs_len h
  have h2 := join_len 20 (xs.map prefT) (fun x hx => by
    obtain ⟨p, hp, rfl⟩ := List.mem_map.1 hx
    obtain ⟨i, hi, rfl⟩ := List.getElem_of_mem hp
    obtain ⟨a1, a2, a3, a4⟩ := prefs_all h i hi
    exact pair_len 47 _ _ a3 (by omega) a1 (by omega))
  rw [List.length_map] at h2
  unfold prefsT; omega
theorem after_app3 {w2 w4 : World} {u v2 : Value} {n : Nat} {o : Obj} (hn : n < w2.heap.size) (hg : GrowTo (w2.alloc o) u w4 v2) (hu : ∀ k, u.ownBlock = some k → n ≠ k) : ∀ i, w4.cell? ⟨n, i, none⟩ = w2.cell? ⟨n, i, none⟩ := by
  intro i
  apply World.cell?_of_block
  show w4.heap[n]? = w2.heap[n]?
  rw [hg.grown.block n (by simp; omega) (fun e => hu n e.symm rfl)]
  exact Below.heap_alloc _ _ _ hn
theorem tb_app {w w4 : World} {A : Nat} {d : Bool} {o v2 : Value} {xs : List Side} {x y : Int} (hA : Box w A d o) (ho : OwR sideR 47 (A + 1) w o xs) (hg : GrowTo (w.alloc (.cells #[.int .i64 x, .int .i64 y] 47)).drew o w4 v2) : Box w4 A d o ∧ w.heap.size ≤ w4.heap.size := by
  have h2 := hA.below ((Below.refl w.heap.size w).alloc (Nat.le_refl _) (.cells #[.int .i64 x, .int .i64 y] 47)).drew
  refine ⟨h2.keep (hg.grown.block A h2.lt (fun e => by have := (ho.base_le A e.symm).1; omega)), ?_⟩
  have := hg.grown.size
  simp at this; omega

set_option maxRecDepth 50000 in
set_option maxHeartbeats 4000000 in
theorem textsBack_walk (v : Value) (xs : List Raw) (s : ByteArray) (w : World) (h : Sl rawR w v xs) (_ : s.size ≤ maxLen) (hz : s.size ≤ 1048576) (hE : Env w) :
    Calls Tryd.prog 8 #[v, .string s] w fun e w' => e = .returned (.bool true) ∧ Below w.heap.size w w' := by
  have hl := h.len_le
  obtain ⟨A, c, rfl⟩ := h.form
  have H := Go.Lib.hid h
  have HE := Go.Lib.hid hE
  clear h hE
  obtain ⟨d, hd⟩ : ∃ d, d = ((xs.length : Int) % 2 == 0) := ⟨_, rfl⟩
  have HD := Go.Lib.hid hd
  clear hd
  go_enter Tryd.func8, Tryd.ntmps8
  go_wp2_with fail
  rw [← HD.out]
  go_loopw [7] (fun i wr => ∃ (k : Nat) (o : Value), k ≤ xs.length ∧ k ≤ 12 ∧ i = .int .i64 k ∧ Box wr w.heap.size d o ∧ OwR sideR 47 (w.heap.size + 1) wr o (sidesK xs k) ∧ Below w.heap.size w wr) (fun i _ => 12 - (intOf i).toNat)
  case atStart =>
    refine ⟨0, .slice none 0 0, Nat.zero_le _, Nat.zero_le _, rfl, ⟨?_, ?_, fun i => World.frozen?_alloc_at _ _ _ _ rfl, by simp⟩, OwR.nil _ _ (by simp), (Below.refl _ _).alloc (Nat.le_refl _) _⟩
    · rw [World.cell?_alloc_at _ _ _ _ rfl]; rfl
    · rw [World.cell?_alloc_at _ _ _ _ rfl]; rfl
  case round =>
    obtain ⟨k, o, hk, hk12, rfl, hbx, ho, hB⟩ := hrel
    have HX := Go.Lib.hid hbx
    have HO := Go.Lib.hid ho
    have HB := Go.Lib.hid hB
    obtain ⟨x0, x1, x2, x3⟩ := hbx
    have y1 := x2 1
    clear ho hB x2
    by_cases hlt : k < xs.length
    · have hlti : (k : Int) < (xs.length : Int) := by omega
      by_cases hl12 : k < 12
      · have hl12i : (k : Int) < 12 := by omega
        obtain ⟨b, off, rfl, hb⟩ := H.out.at_ hlt
        obtain ⟨f0, f1, f2, f3, i0, i1, i2, i3⟩ := (H.out.below HB.out).raw hlt
        have hbw : b < wr.heap.size := by have := HB.out.size; omega
        have hbn : ¬ w.heap.size = b := by omega
        have hp := pickN_lt xs[k].a 2 (by omega)
        have hp2 := pickN_lt xs[k].b 1000 (by omega)
        have PA := Go.Lib.hid (fun w => picked_any xs[k].a 2 w i1 (by omega) (by omega))
        have PB := Go.Lib.hid (fun w => picked_any xs[k].b 1000 w i2 (by omega) (by omega))
        by_cases hpa : pickN xs[k].a 2 = 0
        · have HSUC := Go.Lib.hid (sidesK_yes hlt hpa)
          rw [hpa] at PA
          have HN := Go.Lib.hid (show (sidesK xs k).length + 1 ≤ 1000000000000 by have := (sidesK_ok xs k).2.2; omega)
          generalize xs[k].b = B at *
          generalize pickN B 1000 = Q at *
          have HC := Go.Lib.hid (fun w4 v2 (hg : GrowTo (wr.alloc (.cells #[.int .i64 (k : Int), .int .i64 (1 + (Q : Int))] 47)).drew o w4 v2) => tb_app HX.out HO.out hg)
          clear f0 i0 i1 i2 i3 f3 hpa hp
          go_wp2_with (go_at_call 20; refine (PA.out _).mono ?_; rintro e w' ⟨rfl, rfl⟩)
          have xa : (wr.alloc (.cells #[.int .i64 (k : Int), .int .i64 (1 + (Q : Int))] 47)).cell? ⟨w.heap.size, 1, none⟩ = some o := cell_keep ((Below.refl _ _).alloc (Nat.le_refl _) _) x1
          have HOA := Go.Lib.hid (ow_drew (ow_alloc HO.out (.cells #[.int .i64 (k : Int), .int .i64 (1 + (Q : Int))] 47)))
          have hone := one_flat (r := sideR) (w := wr) (B := wr.heap.size) (cs := [.int .i64 (k : Int), .int .i64 (1 + (Q : Int))]) (x := ⟨k, 1 + (Q : Int)⟩) (E := 47) rfl ⟨rfl, (by show inR (k : Int); unfold inR; omega), (by show inR (1 + (Q : Int)); unfold inR; omega)⟩
          have HONE := Go.Lib.hid (SlR.keep (w' := (wr.alloc (.cells #[.int .i64 (k : Int), .int .i64 (1 + (Q : Int))] 47)).drew) hone (fun _ _ => rfl) (fun _ h => h))
          clear hone
          have HBO := Go.Lib.hid (((HB.out).alloc (by show w.heap.size ≤ wr.heap.size; omega) (.cells #[.int .i64 (k : Int), .int .i64 (1 + (Q : Int))] 47)).drew)
          have hwq : IntKind.i64.wrap (1 + (Q : Int)) = 1 + (Q : Int) := by rw [IntKind.wrap_i64]; omega
          go_region_law (first
            | (refine step_gen (base := w.heap.size + 1) elt_sideA (by rfl) (.tmp 44) (.tmp 54) (by rfl) HOA.out HONE.out (fun _ _ h => h) (by rfl) (by rfl) HN.out (by decide) ?_; intro v2 w4 ho2 hg2; obtain ⟨A9, n9, c9, rfl⟩ := ow_form ho2 (by decide); have HG2 := Go.Lib.hid hg2; obtain ⟨⟨y0, y1, y2, y3⟩, y4⟩ := HC.out w4 _ hg2; have y5 := y2 1; clear hg2 y2)
            | (go_simp; go_wp2_with (go_at_call 20; refine (PB.out _).mono ?_; rintro e w' ⟨rfl, rfl⟩)))
          all_goals
            have HBX4 := Go.Lib.hid (HC.out w4 _ HG2.out).1
            have HB4 := Go.Lib.hid ((HBO.out.grown HG2.out.grown HBO.out.size (fun q e => by have := (HO.out.base_le q e).1; omega)).setCell (p := ⟨w.heap.size, 1, none⟩) (Nat.le_refl _) (.slice A9 n9 c9))
            have HO2 := Go.Lib.hid ho2
            clear ho2 y0 y1 y3 y4 y5
            go_wp2_with fail
            go_roundw
            case rel => exact ⟨k + 1, .slice A9 n9 c9, by omega, by omega, by go_num, HBX4.out.set1 _, by rw [HSUC.out]; exact ow_set HO2.out (p := ⟨w.heap.size, 1, none⟩) (Nat.lt_succ_self _) _ (fun _ _ h => h), HB4.out⟩
            case measure => simp [intOf]; omega
        · have HSUC := Go.Lib.hid (sidesK_no hlt hpa)
          have hpz : (((pickN xs[k].a 2 : Nat) : Int) == 0) = false := by rw [beq_eq_false_iff_ne]; omega
          clear hp2 PB f0 i0 i1 i2 i3 f3 f2 hpa
          generalize pickN xs[k].a 2 = Q at *
          go_wp2_with (go_at_call 20; refine (PA.out _).mono ?_; rintro e w' ⟨rfl, rfl⟩)
          go_roundw
          case rel => exact ⟨k + 1, o, by omega, by omega, by go_num, HX.out, by rw [HSUC.out]; exact HO.out, HB.out⟩
          case measure => simp [intOf]; omega
      · have hl12i : ¬ (k : Int) < 12 := by omega
        have HCS := Go.Lib.hid (sidesK_chk xs hk12)
        have HSS := Go.Lib.hid (HO.out.sl (by decide))
        have hls := (sidesK_ok xs k).2.2
        generalize sidesK xs k = S at *
        obtain ⟨wL, hwL⟩ : ∃ x, x = wr := ⟨_, rfl⟩
        subst hwL
        have hz0 := HB.out.size
        go_wp2_with fail
        go_loopw [6, 8] (fun p i wr2 => ∃ j : Nat, j ≤ xs.length ∧ j ≤ 6 ∧ i = .int .i64 j ∧ OwR prefR 49 wL.heap.size wr2 p (prefsK xs j) ∧ Below wL.heap.size wL wr2) (fun _ i _ => 6 - (intOf i).toNat)
        case atStart => exact ⟨0, Nat.zero_le _, Nat.zero_le _, rfl, OwR.nil _ _ (Nat.le_refl _), Below.refl _ _⟩
        case round =>
          obtain ⟨j, hj, hj6, rfl, hp, hB2⟩ := hrel
          have HP := Go.Lib.hid hp
          have HB2 := Go.Lib.hid hB2
          clear hp hB2
          by_cases hjl : j < xs.length
          · have hjli : (j : Int) < (xs.length : Int) := by omega
            by_cases hj66 : j < 6
            · have hj6i : (j : Int) < 6 := by omega
              obtain ⟨b, off, rfl, hb⟩ := H.out.at_ hjl
              obtain ⟨f0, f1, f2, f3, i0, i1, i2, i3⟩ := (H.out.below (HB.out.trans (HB2.out.mono hz0))).raw hjl
              have hq := pickN_lt xs[j].c 6 (by omega)
              have PC := Go.Lib.hid (fun w => picked_any xs[j].c 6 w i3 (by omega) (by omega))
              have HSUC := Go.Lib.hid (prefsK_yes hjl)
              have HN := Go.Lib.hid (show (prefsK xs j).length + 1 ≤ 1000000000000 by have := (prefsK_ok xs j hj6).2.2; omega)
              generalize xs[j].c = B at *
              generalize pickN B 6 = Q at *
              clear f0 f1 f2 i0 i1 i2 i3
              have HOA := Go.Lib.hid (ow_alloc HP.out (.cells #[.int .i64 (32 * (j : Int)), .int .i64 (3 + (Q : Int))] 49))
              have HONE := Go.Lib.hid (one_flat (r := prefR) (w := wr) (B := wr.heap.size) (cs := [.int .i64 (32 * (j : Int)), .int .i64 (3 + (Q : Int))]) (x := ⟨32 * (j : Int), 3 + (Q : Int)⟩) (E := 49) rfl ⟨rfl, (by show inR (32 * (j : Int)); unfold inR; omega), (by show inR (3 + (Q : Int)); unfold inR; omega)⟩)
              have HBA := Go.Lib.hid (HB2.out.alloc HB2.out.size (.cells #[.int .i64 (32 * (j : Int)), .int .i64 (3 + (Q : Int))] 49))
              go_wp2_with (first
                | (go_at_call 20; refine (PC.out _).mono ?_; rintro e w' ⟨rfl, rfl⟩)
                | (at_builtin; refine wpList_gen (base := wL.heap.size) elt_prefA rfl (.tmp 67) (.tmp 78) rfl HOA.out HONE.out (fun _ _ h => h) rfl rfl HN.out (by decide) ?_; intro v2 w4 ho2 hg2; have HB4 := Go.Lib.hid (HOA.out.below_grown HBA.out hg2.grown)))
              go_roundw
              case rel => exact ⟨j + 1, by omega, by omega, by go_num, by rw [HSUC.out]; exact ho2, HB4.out⟩
              case measure => simp [intOf]; omega
            · have hj6i : ¬ (j : Int) < 6 := by omega
              have hz2 := HB2.out.size
              have HCP := Go.Lib.hid (prefsK_chk xs hj6)
              have HSP := Go.Lib.hid (HP.out.sl (by decide))
              have SS := Go.Lib.hid (HSS.out.below HB2.out)
              have BW := Go.Lib.hid (HB.out.trans (HB2.out.mono hz0))
              obtain ⟨a0, a1, a2, a3⟩ := HX.out.below HB2.out
              generalize prefsK xs j = PF at *
              have HS1 := Go.Lib.hid (fun w' (hb : Below w.heap.size w w') (h : Sl sideR w' o S) => ((showAdj_any d o S w' h (HE.out.tab.below hb)).mono (fun e w'' ⟨he, hb'⟩ => ⟨(by rw [he, if_pos HCS.out, HCS.out]), hb'⟩) : Calls Tryd.prog 10 #[.agg #[.bool d, o]] w' fun e w'' => e = .returned (.tuple #[.string (bOf (adjT d S)), .int .i64 0]) ∧ Below w'.heap.size w' w''))
              have HS2 := Go.Lib.hid (fun w' v (hb : Below w.heap.size w w') (h : Sl prefR w' v PF) => ((showPrefs_any v PF w' h (HE.out.tab.below hb)).mono (fun e w'' ⟨he, hb'⟩ => ⟨(by rw [he, if_pos HCP.out, HCP.out]), hb'⟩) : Calls Tryd.prog 12 #[v] w' fun e w'' => e = .returned (.tuple #[.string (bOf (prefsT PF)), .int .i64 0]) ∧ Below w'.heap.size w' w''))
              have hta : (bOf (adjT d S)).size < 4294967281 := by rw [bOf_size]; have := adjT_len d HCS.out; omega
              have htp : (bOf (prefsT PF)).size < 4294967281 := by rw [bOf_size]; have := prefsT_len HCP.out; omega
              have HR1 := Go.Lib.hid (fun w' (hb : Below w.heap.size w w') => ((readAdj_any (bOf (adjT d S)) w' hta (HE.out.below hb)).mono (fun e w'' ⟨v, he, hv, hb'⟩ => by
                rw [bOf_list, adj_read HCS.out] at he hv
                obtain ⟨A, c, rfl⟩ := hv.form
                exact ⟨A, c, he, hv, hb'⟩) : Calls Tryd.prog 17 #[.string (bOf (adjT d S))] w' fun e w'' => ∃ A c, e = .returned (.tuple #[.agg #[.bool d, .slice A S.length c], .int .i64 0]) ∧ Sl sideR w'' (.slice A S.length c) S ∧ Below w'.heap.size w' w''))
              have HR2 := Go.Lib.hid (fun w' (hb : Below w.heap.size w w') => ((readPrefs_any (bOf (prefsT PF)) w' htp (HE.out.below hb)).mono (fun e w'' ⟨v, he, hv, hb'⟩ => by
                rw [bOf_list, prefs_read HCP.out] at he hv
                exact ⟨v, he, hv, hb'⟩) : Calls Tryd.prog 14 #[.string (bOf (prefsT PF))] w' fun e w'' => ∃ v, e = .returned (.tuple #[v, .int .i64 0]) ∧ Sl prefR w'' v PF ∧ Below w'.heap.size w' w''))
              have HR3 := Go.Lib.hid (fun w' (hb : Below w.heap.size w w') => ((readAdj_any s w' (by omega) (HE.out.below hb)).mono (fun e w'' ⟨v, he, hv, hb'⟩ => by
                obtain ⟨A, c, rfl⟩ := hv.form
                exact ⟨A, c, he, hv, hb'⟩) : Calls Tryd.prog 17 #[.string s] w' fun e w'' => ∃ A c, e = .returned (.tuple #[.agg #[.bool (readAdj s.data.toList).1, .slice A (readAdj s.data.toList).2.1.length c], .int .i64 (readAdj s.data.toList).2.2]) ∧ Sl sideR w'' (.slice A (readAdj s.data.toList).2.1.length c) (readAdj s.data.toList).2.1 ∧ Below w'.heap.size w' w''))
              have HBK := Go.Lib.hid (fun h => adj_back (s := s.data.toList) h)
              have HSB := Go.Lib.hid (bOf_data s)
              generalize readAdj s.data.toList = R3 at *
              obtain ⟨d3, S3, c3⟩ := R3
              generalize adjT d S = TA at *
              generalize prefsT PF = TP at *
              clear hta htp
              by_cases h3 : c3 = 0
              · subst h3
                have hbk := HBK.out rfl
                have HS3 := Go.Lib.hid (fun w' v (hb : Below w.heap.size w w') (h : Sl sideR w' v S3) => ((showAdj_any d3 v S3 w' h (HE.out.tab.below hb)).mono (fun e w'' ⟨he, hb'⟩ => ⟨(by rw [he, if_pos hbk.1, hbk.1]; rw [hbk.2, HSB.out]), hb'⟩) : Calls Tryd.prog 10 #[.agg #[.bool d3, v]] w' fun e w'' => e = .returned (.tuple #[.string s, .int .i64 0]) ∧ Below w'.heap.size w' w''))
                clear hbk
                go_wp2_with (first
                  | (go_at_call 10; have U' := U; refine (HS3.out _ _ BW.out (S3X.out)).mono ?_; rintro e w13 ⟨rfl, hb13⟩; have a0 := cell_keep hb13 a0; have a1 := cell_keep hb13 a1; have b0 := cell_keep hb13 b0; have b1 := cell_keep hb13 b1; have SS := Go.Lib.hid (SS.out.below hb13); have SB := Go.Lib.hid (SB.out.below hb13); have SP := Go.Lib.hid (SP.out.below hb13); have SQ := Go.Lib.hid (SQ.out.below hb13); have BW := Go.Lib.hid (BW.out.trans (hb13.mono BW.out.size)); clear hb13)
                  | (go_at_call 10; refine (HS1.out _ BW.out SS.out).mono ?_; rintro e w6 ⟨rfl, hb6⟩; have a0 := cell_keep hb6 a0; have a1 := cell_keep hb6 a1; have SS := Go.Lib.hid (SS.out.below hb6); have SP := Go.Lib.hid (HSP.out.below hb6); have BW := Go.Lib.hid (BW.out.trans (hb6.mono BW.out.size)); clear hb6)
                  | (go_at_call 17; have U' := SQ; refine (HR3.out _ BW.out).mono ?_; rintro e w11 ⟨A11, c11, rfl, hv11, hb11⟩; have U := trivial; have hbz := (hb11.trans ((Below.refl w11.heap.size w11).alloc (Nat.le_refl _) (.cells #[.bool d3, .slice A11 S3.length c11] 24) |>.mono hb11.size)); have a0 := cell_keep hbz a0; have a1 := cell_keep hbz a1; have b0 := cell_keep hbz b0; have b1 := cell_keep hbz b1; have SS := Go.Lib.hid (SS.out.below hbz); have SB := Go.Lib.hid (SB.out.below hbz); have SP := Go.Lib.hid (SP.out.below hbz); have SQ := Go.Lib.hid (SQ.out.below hbz); have S3X := Go.Lib.hid (hv11.below ((Below.refl w11.heap.size w11).alloc (Nat.le_refl _) (.cells #[.bool d3, .slice A11 S3.length c11] 24))); have BW := Go.Lib.hid (BW.out.trans (hbz.mono BW.out.size)); clear hb11 hv11 hbz)
                  | (go_at_call 17; refine (HR1.out _ BW.out).mono ?_; rintro e w7 ⟨A7, c7, rfl, hv7, hb7⟩; have hbz := (hb7.trans ((Below.refl w7.heap.size w7).alloc (Nat.le_refl _) (.cells #[.bool d, .slice A7 S.length c7] 24) |>.mono hb7.size)); have b0 : (w7.alloc (.cells #[.bool d, .slice A7 S.length c7] 24)).cell? ⟨w7.heap.size, 0, none⟩ = some (.bool d) := World.cell?_alloc_at _ _ _ _ rfl; have b1 : (w7.alloc (.cells #[.bool d, .slice A7 S.length c7] 24)).cell? ⟨w7.heap.size, 1, none⟩ = some (.slice A7 S.length c7) := World.cell?_alloc_at _ _ _ _ rfl; have a0 := cell_keep hbz a0; have a1 := cell_keep hbz a1; have SS := Go.Lib.hid (SS.out.below hbz); have SB := Go.Lib.hid (hv7.below ((Below.refl w7.heap.size w7).alloc (Nat.le_refl _) (.cells #[.bool d, .slice A7 S.length c7] 24))); have SP := Go.Lib.hid (SP.out.below hbz); have BW := Go.Lib.hid (BW.out.trans (hbz.mono BW.out.size)); clear hb7 hv7 hbz)
                  | (go_at_call 12; refine (HS2.out _ _ BW.out SP.out).mono ?_; rintro e w9 ⟨rfl, hb9⟩; have a0 := cell_keep hb9 a0; have a1 := cell_keep hb9 a1; have b0 := cell_keep hb9 b0; have b1 := cell_keep hb9 b1; have SS := Go.Lib.hid (SS.out.below hb9); have SB := Go.Lib.hid (SB.out.below hb9); have SP := Go.Lib.hid (SP.out.below hb9); have BW := Go.Lib.hid (BW.out.trans (hb9.mono BW.out.size)); clear hb9)
                  | (go_at_call 14; refine (HR2.out _ BW.out).mono ?_; rintro e w10 ⟨v10, rfl, hv10, hb10⟩; have a0 := cell_keep hb10 a0; have a1 := cell_keep hb10 a1; have b0 := cell_keep hb10 b0; have b1 := cell_keep hb10 b1; have SS := Go.Lib.hid (SS.out.below hb10); have SB := Go.Lib.hid (SB.out.below hb10); have SP := Go.Lib.hid (SP.out.below hb10); have SQ := Go.Lib.hid hv10; have BW := Go.Lib.hid (BW.out.trans (hb10.mono BW.out.size)); clear hb10 hv10)
                  | (go_at_call 21; refine (eqSides_any _ _ _ _ SS.out SB.out).mono ?_; rintro e w14 ⟨rfl, hb14⟩; have SP := Go.Lib.hid (SP.out.below hb14); have SQ := Go.Lib.hid (SQ.out.below hb14); have BW := Go.Lib.hid (BW.out.trans (hb14.mono BW.out.size)); clear hb14)
                  | (go_at_call 22; refine (eqPrefs_any _ _ _ _ SP.out SQ.out).mono ?_; rintro e w15 ⟨rfl, hb15⟩; have BW := Go.Lib.hid (BW.out.trans (hb15.mono BW.out.size)); clear hb15))
                all_goals
                  go_ret
                  exact ⟨rfl, BW.out⟩
              · have h3b : (c3 == 0) = false := by rw [beq_eq_false_iff_ne]; exact h3
                have HS3 := trivial
                clear h3
                go_wp2_with (first
                  | (go_at_call 10; have U' := U; refine (HS3.out _ _ BW.out (S3X.out)).mono ?_; rintro e w13 ⟨rfl, hb13⟩; have a0 := cell_keep hb13 a0; have a1 := cell_keep hb13 a1; have b0 := cell_keep hb13 b0; have b1 := cell_keep hb13 b1; have SS := Go.Lib.hid (SS.out.below hb13); have SB := Go.Lib.hid (SB.out.below hb13); have SP := Go.Lib.hid (SP.out.below hb13); have SQ := Go.Lib.hid (SQ.out.below hb13); have BW := Go.Lib.hid (BW.out.trans (hb13.mono BW.out.size)); clear hb13)
                  | (go_at_call 10; refine (HS1.out _ BW.out SS.out).mono ?_; rintro e w6 ⟨rfl, hb6⟩; have a0 := cell_keep hb6 a0; have a1 := cell_keep hb6 a1; have SS := Go.Lib.hid (SS.out.below hb6); have SP := Go.Lib.hid (HSP.out.below hb6); have BW := Go.Lib.hid (BW.out.trans (hb6.mono BW.out.size)); clear hb6)
                  | (go_at_call 17; have U' := SQ; refine (HR3.out _ BW.out).mono ?_; rintro e w11 ⟨A11, c11, rfl, hv11, hb11⟩; have U := trivial; have hbz := (hb11.trans ((Below.refl w11.heap.size w11).alloc (Nat.le_refl _) (.cells #[.bool d3, .slice A11 S3.length c11] 24) |>.mono hb11.size)); have a0 := cell_keep hbz a0; have a1 := cell_keep hbz a1; have b0 := cell_keep hbz b0; have b1 := cell_keep hbz b1; have SS := Go.Lib.hid (SS.out.below hbz); have SB := Go.Lib.hid (SB.out.below hbz); have SP := Go.Lib.hid (SP.out.below hbz); have SQ := Go.Lib.hid (SQ.out.below hbz); have S3X := Go.Lib.hid (hv11.below ((Below.refl w11.heap.size w11).alloc (Nat.le_refl _) (.cells #[.bool d3, .slice A11 S3.length c11] 24))); have BW := Go.Lib.hid (BW.out.trans (hbz.mono BW.out.size)); clear hb11 hv11 hbz)
                  | (go_at_call 17; refine (HR1.out _ BW.out).mono ?_; rintro e w7 ⟨A7, c7, rfl, hv7, hb7⟩; have hbz := (hb7.trans ((Below.refl w7.heap.size w7).alloc (Nat.le_refl _) (.cells #[.bool d, .slice A7 S.length c7] 24) |>.mono hb7.size)); have b0 : (w7.alloc (.cells #[.bool d, .slice A7 S.length c7] 24)).cell? ⟨w7.heap.size, 0, none⟩ = some (.bool d) := World.cell?_alloc_at _ _ _ _ rfl; have b1 : (w7.alloc (.cells #[.bool d, .slice A7 S.length c7] 24)).cell? ⟨w7.heap.size, 1, none⟩ = some (.slice A7 S.length c7) := World.cell?_alloc_at _ _ _ _ rfl; have a0 := cell_keep hbz a0; have a1 := cell_keep hbz a1; have SS := Go.Lib.hid (SS.out.below hbz); have SB := Go.Lib.hid (hv7.below ((Below.refl w7.heap.size w7).alloc (Nat.le_refl _) (.cells #[.bool d, .slice A7 S.length c7] 24))); have SP := Go.Lib.hid (SP.out.below hbz); have BW := Go.Lib.hid (BW.out.trans (hbz.mono BW.out.size)); clear hb7 hv7 hbz)
                  | (go_at_call 12; refine (HS2.out _ _ BW.out SP.out).mono ?_; rintro e w9 ⟨rfl, hb9⟩; have a0 := cell_keep hb9 a0; have a1 := cell_keep hb9 a1; have b0 := cell_keep hb9 b0; have b1 := cell_keep hb9 b1; have SS := Go.Lib.hid (SS.out.below hb9); have SB := Go.Lib.hid (SB.out.below hb9); have SP := Go.Lib.hid (SP.out.below hb9); have BW := Go.Lib.hid (BW.out.trans (hb9.mono BW.out.size)); clear hb9)
                  | (go_at_call 14; refine (HR2.out _ BW.out).mono ?_; rintro e w10 ⟨v10, rfl, hv10, hb10⟩; have a0 := cell_keep hb10 a0; have a1 := cell_keep hb10 a1; have b0 := cell_keep hb10 b0; have b1 := cell_keep hb10 b1; have SS := Go.Lib.hid (SS.out.below hb10); have SB := Go.Lib.hid (SB.out.below hb10); have SP := Go.Lib.hid (SP.out.below hb10); have SQ := Go.Lib.hid hv10; have BW := Go.Lib.hid (BW.out.trans (hb10.mono BW.out.size)); clear hb10 hv10)
                  | (go_at_call 21; refine (eqSides_any _ _ _ _ SS.out SB.out).mono ?_; rintro e w14 ⟨rfl, hb14⟩; have SP := Go.Lib.hid (SP.out.below hb14); have SQ := Go.Lib.hid (SQ.out.below hb14); have BW := Go.Lib.hid (BW.out.trans (hb14.mono BW.out.size)); clear hb14)
                  | (go_at_call 22; refine (eqPrefs_any _ _ _ _ SP.out SQ.out).mono ?_; rintro e w15 ⟨rfl, hb15⟩; have BW := Go.Lib.hid (BW.out.trans (hb15.mono BW.out.size)); clear hb15))
                all_goals
                  go_ret
                  exact ⟨rfl, BW.out⟩
          · have hjli : ¬ (j : Int) < (xs.length : Int) := by omega
            exfalso; omega
    · have hlti : ¬ (k : Int) < (xs.length : Int) := by omega
      have HCS := Go.Lib.hid (sidesK_chk xs hk12)
      have HSS := Go.Lib.hid (HO.out.sl (by decide))
      have hls := (sidesK_ok xs k).2.2
      generalize sidesK xs k = S at *
      obtain ⟨wL, hwL⟩ : ∃ x, x = wr := ⟨_, rfl⟩
      subst hwL
      have hz0 := HB.out.size
      go_wp2_with fail
      go_loopw [6, 8] (fun p i wr2 => ∃ j : Nat, j ≤ xs.length ∧ j ≤ 6 ∧ i = .int .i64 j ∧ OwR prefR 49 wL.heap.size wr2 p (prefsK xs j) ∧ Below wL.heap.size wL wr2) (fun _ i _ => 6 - (intOf i).toNat)
      case atStart => exact ⟨0, Nat.zero_le _, Nat.zero_le _, rfl, OwR.nil _ _ (Nat.le_refl _), Below.refl _ _⟩
      case round =>
        obtain ⟨j, hj, hj6, rfl, hp, hB2⟩ := hrel
        have HP := Go.Lib.hid hp
        have HB2 := Go.Lib.hid hB2
        clear hp hB2
        by_cases hjl : j < xs.length
        · have hjli : (j : Int) < (xs.length : Int) := by omega
          by_cases hj66 : j < 6
          · have hj6i : (j : Int) < 6 := by omega
            obtain ⟨b, off, rfl, hb⟩ := H.out.at_ hjl
            obtain ⟨f0, f1, f2, f3, i0, i1, i2, i3⟩ := (H.out.below (HB.out.trans (HB2.out.mono hz0))).raw hjl
            have hq := pickN_lt xs[j].c 6 (by omega)
            have PC := Go.Lib.hid (fun w => picked_any xs[j].c 6 w i3 (by omega) (by omega))
            have HSUC := Go.Lib.hid (prefsK_yes hjl)
            have HN := Go.Lib.hid (show (prefsK xs j).length + 1 ≤ 1000000000000 by have := (prefsK_ok xs j hj6).2.2; omega)
            generalize xs[j].c = B at *
            generalize pickN B 6 = Q at *
            clear f0 f1 f2 i0 i1 i2 i3
            have HOA := Go.Lib.hid (ow_alloc HP.out (.cells #[.int .i64 (32 * (j : Int)), .int .i64 (3 + (Q : Int))] 49))
            have HONE := Go.Lib.hid (one_flat (r := prefR) (w := wr) (B := wr.heap.size) (cs := [.int .i64 (32 * (j : Int)), .int .i64 (3 + (Q : Int))]) (x := ⟨32 * (j : Int), 3 + (Q : Int)⟩) (E := 49) rfl ⟨rfl, (by show inR (32 * (j : Int)); unfold inR; omega), (by show inR (3 + (Q : Int)); unfold inR; omega)⟩)
            have HBA := Go.Lib.hid (HB2.out.alloc HB2.out.size (.cells #[.int .i64 (32 * (j : Int)), .int .i64 (3 + (Q : Int))] 49))
            go_wp2_with (first
              | (go_at_call 20; refine (PC.out _).mono ?_; rintro e w' ⟨rfl, rfl⟩)
              | (at_builtin; refine wpList_gen (base := wL.heap.size) elt_prefA rfl (.tmp 67) (.tmp 78) rfl HOA.out HONE.out (fun _ _ h => h) rfl rfl HN.out (by decide) ?_; intro v2 w4 ho2 hg2; have HB4 := Go.Lib.hid (HOA.out.below_grown HBA.out hg2.grown)))
            go_roundw
            case rel => exact ⟨j + 1, by omega, by omega, by go_num, by rw [HSUC.out]; exact ho2, HB4.out⟩
            case measure => simp [intOf]; omega
          · have hj6i : ¬ (j : Int) < 6 := by omega
            have hz2 := HB2.out.size
            have HCP := Go.Lib.hid (prefsK_chk xs hj6)
            have HSP := Go.Lib.hid (HP.out.sl (by decide))
            have SS := Go.Lib.hid (HSS.out.below HB2.out)
            have BW := Go.Lib.hid (HB.out.trans (HB2.out.mono hz0))
            obtain ⟨a0, a1, a2, a3⟩ := HX.out.below HB2.out
            generalize prefsK xs j = PF at *
            have HS1 := Go.Lib.hid (fun w' (hb : Below w.heap.size w w') (h : Sl sideR w' o S) => ((showAdj_any d o S w' h (HE.out.tab.below hb)).mono (fun e w'' ⟨he, hb'⟩ => ⟨(by rw [he, if_pos HCS.out, HCS.out]), hb'⟩) : Calls Tryd.prog 10 #[.agg #[.bool d, o]] w' fun e w'' => e = .returned (.tuple #[.string (bOf (adjT d S)), .int .i64 0]) ∧ Below w'.heap.size w' w''))
            have HS2 := Go.Lib.hid (fun w' v (hb : Below w.heap.size w w') (h : Sl prefR w' v PF) => ((showPrefs_any v PF w' h (HE.out.tab.below hb)).mono (fun e w'' ⟨he, hb'⟩ => ⟨(by rw [he, if_pos HCP.out, HCP.out]), hb'⟩) : Calls Tryd.prog 12 #[v] w' fun e w'' => e = .returned (.tuple #[.string (bOf (prefsT PF)), .int .i64 0]) ∧ Below w'.heap.size w' w''))
            have hta : (bOf (adjT d S)).size < 4294967281 := by rw [bOf_size]; have := adjT_len d HCS.out; omega
            have htp : (bOf (prefsT PF)).size < 4294967281 := by rw [bOf_size]; have := prefsT_len HCP.out; omega
            have HR1 := Go.Lib.hid (fun w' (hb : Below w.heap.size w w') => ((readAdj_any (bOf (adjT d S)) w' hta (HE.out.below hb)).mono (fun e w'' ⟨v, he, hv, hb'⟩ => by
              rw [bOf_list, adj_read HCS.out] at he hv
              obtain ⟨A, c, rfl⟩ := hv.form
              exact ⟨A, c, he, hv, hb'⟩) : Calls Tryd.prog 17 #[.string (bOf (adjT d S))] w' fun e w'' => ∃ A c, e = .returned (.tuple #[.agg #[.bool d, .slice A S.length c], .int .i64 0]) ∧ Sl sideR w'' (.slice A S.length c) S ∧ Below w'.heap.size w' w''))
            have HR2 := Go.Lib.hid (fun w' (hb : Below w.heap.size w w') => ((readPrefs_any (bOf (prefsT PF)) w' htp (HE.out.below hb)).mono (fun e w'' ⟨v, he, hv, hb'⟩ => by
              rw [bOf_list, prefs_read HCP.out] at he hv
              exact ⟨v, he, hv, hb'⟩) : Calls Tryd.prog 14 #[.string (bOf (prefsT PF))] w' fun e w'' => ∃ v, e = .returned (.tuple #[v, .int .i64 0]) ∧ Sl prefR w'' v PF ∧ Below w'.heap.size w' w''))
            have HR3 := Go.Lib.hid (fun w' (hb : Below w.heap.size w w') => ((readAdj_any s w' (by omega) (HE.out.below hb)).mono (fun e w'' ⟨v, he, hv, hb'⟩ => by
              obtain ⟨A, c, rfl⟩ := hv.form
              exact ⟨A, c, he, hv, hb'⟩) : Calls Tryd.prog 17 #[.string s] w' fun e w'' => ∃ A c, e = .returned (.tuple #[.agg #[.bool (readAdj s.data.toList).1, .slice A (readAdj s.data.toList).2.1.length c], .int .i64 (readAdj s.data.toList).2.2]) ∧ Sl sideR w'' (.slice A (readAdj s.data.toList).2.1.length c) (readAdj s.data.toList).2.1 ∧ Below w'.heap.size w' w''))
            have HBK := Go.Lib.hid (fun h => adj_back (s := s.data.toList) h)
            have HSB := Go.Lib.hid (bOf_data s)
            generalize readAdj s.data.toList = R3 at *
            obtain ⟨d3, S3, c3⟩ := R3
            generalize adjT d S = TA at *
            generalize prefsT PF = TP at *
            clear hta htp
            by_cases h3 : c3 = 0
            · subst h3
              have hbk := HBK.out rfl
              have HS3 := Go.Lib.hid (fun w' v (hb : Below w.heap.size w w') (h : Sl sideR w' v S3) => ((showAdj_any d3 v S3 w' h (HE.out.tab.below hb)).mono (fun e w'' ⟨he, hb'⟩ => ⟨(by rw [he, if_pos hbk.1, hbk.1]; rw [hbk.2, HSB.out]), hb'⟩) : Calls Tryd.prog 10 #[.agg #[.bool d3, v]] w' fun e w'' => e = .returned (.tuple #[.string s, .int .i64 0]) ∧ Below w'.heap.size w' w''))
              clear hbk
              go_wp2_with (first
                | (go_at_call 10; have U' := U; refine (HS3.out _ _ BW.out (S3X.out)).mono ?_; rintro e w13 ⟨rfl, hb13⟩; have a0 := cell_keep hb13 a0; have a1 := cell_keep hb13 a1; have b0 := cell_keep hb13 b0; have b1 := cell_keep hb13 b1; have SS := Go.Lib.hid (SS.out.below hb13); have SB := Go.Lib.hid (SB.out.below hb13); have SP := Go.Lib.hid (SP.out.below hb13); have SQ := Go.Lib.hid (SQ.out.below hb13); have BW := Go.Lib.hid (BW.out.trans (hb13.mono BW.out.size)); clear hb13)
                | (go_at_call 10; refine (HS1.out _ BW.out SS.out).mono ?_; rintro e w6 ⟨rfl, hb6⟩; have a0 := cell_keep hb6 a0; have a1 := cell_keep hb6 a1; have SS := Go.Lib.hid (SS.out.below hb6); have SP := Go.Lib.hid (HSP.out.below hb6); have BW := Go.Lib.hid (BW.out.trans (hb6.mono BW.out.size)); clear hb6)
                | (go_at_call 17; have U' := SQ; refine (HR3.out _ BW.out).mono ?_; rintro e w11 ⟨A11, c11, rfl, hv11, hb11⟩; have U := trivial; have hbz := (hb11.trans ((Below.refl w11.heap.size w11).alloc (Nat.le_refl _) (.cells #[.bool d3, .slice A11 S3.length c11] 24) |>.mono hb11.size)); have a0 := cell_keep hbz a0; have a1 := cell_keep hbz a1; have b0 := cell_keep hbz b0; have b1 := cell_keep hbz b1; have SS := Go.Lib.hid (SS.out.below hbz); have SB := Go.Lib.hid (SB.out.below hbz); have SP := Go.Lib.hid (SP.out.below hbz); have SQ := Go.Lib.hid (SQ.out.below hbz); have S3X := Go.Lib.hid (hv11.below ((Below.refl w11.heap.size w11).alloc (Nat.le_refl _) (.cells #[.bool d3, .slice A11 S3.length c11] 24))); have BW := Go.Lib.hid (BW.out.trans (hbz.mono BW.out.size)); clear hb11 hv11 hbz)
                | (go_at_call 17; refine (HR1.out _ BW.out).mono ?_; rintro e w7 ⟨A7, c7, rfl, hv7, hb7⟩; have hbz := (hb7.trans ((Below.refl w7.heap.size w7).alloc (Nat.le_refl _) (.cells #[.bool d, .slice A7 S.length c7] 24) |>.mono hb7.size)); have b0 : (w7.alloc (.cells #[.bool d, .slice A7 S.length c7] 24)).cell? ⟨w7.heap.size, 0, none⟩ = some (.bool d) := World.cell?_alloc_at _ _ _ _ rfl; have b1 : (w7.alloc (.cells #[.bool d, .slice A7 S.length c7] 24)).cell? ⟨w7.heap.size, 1, none⟩ = some (.slice A7 S.length c7) := World.cell?_alloc_at _ _ _ _ rfl; have a0 := cell_keep hbz a0; have a1 := cell_keep hbz a1; have SS := Go.Lib.hid (SS.out.below hbz); have SB := Go.Lib.hid (hv7.below ((Below.refl w7.heap.size w7).alloc (Nat.le_refl _) (.cells #[.bool d, .slice A7 S.length c7] 24))); have SP := Go.Lib.hid (SP.out.below hbz); have BW := Go.Lib.hid (BW.out.trans (hbz.mono BW.out.size)); clear hb7 hv7 hbz)
                | (go_at_call 12; refine (HS2.out _ _ BW.out SP.out).mono ?_; rintro e w9 ⟨rfl, hb9⟩; have a0 := cell_keep hb9 a0; have a1 := cell_keep hb9 a1; have b0 := cell_keep hb9 b0; have b1 := cell_keep hb9 b1; have SS := Go.Lib.hid (SS.out.below hb9); have SB := Go.Lib.hid (SB.out.below hb9); have SP := Go.Lib.hid (SP.out.below hb9); have BW := Go.Lib.hid (BW.out.trans (hb9.mono BW.out.size)); clear hb9)
                | (go_at_call 14; refine (HR2.out _ BW.out).mono ?_; rintro e w10 ⟨v10, rfl, hv10, hb10⟩; have a0 := cell_keep hb10 a0; have a1 := cell_keep hb10 a1; have b0 := cell_keep hb10 b0; have b1 := cell_keep hb10 b1; have SS := Go.Lib.hid (SS.out.below hb10); have SB := Go.Lib.hid (SB.out.below hb10); have SP := Go.Lib.hid (SP.out.below hb10); have SQ := Go.Lib.hid hv10; have BW := Go.Lib.hid (BW.out.trans (hb10.mono BW.out.size)); clear hb10 hv10)
                | (go_at_call 21; refine (eqSides_any _ _ _ _ SS.out SB.out).mono ?_; rintro e w14 ⟨rfl, hb14⟩; have SP := Go.Lib.hid (SP.out.below hb14); have SQ := Go.Lib.hid (SQ.out.below hb14); have BW := Go.Lib.hid (BW.out.trans (hb14.mono BW.out.size)); clear hb14)
                | (go_at_call 22; refine (eqPrefs_any _ _ _ _ SP.out SQ.out).mono ?_; rintro e w15 ⟨rfl, hb15⟩; have BW := Go.Lib.hid (BW.out.trans (hb15.mono BW.out.size)); clear hb15))
              all_goals
                go_ret
                exact ⟨rfl, BW.out⟩
            · have h3b : (c3 == 0) = false := by rw [beq_eq_false_iff_ne]; exact h3
              have HS3 := trivial
              clear h3
              go_wp2_with (first
                | (go_at_call 10; have U' := U; refine (HS3.out _ _ BW.out (S3X.out)).mono ?_; rintro e w13 ⟨rfl, hb13⟩; have a0 := cell_keep hb13 a0; have a1 := cell_keep hb13 a1; have b0 := cell_keep hb13 b0; have b1 := cell_keep hb13 b1; have SS := Go.Lib.hid (SS.out.below hb13); have SB := Go.Lib.hid (SB.out.below hb13); have SP := Go.Lib.hid (SP.out.below hb13); have SQ := Go.Lib.hid (SQ.out.below hb13); have BW := Go.Lib.hid (BW.out.trans (hb13.mono BW.out.size)); clear hb13)
                | (go_at_call 10; refine (HS1.out _ BW.out SS.out).mono ?_; rintro e w6 ⟨rfl, hb6⟩; have a0 := cell_keep hb6 a0; have a1 := cell_keep hb6 a1; have SS := Go.Lib.hid (SS.out.below hb6); have SP := Go.Lib.hid (HSP.out.below hb6); have BW := Go.Lib.hid (BW.out.trans (hb6.mono BW.out.size)); clear hb6)
                | (go_at_call 17; have U' := SQ; refine (HR3.out _ BW.out).mono ?_; rintro e w11 ⟨A11, c11, rfl, hv11, hb11⟩; have U := trivial; have hbz := (hb11.trans ((Below.refl w11.heap.size w11).alloc (Nat.le_refl _) (.cells #[.bool d3, .slice A11 S3.length c11] 24) |>.mono hb11.size)); have a0 := cell_keep hbz a0; have a1 := cell_keep hbz a1; have b0 := cell_keep hbz b0; have b1 := cell_keep hbz b1; have SS := Go.Lib.hid (SS.out.below hbz); have SB := Go.Lib.hid (SB.out.below hbz); have SP := Go.Lib.hid (SP.out.below hbz); have SQ := Go.Lib.hid (SQ.out.below hbz); have S3X := Go.Lib.hid (hv11.below ((Below.refl w11.heap.size w11).alloc (Nat.le_refl _) (.cells #[.bool d3, .slice A11 S3.length c11] 24))); have BW := Go.Lib.hid (BW.out.trans (hbz.mono BW.out.size)); clear hb11 hv11 hbz)
                | (go_at_call 17; refine (HR1.out _ BW.out).mono ?_; rintro e w7 ⟨A7, c7, rfl, hv7, hb7⟩; have hbz := (hb7.trans ((Below.refl w7.heap.size w7).alloc (Nat.le_refl _) (.cells #[.bool d, .slice A7 S.length c7] 24) |>.mono hb7.size)); have b0 : (w7.alloc (.cells #[.bool d, .slice A7 S.length c7] 24)).cell? ⟨w7.heap.size, 0, none⟩ = some (.bool d) := World.cell?_alloc_at _ _ _ _ rfl; have b1 : (w7.alloc (.cells #[.bool d, .slice A7 S.length c7] 24)).cell? ⟨w7.heap.size, 1, none⟩ = some (.slice A7 S.length c7) := World.cell?_alloc_at _ _ _ _ rfl; have a0 := cell_keep hbz a0; have a1 := cell_keep hbz a1; have SS := Go.Lib.hid (SS.out.below hbz); have SB := Go.Lib.hid (hv7.below ((Below.refl w7.heap.size w7).alloc (Nat.le_refl _) (.cells #[.bool d, .slice A7 S.length c7] 24))); have SP := Go.Lib.hid (SP.out.below hbz); have BW := Go.Lib.hid (BW.out.trans (hbz.mono BW.out.size)); clear hb7 hv7 hbz)
                | (go_at_call 12; refine (HS2.out _ _ BW.out SP.out).mono ?_; rintro e w9 ⟨rfl, hb9⟩; have a0 := cell_keep hb9 a0; have a1 := cell_keep hb9 a1; have b0 := cell_keep hb9 b0; have b1 := cell_keep hb9 b1; have SS := Go.Lib.hid (SS.out.below hb9); have SB := Go.Lib.hid (SB.out.below hb9); have SP := Go.Lib.hid (SP.out.below hb9); have BW := Go.Lib.hid (BW.out.trans (hb9.mono BW.out.size)); clear hb9)
                | (go_at_call 14; refine (HR2.out _ BW.out).mono ?_; rintro e w10 ⟨v10, rfl, hv10, hb10⟩; have a0 := cell_keep hb10 a0; have a1 := cell_keep hb10 a1; have b0 := cell_keep hb10 b0; have b1 := cell_keep hb10 b1; have SS := Go.Lib.hid (SS.out.below hb10); have SB := Go.Lib.hid (SB.out.below hb10); have SP := Go.Lib.hid (SP.out.below hb10); have SQ := Go.Lib.hid hv10; have BW := Go.Lib.hid (BW.out.trans (hb10.mono BW.out.size)); clear hb10 hv10)
                | (go_at_call 21; refine (eqSides_any _ _ _ _ SS.out SB.out).mono ?_; rintro e w14 ⟨rfl, hb14⟩; have SP := Go.Lib.hid (SP.out.below hb14); have SQ := Go.Lib.hid (SQ.out.below hb14); have BW := Go.Lib.hid (BW.out.trans (hb14.mono BW.out.size)); clear hb14)
                | (go_at_call 22; refine (eqPrefs_any _ _ _ _ SP.out SQ.out).mono ?_; rintro e w15 ⟨rfl, hb15⟩; have BW := Go.Lib.hid (BW.out.trans (hb15.mono BW.out.size)); clear hb15))
              all_goals
                go_ret
                exact ⟨rfl, BW.out⟩
        · have hjli : ¬ (j : Int) < (xs.length : Int) := by omega
          have hz2 := HB2.out.size
          have HCP := Go.Lib.hid (prefsK_chk xs hj6)
          have HSP := Go.Lib.hid (HP.out.sl (by decide))
          have SS := Go.Lib.hid (HSS.out.below HB2.out)
          have BW := Go.Lib.hid (HB.out.trans (HB2.out.mono hz0))
          obtain ⟨a0, a1, a2, a3⟩ := HX.out.below HB2.out
          generalize prefsK xs j = PF at *
          have HS1 := Go.Lib.hid (fun w' (hb : Below w.heap.size w w') (h : Sl sideR w' o S) => ((showAdj_any d o S w' h (HE.out.tab.below hb)).mono (fun e w'' ⟨he, hb'⟩ => ⟨(by rw [he, if_pos HCS.out, HCS.out]), hb'⟩) : Calls Tryd.prog 10 #[.agg #[.bool d, o]] w' fun e w'' => e = .returned (.tuple #[.string (bOf (adjT d S)), .int .i64 0]) ∧ Below w'.heap.size w' w''))
          have HS2 := Go.Lib.hid (fun w' v (hb : Below w.heap.size w w') (h : Sl prefR w' v PF) => ((showPrefs_any v PF w' h (HE.out.tab.below hb)).mono (fun e w'' ⟨he, hb'⟩ => ⟨(by rw [he, if_pos HCP.out, HCP.out]), hb'⟩) : Calls Tryd.prog 12 #[v] w' fun e w'' => e = .returned (.tuple #[.string (bOf (prefsT PF)), .int .i64 0]) ∧ Below w'.heap.size w' w''))
          have hta : (bOf (adjT d S)).size < 4294967281 := by rw [bOf_size]; have := adjT_len d HCS.out; omega
          have htp : (bOf (prefsT PF)).size < 4294967281 := by rw [bOf_size]; have := prefsT_len HCP.out; omega
          have HR1 := Go.Lib.hid (fun w' (hb : Below w.heap.size w w') => ((readAdj_any (bOf (adjT d S)) w' hta (HE.out.below hb)).mono (fun e w'' ⟨v, he, hv, hb'⟩ => by
            rw [bOf_list, adj_read HCS.out] at he hv
            obtain ⟨A, c, rfl⟩ := hv.form
            exact ⟨A, c, he, hv, hb'⟩) : Calls Tryd.prog 17 #[.string (bOf (adjT d S))] w' fun e w'' => ∃ A c, e = .returned (.tuple #[.agg #[.bool d, .slice A S.length c], .int .i64 0]) ∧ Sl sideR w'' (.slice A S.length c) S ∧ Below w'.heap.size w' w''))
          have HR2 := Go.Lib.hid (fun w' (hb : Below w.heap.size w w') => ((readPrefs_any (bOf (prefsT PF)) w' htp (HE.out.below hb)).mono (fun e w'' ⟨v, he, hv, hb'⟩ => by
            rw [bOf_list, prefs_read HCP.out] at he hv
            exact ⟨v, he, hv, hb'⟩) : Calls Tryd.prog 14 #[.string (bOf (prefsT PF))] w' fun e w'' => ∃ v, e = .returned (.tuple #[v, .int .i64 0]) ∧ Sl prefR w'' v PF ∧ Below w'.heap.size w' w''))
          have HR3 := Go.Lib.hid (fun w' (hb : Below w.heap.size w w') => ((readAdj_any s w' (by omega) (HE.out.below hb)).mono (fun e w'' ⟨v, he, hv, hb'⟩ => by
            obtain ⟨A, c, rfl⟩ := hv.form
            exact ⟨A, c, he, hv, hb'⟩) : Calls Tryd.prog 17 #[.string s] w' fun e w'' => ∃ A c, e = .returned (.tuple #[.agg #[.bool (readAdj s.data.toList).1, .slice A (readAdj s.data.toList).2.1.length c], .int .i64 (readAdj s.data.toList).2.2]) ∧ Sl sideR w'' (.slice A (readAdj s.data.toList).2.1.length c) (readAdj s.data.toList).2.1 ∧ Below w'.heap.size w' w''))
          have HBK := Go.Lib.hid (fun h => adj_back (s := s.data.toList) h)
          have HSB := Go.Lib.hid (bOf_data s)
          generalize readAdj s.data.toList = R3 at *
          obtain ⟨d3, S3, c3⟩ := R3
          generalize adjT d S = TA at *
          generalize prefsT PF = TP at *
          clear hta htp
          by_cases h3 : c3 = 0
          · subst h3
            have hbk := HBK.out rfl
            have HS3 := Go.Lib.hid (fun w' v (hb : Below w.heap.size w w') (h : Sl sideR w' v S3) => ((showAdj_any d3 v S3 w' h (HE.out.tab.below hb)).mono (fun e w'' ⟨he, hb'⟩ => ⟨(by rw [he, if_pos hbk.1, hbk.1]; rw [hbk.2, HSB.out]), hb'⟩) : Calls Tryd.prog 10 #[.agg #[.bool d3, v]] w' fun e w'' => e = .returned (.tuple #[.string s, .int .i64 0]) ∧ Below w'.heap.size w' w''))
            clear hbk
            go_wp2_with (first
              | (go_at_call 10; have U' := U; refine (HS3.out _ _ BW.out (S3X.out)).mono ?_; rintro e w13 ⟨rfl, hb13⟩; have a0 := cell_keep hb13 a0; have a1 := cell_keep hb13 a1; have b0 := cell_keep hb13 b0; have b1 := cell_keep hb13 b1; have SS := Go.Lib.hid (SS.out.below hb13); have SB := Go.Lib.hid (SB.out.below hb13); have SP := Go.Lib.hid (SP.out.below hb13); have SQ := Go.Lib.hid (SQ.out.below hb13); have BW := Go.Lib.hid (BW.out.trans (hb13.mono BW.out.size)); clear hb13)
              | (go_at_call 10; refine (HS1.out _ BW.out SS.out).mono ?_; rintro e w6 ⟨rfl, hb6⟩; have a0 := cell_keep hb6 a0; have a1 := cell_keep hb6 a1; have SS := Go.Lib.hid (SS.out.below hb6); have SP := Go.Lib.hid (HSP.out.below hb6); have BW := Go.Lib.hid (BW.out.trans (hb6.mono BW.out.size)); clear hb6)
              | (go_at_call 17; have U' := SQ; refine (HR3.out _ BW.out).mono ?_; rintro e w11 ⟨A11, c11, rfl, hv11, hb11⟩; have U := trivial; have hbz := (hb11.trans ((Below.refl w11.heap.size w11).alloc (Nat.le_refl _) (.cells #[.bool d3, .slice A11 S3.length c11] 24) |>.mono hb11.size)); have a0 := cell_keep hbz a0; have a1 := cell_keep hbz a1; have b0 := cell_keep hbz b0; have b1 := cell_keep hbz b1; have SS := Go.Lib.hid (SS.out.below hbz); have SB := Go.Lib.hid (SB.out.below hbz); have SP := Go.Lib.hid (SP.out.below hbz); have SQ := Go.Lib.hid (SQ.out.below hbz); have S3X := Go.Lib.hid (hv11.below ((Below.refl w11.heap.size w11).alloc (Nat.le_refl _) (.cells #[.bool d3, .slice A11 S3.length c11] 24))); have BW := Go.Lib.hid (BW.out.trans (hbz.mono BW.out.size)); clear hb11 hv11 hbz)
              | (go_at_call 17; refine (HR1.out _ BW.out).mono ?_; rintro e w7 ⟨A7, c7, rfl, hv7, hb7⟩; have hbz := (hb7.trans ((Below.refl w7.heap.size w7).alloc (Nat.le_refl _) (.cells #[.bool d, .slice A7 S.length c7] 24) |>.mono hb7.size)); have b0 : (w7.alloc (.cells #[.bool d, .slice A7 S.length c7] 24)).cell? ⟨w7.heap.size, 0, none⟩ = some (.bool d) := World.cell?_alloc_at _ _ _ _ rfl; have b1 : (w7.alloc (.cells #[.bool d, .slice A7 S.length c7] 24)).cell? ⟨w7.heap.size, 1, none⟩ = some (.slice A7 S.length c7) := World.cell?_alloc_at _ _ _ _ rfl; have a0 := cell_keep hbz a0; have a1 := cell_keep hbz a1; have SS := Go.Lib.hid (SS.out.below hbz); have SB := Go.Lib.hid (hv7.below ((Below.refl w7.heap.size w7).alloc (Nat.le_refl _) (.cells #[.bool d, .slice A7 S.length c7] 24))); have SP := Go.Lib.hid (SP.out.below hbz); have BW := Go.Lib.hid (BW.out.trans (hbz.mono BW.out.size)); clear hb7 hv7 hbz)
              | (go_at_call 12; refine (HS2.out _ _ BW.out SP.out).mono ?_; rintro e w9 ⟨rfl, hb9⟩; have a0 := cell_keep hb9 a0; have a1 := cell_keep hb9 a1; have b0 := cell_keep hb9 b0; have b1 := cell_keep hb9 b1; have SS := Go.Lib.hid (SS.out.below hb9); have SB := Go.Lib.hid (SB.out.below hb9); have SP := Go.Lib.hid (SP.out.below hb9); have BW := Go.Lib.hid (BW.out.trans (hb9.mono BW.out.size)); clear hb9)
              | (go_at_call 14; refine (HR2.out _ BW.out).mono ?_; rintro e w10 ⟨v10, rfl, hv10, hb10⟩; have a0 := cell_keep hb10 a0; have a1 := cell_keep hb10 a1; have b0 := cell_keep hb10 b0; have b1 := cell_keep hb10 b1; have SS := Go.Lib.hid (SS.out.below hb10); have SB := Go.Lib.hid (SB.out.below hb10); have SP := Go.Lib.hid (SP.out.below hb10); have SQ := Go.Lib.hid hv10; have BW := Go.Lib.hid (BW.out.trans (hb10.mono BW.out.size)); clear hb10 hv10)
              | (go_at_call 21; refine (eqSides_any _ _ _ _ SS.out SB.out).mono ?_; rintro e w14 ⟨rfl, hb14⟩; have SP := Go.Lib.hid (SP.out.below hb14); have SQ := Go.Lib.hid (SQ.out.below hb14); have BW := Go.Lib.hid (BW.out.trans (hb14.mono BW.out.size)); clear hb14)
              | (go_at_call 22; refine (eqPrefs_any _ _ _ _ SP.out SQ.out).mono ?_; rintro e w15 ⟨rfl, hb15⟩; have BW := Go.Lib.hid (BW.out.trans (hb15.mono BW.out.size)); clear hb15))
            all_goals
              go_ret
              exact ⟨rfl, BW.out⟩
          · have h3b : (c3 == 0) = false := by rw [beq_eq_false_iff_ne]; exact h3
            have HS3 := trivial
            clear h3
            go_wp2_with (first
              | (go_at_call 10; have U' := U; refine (HS3.out _ _ BW.out (S3X.out)).mono ?_; rintro e w13 ⟨rfl, hb13⟩; have a0 := cell_keep hb13 a0; have a1 := cell_keep hb13 a1; have b0 := cell_keep hb13 b0; have b1 := cell_keep hb13 b1; have SS := Go.Lib.hid (SS.out.below hb13); have SB := Go.Lib.hid (SB.out.below hb13); have SP := Go.Lib.hid (SP.out.below hb13); have SQ := Go.Lib.hid (SQ.out.below hb13); have BW := Go.Lib.hid (BW.out.trans (hb13.mono BW.out.size)); clear hb13)
              | (go_at_call 10; refine (HS1.out _ BW.out SS.out).mono ?_; rintro e w6 ⟨rfl, hb6⟩; have a0 := cell_keep hb6 a0; have a1 := cell_keep hb6 a1; have SS := Go.Lib.hid (SS.out.below hb6); have SP := Go.Lib.hid (HSP.out.below hb6); have BW := Go.Lib.hid (BW.out.trans (hb6.mono BW.out.size)); clear hb6)
              | (go_at_call 17; have U' := SQ; refine (HR3.out _ BW.out).mono ?_; rintro e w11 ⟨A11, c11, rfl, hv11, hb11⟩; have U := trivial; have hbz := (hb11.trans ((Below.refl w11.heap.size w11).alloc (Nat.le_refl _) (.cells #[.bool d3, .slice A11 S3.length c11] 24) |>.mono hb11.size)); have a0 := cell_keep hbz a0; have a1 := cell_keep hbz a1; have b0 := cell_keep hbz b0; have b1 := cell_keep hbz b1; have SS := Go.Lib.hid (SS.out.below hbz); have SB := Go.Lib.hid (SB.out.below hbz); have SP := Go.Lib.hid (SP.out.below hbz); have SQ := Go.Lib.hid (SQ.out.below hbz); have S3X := Go.Lib.hid (hv11.below ((Below.refl w11.heap.size w11).alloc (Nat.le_refl _) (.cells #[.bool d3, .slice A11 S3.length c11] 24))); have BW := Go.Lib.hid (BW.out.trans (hbz.mono BW.out.size)); clear hb11 hv11 hbz)
              | (go_at_call 17; refine (HR1.out _ BW.out).mono ?_; rintro e w7 ⟨A7, c7, rfl, hv7, hb7⟩; have hbz := (hb7.trans ((Below.refl w7.heap.size w7).alloc (Nat.le_refl _) (.cells #[.bool d, .slice A7 S.length c7] 24) |>.mono hb7.size)); have b0 : (w7.alloc (.cells #[.bool d, .slice A7 S.length c7] 24)).cell? ⟨w7.heap.size, 0, none⟩ = some (.bool d) := World.cell?_alloc_at _ _ _ _ rfl; have b1 : (w7.alloc (.cells #[.bool d, .slice A7 S.length c7] 24)).cell? ⟨w7.heap.size, 1, none⟩ = some (.slice A7 S.length c7) := World.cell?_alloc_at _ _ _ _ rfl; have a0 := cell_keep hbz a0; have a1 := cell_keep hbz a1; have SS := Go.Lib.hid (SS.out.below hbz); have SB := Go.Lib.hid (hv7.below ((Below.refl w7.heap.size w7).alloc (Nat.le_refl _) (.cells #[.bool d, .slice A7 S.length c7] 24))); have SP := Go.Lib.hid (SP.out.below hbz); have BW := Go.Lib.hid (BW.out.trans (hbz.mono BW.out.size)); clear hb7 hv7 hbz)
              | (go_at_call 12; refine (HS2.out _ _ BW.out SP.out).mono ?_; rintro e w9 ⟨rfl, hb9⟩; have a0 := cell_keep hb9 a0; have a1 := cell_keep hb9 a1; have b0 := cell_keep hb9 b0; have b1 := cell_keep hb9 b1; have SS := Go.Lib.hid (SS.out.below hb9); have SB := Go.Lib.hid (SB.out.below hb9); have SP := Go.Lib.hid (SP.out.below hb9); have BW := Go.Lib.hid (BW.out.trans (hb9.mono BW.out.size)); clear hb9)
              | (go_at_call 14; refine (HR2.out _ BW.out).mono ?_; rintro e w10 ⟨v10, rfl, hv10, hb10⟩; have a0 := cell_keep hb10 a0; have a1 := cell_keep hb10 a1; have b0 := cell_keep hb10 b0; have b1 := cell_keep hb10 b1; have SS := Go.Lib.hid (SS.out.below hb10); have SB := Go.Lib.hid (SB.out.below hb10); have SP := Go.Lib.hid (SP.out.below hb10); have SQ := Go.Lib.hid hv10; have BW := Go.Lib.hid (BW.out.trans (hb10.mono BW.out.size)); clear hb10 hv10)
              | (go_at_call 21; refine (eqSides_any _ _ _ _ SS.out SB.out).mono ?_; rintro e w14 ⟨rfl, hb14⟩; have SP := Go.Lib.hid (SP.out.below hb14); have SQ := Go.Lib.hid (SQ.out.below hb14); have BW := Go.Lib.hid (BW.out.trans (hb14.mono BW.out.size)); clear hb14)
              | (go_at_call 22; refine (eqPrefs_any _ _ _ _ SP.out SQ.out).mono ?_; rintro e w15 ⟨rfl, hb15⟩; have BW := Go.Lib.hid (BW.out.trans (hb15.mono BW.out.size)); clear hb15))
            all_goals
              go_ret
              exact ⟨rfl, BW.out⟩

set_option maxRecDepth 100000 in
theorem textsBack_contract (H : Type) (enc : TypeId × Value → H) (W : World) (base : Nat) (args : Array Value) (ds gs : List (DataW H)) (before : List MemPlace)
    (hval0 : ∀ (j : Nat) t v, Tryd.f8.params[j]? = some t → args[j]? = some v → Value.okWide Tryd.prog W .any base t v)
    (hW : DataW.Whole enc Tryd.prog Tryd.f8.params.toList Rows.textsBackSpec.vars false W args.toList ds gs before) (hsmall : Rows.uptoSmall H (ds ++ gs) = true) (hE : Env W) :
    Calls Tryd.prog 8 args W fun e W' => ∃ v, e = .returned v ∧ Rows.textsBackSpec.post enc Tryd.prog Tryd.f8 false true false false W args v W' := by
  have hval : ∀ (j : Nat) t v, Tryd.f8.params[j]? = some t → args[j]? = some v → Value.okWide Tryd.prog W .any base t v := hval0
  have hW' := hW
  obtain ⟨p, q, hA0, hV, rfl, hfz, _⟩ := hW
  have hA : DataW.TrodAll enc Tryd.prog W 0 (fun _ => true) true Tryd.f8.params.toList args.toList ds p := hA0
  rw [Tryd.params8] at hA hval
  obtain ⟨rfl, rfl⟩ := trodVars_none hV
  obtain ⟨v0, v1, d0, d1, p0, p1, rfl, rfl, rfl, h0, h1⟩ := trodAll_two hA
  obtain ⟨x0, hx0⟩ := open_sl Tryd.underlying43 opens_raws (hval 0 43 v0 rfl rfl) h0
  obtain ⟨x1, rfl, rfl, rfl, hx1⟩ := Go.ChangeMaps.open_string Tryd.underlying9 (hval 1 9 v1 rfl rfl) h1
  have hsm := hsmall
  simp only [Rows.uptoSmall, decide_eq_true_eq, List.append_nil, Rows.uptoBulkAll, Rows.uptoBulk] at hsm
  have hz1 : x1.size ≤ 1048576 := by rw [← size_toList]; omega
  refine (textsBack_walk v0 x0 x1 W hx0 hx1 hz1 hE).mono fun e W' ⟨he, hb⟩ => ?_
  subst he
  exact ⟨_, rfl, law_post hW' laidOut (by rw [Tryd.params8]; intro t ht; simp at ht; rcases ht with rfl | rfl <;> exact ⟨by kernel_rfl, of_decide_eq_true (by kernel_rfl)⟩) rfl rfl Tryd.underlying4 rfl rfl rfl hb⟩

theorem textsBack_reads (os : Os) {H : Type} (enc : TypeId × Value → H) : ∃ places, DataW.whole enc Tryd.prog ((laidW7 os).forCall (fun _ _ => 0) ⟨#[], #[.slice none 0 0, .string ⟨#[]⟩], []⟩).memory Tryd.f8.params.toList Rows.textsBackSpec.vars false (#[.slice none 0 0, .string ⟨#[]⟩] : Array Value).toList 8 = some ([.nil, .lit (.string [])], [], places) :=
  ⟨[], by kernel_rfl⟩
set_option maxRecDepth 100000 in
theorem textsBack_lifted (os : Os) (started : os.Started) (H : Type) (enc : TypeId × Value → H) (F : Stop.Interp) :
    ReturnsInHanded {} Tryd.checked os 8 .any ((Rows.OpenSpec.upto Rows.textsBackSpec).preRow enc Tryd.prog Tryd.f8 Rows.textsBackUptoRow.domain false Rows.textsBackUptoRow.laid) (((Rows.OpenSpec.upto Rows.textsBackSpec).at F).post enc Tryd.prog Tryd.f8 false true false false) := by
  obtain ⟨places, hx⟩ := textsBack_reads os enc
  refine returnsInHanded_of_row (C := Tryd.checked) (s := Rows.OpenSpec.upto Rows.textsBackSpec) own started (by kernel_rfl) Tryd.func8
    (witness_row_at (enc := enc) (C := Tryd.checked) false (laidW7 os) #[.slice none 0 0, .string ⟨#[]⟩] rfl (by kernel_rfl) (by kernel_rfl) (by kernel_rfl)
      (OpenSpec.preRow_of_cond 8 hx (by kernel_rfl) (fun k hk => by cases hk; kernel_rfl) (by kernel_rfl) (laid_met7 os _))) ?_
  intro W base args ds gs before hval hW _ hcond _ hL hsh _
  exact textsBack_contract H enc W base args ds gs before hval hW (hcond _ rfl) (env_of hL hsh)
theorem textsBack_said : Rows.TextsBackUptoSaid :=
  OpenClaim.holds_of_cond 8 Tryd.f8 rfl rfl rfl rfl rfl rfl rfl ⟨rfl, rfl, rfl, rfl, rfl⟩ rfl rfl rfl rfl rfl (by kernel_rfl) Tryd.func8 (by kernel_rfl)
    (of_decide_eq_true (by kernel_rfl)) (by unfold Func.isWrapper; first | (rw [if_pos (by decide +kernel)]; kernel_rfl) | (rw [if_neg (by decide +kernel)]; exact ⟨rfl, rfl⟩))
    (fun os started H enc _ F => by rw [OpenClaim.pre_eq_preRow]; exact textsBack_lifted os started H enc F)
theorem textsBack_plain (f : FuncId) (fn : Func) (hf : Tryd.pinned.checked.prog.funcNamed "tollbar/tollbarkeep.TextsBack" = some f) (hfn : Tryd.pinned.checked.prog.funcs[f]? = some fn) :
    true = Tryd.pinned.checked.prog.looks [] ∧ ∀ (j : Nat) t, fn.params[j]? = some t → Tryd.pinned.checked.prog.wantsStandIn t = false := by
  obtain rfl : f = 8 := Option.some.inj ((show Tryd.prog.funcNamed "tollbar/tollbarkeep.TextsBack" = some 8 by kernel_rfl).symm.trans hf) |>.symm
  obtain rfl : fn = Tryd.f8 := (Option.some.inj (Tryd.func8.symm.trans hfn)).symm
  refine ⟨by kernel_rfl, fun j t ht => ?_⟩
  rw [Tryd.params8] at ht
  have hm := Array.mem_of_getElem? ht
  simp at hm
  rcases hm with rfl | rfl
  · exact (show Tryd.prog.wantsStandIn 43 = false by kernel_rfl)
  · exact (show Tryd.prog.wantsStandIn 9 = false by kernel_rfl)
theorem textsBack_holds : Rows.TextsBackUptoCardSaid :=
  Claim7.holds_tied_plain_at .later [] _ _ _ _ textsBack_said (fun _ h => by cases h) (by kernel_rfl) (fun _ h => by cases h) textsBackUpto_row_tie rfl ⟨rfl, rfl⟩ (by kernel_rfl) rfl textsBack_plain (by kernel_rfl)
#print axioms textsBack_holds
end Go.Proofs.YtlmcipnogodnfaaDoor
