/-
  Proved here: the law TopDrained returns true for every list of raw things and every four ints; the listed package-level variables hold what the program's text lays.
-/
import Derived.Test.YtbhbilenbbldnaaGreatDoorGTpW
import Derived.Test.YtbhbilenbbldnaaGreatDoorGTpA
import Derived.Test.YtbhbilenbbldnaaGreatDoorGTpD
import Derived.Test.YtbhbilenbbldnaaGreatDoorGDoW
set_option linter.unusedVariables false
set_option linter.unusedSimpArgs false
set_option maxHeartbeats 16000000
namespace Go.Proofs.YtbhbilenbbldnaaGreatDoor
open Go Go.RowKit Go.Deep Go.ChangeShapes Go.WideShapes Go.ChangeAt
theorem trodAll_five {H : Type} {enc : TypeId × Value -> H} {P : Program} {w : World} {base : Nat} {spare : Nat -> Bool} {held : Bool} {t t' t'' t3 t4 : TypeId} {args : Array Value} {ds : List (DataW H)} {ps : List MemPlace} (h : DataW.TrodAll enc P w base spare held [t, t', t'', t3, t4] args.toList ds ps) :
  ∃ v v' v'' v3 v4 d d' d'' d3 d4 p p' p'' p3 p4, args = #[v, v', v'', v3, v4] /\ ds = [d, d', d'', d3, d4] /\ ps = p ++ p' ++ p'' ++ p3 ++ p4 /\ DataW.Trod enc P w base spare held t v d p /\ DataW.Trod enc P w base spare held t' v' d' p' /\ DataW.Trod enc P w base spare held t'' v'' d'' p'' /\ DataW.Trod enc P w base spare held t3 v3 d3 p3 /\ DataW.Trod enc P w base spare held t4 v4 d4 p4 := by
 obtain ⟨v, vs, d, ds', p, q, hargs, rfl, rfl, hd, hrest⟩ := trodAll_cons h
 obtain ⟨v', vs', d', ds'', p', q', rfl, rfl, rfl, hd', hrest'⟩ := trodAll_cons hrest
 obtain ⟨v'', vs'', d'', ds''', p'', q'', rfl, rfl, rfl, hd'', hrest''⟩ := trodAll_cons hrest'
 obtain ⟨v3, vs3, d3, ds3, p3, q3, rfl, rfl, rfl, hd3, hrest3⟩ := trodAll_cons hrest''
 obtain ⟨v4, vs4, d4, ds4, p4, q4, rfl, rfl, rfl, hd4, hrest4⟩ := trodAll_cons hrest3
 obtain ⟨rfl, rfl, rfl⟩ := trodAll_nil hrest4
 exact ⟨v, v', v'', v3, v4, d, d', d'', d3, d4, p, p', p'', p3, p4, by cases args; simp_all, rfl, by simp, hd, hd', hd'', hd3, hd4⟩
set_option maxRecDepth 50000 in
theorem topDrained_walk (v : Value) (xs : List Raw) (wh fr ad pi : Int) (w : World) (h : Sl rawR w v xs) (hwh : inR wh) (hfr : inR fr) (had : inR ad) (hpi : inR pi) (hE : Env w) :
  Calls Tryz.prog 8 #[v, .int .i64 wh, .int .i64 fr, .int .i64 ad, .int .i64 pi] w fun e w' => e = .returned (.bool true) /\ Below w.heap.size w w' := by
 obtain ⟨Av, cv, rfl⟩ := h.form
 have H := zaa h
 have HE := zaa hE
 obtain ⟨a, ha⟩ : ∃ a, a = pickN fr 5 := ⟨_, rfl⟩
 have ha5 : a < 5 := by rw [ha]; exact pickN_lt _ _ (by omega)
 have HPA := zaa (show ∀ w, Calls Tryz.prog 18 #[.int .i64 fr, .int .i64 5] w fun e w' => e = .returned (.int .i64 (a : Nat)) /\ w = w' from fun w => by rw [ha]; exact pickedK_any fr 5 w hfr (by omega) (by omega))
 obtain ⟨q, hq⟩ : ∃ q, q = pickN ad 256 := ⟨_, rfl⟩
 have hq256 : q < 256 := by rw [hq]; exact pickN_lt _ _ (by omega)
 have HPQ := zaa (show ∀ w, Calls Tryz.prog 18 #[.int .i64 ad, .int .i64 256] w fun e w' => e = .returned (.int .i64 (q : Nat)) /\ w = w' from fun w => by rw [hq]; exact pickedK_any ad 256 w had (by omega) (by omega))
 clear ha hq hfr had
 obtain ⟨p, hp⟩ : ∃ p, p = pickN pi 9 := ⟨_, rfl⟩
 have hp9 : p < 9 := by rw [hp]; exact pickN_lt _ _ (by omega)
 have HPP := zaa (show ∀ w, Calls Tryz.prog 18 #[.int .i64 pi, .int .i64 9] w fun e w' => e = .returned (.int .i64 (p : Nat)) /\ w = w' from fun w => by rw [hp]; exact pickedK_any pi 9 w hpi (by omega) (by omega))
 clear hp hpi
 obtain ⟨d, hd⟩ : ∃ d, d = pickN wh 5 := ⟨_, rfl⟩
 have hd5 : d < 5 := by rw [hd]; exact pickN_lt _ _ (by omega)
 have HPD := zaa (show ∀ w, Calls Tryz.prog 18 #[.int .i64 wh, .int .i64 5] w fun e w' => e = .returned (.int .i64 (d : Nat)) /\ w = w' from fun w => by rw [hd]; exact pickedK_any wh 5 w hwh (by omega) (by omega))
 clear hd hwh
 clear h hE
 go_enter Tryz.func8, Tryz.ntmps8
 go_wp2_with fail
 refine (HPD.out _).mono ?_
 rintro e w' ⟨rfl, rfl⟩
 go_wp2_with fail
 refine (drawn_any _ xs w H.out).mono ?_
 rintro e w0 ⟨v0, acts0, rfl, hal0, hta0, ho0, hb0⟩
 have B0 := zaa hb0
 have HAL0 := zaa hal0
 have HTA0 := zaa hta0
 have HO0 := zaa ho0
 have HDW := zaa (show (drainA d).wf from lit_wf (by omega) (by omega) (by omega) (by omega) (by omega))
 obtain ⟨A0, n0, c00, rfl⟩ : ∃ A n c, v0 = .slice A n c := by obtain ⟨A, c, e⟩ := (ho0.sl (by decide)).form; exact ⟨A, _, c, e⟩
 clear hal0 hta0 ho0 hb0
 go_wp2_with (at_builtin; refine wpList_oneR (r := actR) (base := w.heap.size) (y := drainA d) (S := fun _ => False) elt_actA rfl (.tmp 25) (.tmp 28) rfl HO0.out ⟨rfl, HDW.out⟩ (fun _ h => h.elim) rfl rfl (by first | rfl | simp) (by have := HAL0.out; omega) (by decide) ?_; intro v1 w1 ho1 hg1)
 have B1 := zaa ((ow_alloc HO0.out _).below_grown (B0.out.alloc B0.out.size _) hg1.grown)
 obtain ⟨acts, hac⟩ : ∃ l, l = acts0 ++ [drainA d] := ⟨_, rfl⟩
 have HAC := zaa hac
 have HAL := zaa (show acts.length <= 46 by rw [hac, zag]; have := HAL0.out; simp; omega)
 rw [<- hac] at ho1
 have S1 := zaa (ho1.sl (by decide))
 obtain ⟨A1, c1, rfl⟩ := S1.out.form
 clear hac ho1 hg1 HO0
 have HSAY := zaa (topDrained_says HTA0.out (by have := HAL0.out; omega) hd5 ha5 (n := (q : Int)) ⟨by omega, by omega⟩ p)
 rw [<- HAC.out] at HSAY
 refine (HPQ.out _).mono ?_
 rintro e w' ⟨rfl, rfl⟩
 go_wp2_with fail
 obtain ⟨BQ, hBQ⟩ : ∃ b, b = w1.heap.size := ⟨_, rfl⟩
 obtain ⟨W, hW⟩ : ∃ x, x = w1.alloc (.cells #[.int .i64 (q : Int)] 3) := ⟨_, rfl⟩
 have c0 : W.cell? ⟨BQ, 0, none⟩ = some (.int .i64 (q : Int)) := by rw [hW, hBQ, zaf _ _ _ _ rfl]; rfl
 have HLT := zaa (show BQ < W.heap.size by rw [hW, hBQ]; simp)
 have hW1 : Below w1.heap.size w1 W := by rw [hW]; exact (zad _ _).alloc (zab _) _
 have BW := zaa (B1.out.trans (hW1.mono B1.out.size))
 have SW := zaa (S1.out.below hW1)
 rw [<- hW, <- hBQ]
 clear hW hBQ hW1
 have HWF := zaa (walk_wf (q := (q : Int)) (p := (p : Int)) ha5 (by omega) (by omega))
 have HSET := zaa (fun w' (hb : Below W.heap.size W w') => ((settle_any w').mono (fun e w'' ⟨v', e1, e2, e3⟩ => ⟨v', e1, e2.sl (by decide), hb.trans (e3.mono hb.size)⟩) : Calls Tryz.prog 25 #[.int .i64 5] w' fun e w'' => ∃ v', e = .returned v' /\ Sl actR w'' v' settleL /\ Below W.heap.size W w''))
 go_region_held3 (fun w' => w'.cell? ⟨BQ, 0, none⟩ = some (.int .i64 (q : Int))) (first | go_keep | exact c0 | exact c3 | exact c5 | exact c6)
  (first
   | (go_at_call 25; refine (HSET.out _ (by first | exact (zad _ W).drew | exact zad _ W)).mono ?_; rintro e w3 ⟨v3, rfl, hs3, hb3⟩; obtain ⟨A3, c3', rfl⟩ := hs3.form; have B3 := zaa hb3; have S3 := zaa hs3; have c3 := (bAt hb3 HLT.out 0).trans c0; clear hs3 hb3)
   | (go_at_call 18; with_reducible refine (HPA.out _).mono ?_; rintro e w' ⟨rfl, rfl⟩)
   | (go_at_call 18; with_reducible refine (HPP.out _).mono ?_; rintro e w' ⟨rfl, rfl⟩)
   | (go_at_call 28; refine (concatW_any _ _ acts a (q : Int) (p : Int) w3 (SW.out.below B3.out) S3.out (by have := HAL.out; omega) HWF.out _ _ rfl rfl).mono ?_; rintro e w5 ⟨v5, rfl, ho5, hb5⟩; obtain ⟨L, hL⟩ : ∃ L, L = acts ++ settleL ++ [walkA a (q : Int) (p : Int)] := ⟨_, rfl⟩; have HLN := zaa (show L.length <= 400 by rw [hL, zag, zag, settle_len]; have := HAL.out; simp; omega); rw [<- hL] at ho5; have HL := zaa hL; have S5 := zaa (ho5.sl (by decide)); obtain ⟨A5, c5', rfl⟩ := S5.out.form; have B5 := zaa (B3.out.trans (hb5.mono B3.out.size)); have c5 := (bAt hb5 (zai HLT.out B3.out.size) 0).trans c3; clear ho5 hb5 hL)
   | (go_at_call 19; refine (toprun_any _ _ w5 S5.out HLN.out (HE.out.below (BW.out.trans (B5.out.mono BW.out.size)))).mono ?_; rintro e w6 ⟨vr6, vs6, rfl, hr6, hs6, hb6⟩; obtain ⟨z, rs, r, hrun, hcase⟩ := HSAY.out; rw [<- HL.out] at hrun; have HZ9 := zaa (show (rs ++ [r]).length <= 400 by have h9 := runS_len0 L; rw [hrun] at h9; have h8 : (rs ++ [r]).length = L.length := h9; rw [h8]; exact HLN.out); rw [hrun] at hr6 hs6; have HR6 := zaa (show Sl rplR w6 vr6 (rs ++ [r]) from hr6); have HS6 := zaa (show Sl (slR entR) w6 vs6 ((List.range 12).map fun i => (z.nd i).st) from hs6); have HCASE := zaa hcase; obtain ⟨nl, hnl⟩ : ∃ n, n = (rs ++ [r]).length := ⟨_, rfl⟩; obtain ⟨Ar6, cr6, e6⟩ := HR6.out.form; rw [<- hnl] at e6; subst e6; rw [zag] at hnl; have HNL := zaa (show nl = rs.length + 1 from hnl); obtain ⟨As6, cs6, e7⟩ := HS6.out.form; rw [show ((List.range 12).map fun i => (z.nd i).st).length = 12 by simp] at e7; subst e7; clear hrun hcase hnl; have B6 := zaa (B5.out.trans (hb6.mono B5.out.size)); have c6 := (bAt hb6 (zai HLT.out B5.out.size) 0).trans c5; clear hr6 hs6 hb6))
 all_goals
  obtain ⟨nr, hnr⟩ : ∃ n, n = rs.length := ⟨_, rfl⟩
  have HNR := zaa hnr
  have hnl2 : nl = nr + 1 := by rw [HNL.out, hnr]
  have hl0 : (0 : Int) <= (nr : Int) := zae _
  have hl1 : (nr : Int) < (nl : Int) := by omega
  have hl2 : (nl : Int) - 1 = (nr : Int) := by omega
  have hlx : (nl : Int) <= 401 := by
   have h9 := HZ9.out
   rw [zag] at h9
   have h8 : rs.length + 1 <= 400 := h9
   omega
  have hki : nr < (rs ++ [r]).length := by rw [zag, hnr]; exact zbA _
  obtain ⟨b6, o6, rfl, hb6⟩ := HR6.out.at_ hki
  have hgr : (rs ++ [r])[nr] = r := by simp [hnr]
  clear hnr hnl2
  obtain ⟨hpa, g, hget, hread, hgz, hchk⟩ := HCASE.out
  have HPA2 := zaa hpa
  have HGET := zaa hget
  have HRD := zaa hread
  have HGZ := zaa hgz
  have HCK := zaa hchk
  have he0 : (0 : Int) <= (d : Int) := zae _
  have he1 : (d : Int) < 12 := by omega
  have hes : d < ((List.range 12).map fun i => (z.nd i).st).length := by simp; omega
  obtain ⟨bs, os, rfl, hbs7⟩ := HS6.out.at_ hes
  obtain ⟨ve, k7, q1⟩ := HS6.out.store hes
  have hse : ((List.range 12).map fun i => (z.nd i).st)[d] = (z.nd d).st := by simp
  rw [hse] at q1
  obtain ⟨Ae, ce, rfl⟩ := q1.form
  obtain ⟨ne, hne⟩ : ∃ n, n = (z.nd d).st.length := ⟨_, rfl⟩
  rw [<- hne] at k7 q1
  have Q7 := zaa q1
  have B7 := zaa (BW.out.trans (B6.out.mono BW.out.size))
  have c7 := c6
  have hlt7 : BQ < w6.heap.size := zai HLT.out B6.out.size
  clear hpa hget hread hgz hchk hes hse q1 hne
  go_wp2_with fail
  have HKB := zaa (show bs < w6.heap.size from hbs7)
  have HIT := zaa (fun w' (hb : Below w6.heap.size w6 w') => ((itoa_any (d : Int) w' (by unfold inR; omega) (HE.out.below (B7.out.trans (hb.mono B7.out.size))).tab).mono (fun e' w'' ⟨he, hb'⟩ => ⟨(by rw [he, itoa_nat]), hb.trans (hb'.mono hb.size), hb'⟩) : Calls Tryz.prog 30 #[.int .i64 (d : Int)] w' fun e' w'' => e' = .returned (.string (bOf (Lib.decDigits d))) /\ Below w6.heap.size w6 w'' /\ Below w'.heap.size w' w''))
  have HGT := zaa (fun w' (hb : Below w6.heap.size w6 w') => ((get_any _ _ (keyP d) w' (Q7.out.below hb)).mono (fun e' w'' ⟨he, hb'⟩ => ⟨(by rw [he, HGET.out]; rfl), hb.trans (hb'.mono hb.size), hb'⟩) : Calls Tryz.prog 29 #[.slice Ae ne ce, .string (keyP d)] w' fun e' w'' => e' = .returned (.tuple #[.agg #[.string g.key, .int .i64 g.version, .int .i64 g.origin, .string g.value], .int .i64 0]) /\ Below w6.heap.size w6 w'' /\ Below w'.heap.size w' w''))
  have n7 : ¬ bs = w6.heap.size := by omega
  have hr2 := fun w => key_runP d (dec_le9 (show d < 12 by omega)) w
  go_region_held3 (fun w' => w'.cell? ⟨bs, os + d, none⟩ = some (.slice Ae ne ce)) (first | go_keep | exact k7 | exact k8 | exact k9 | exact keep4 n8 k9 | exact keep4 n7 k9 | exact keep4 n9 k9)
   (first
    | (go_at_call 30; refine (HIT.out _ (by first | exact (zad _ w6).drew | exact zad _ w6 | exact (zad _ w6).drew.alloc (zab _) _ | exact (zad _ w6).alloc (zab _) _ | exact ((zad _ w6).alloc (zab _) _).drew)).mono ?_; rintro e' w8 ⟨rfl, hb8, hc8⟩; have B8 := zaa hb8; have k8 := (bAt hb8 HKB.out (os + d)).trans k7; have n8 : ¬ bs = w8.heap.size := (by have := hb8.size; omega); (try (have pz := pastAlloc hc8; obtain ⟨-, z8, y8, l8⟩ := pz)); (try (have pz := pastAlloc ((zad _ _).drew.trans hc8); obtain ⟨-, z8, y8, l8⟩ := pz)); clear hb8)
    | (go_at_call 29; refine (HGT.out _ (by first | exact B8.out | exact B8.out.alloc B8.out.size _)).mono ?_; rintro e' w9 ⟨rfl, hb9, hc9⟩; have B9 := zaa hb9; have k9 := (bAt hb9 HKB.out (os + d)).trans k7; have n9 : ¬ bs = w9.heap.size := (by have := hb9.size; omega); (first | (have z9 := fun i => (bAt hc9 l8 i).trans (z8 i); have y9 := fun i => (bFz hc9 l8 i).trans (y8 i)) | (have pz := pastAlloc hc9; obtain ⟨-, z9, y9, -⟩ := pz) | skip); clear hb9))
  all_goals
   first
    | (
      obtain ⟨X, hX⟩ : ∃ x, x = w9.alloc (.cells #[.string g.key, .int .i64 g.version, .int .i64 g.origin, .string g.value] 40) := ⟨_, rfl⟩
      obtain ⟨AB, hAB⟩ : ∃ x, x = w9.heap.size := ⟨_, rfl⟩
      have v10 : X.cell? ⟨AB, 3, none⟩ = some (.string g.value) := by rw [hX, hAB, zaf _ _ _ _ rfl]; rfl
      have hbX : Below w6.heap.size w6 X := by rw [hX]; exact B9.out.alloc B9.out.size _
      have habx : AB < X.heap.size := by rw [hX, hAB]; simp
      rw [<- hX, <- hAB]
      clear hX hAB
      )
    | (
      obtain ⟨X, hX⟩ : ∃ x, x = ((((w9.setCell ⟨w8.heap.size, 0, none⟩ (.string g.key)).setCell ⟨w8.heap.size, 1, none⟩ (.int .i64 g.version)).setCell ⟨w8.heap.size, 2, none⟩ (.int .i64 g.origin)).setCell ⟨w8.heap.size, 3, none⟩ (.string g.value)) := ⟨_, rfl⟩
      obtain ⟨AB, hAB⟩ : ∃ x, x = w8.heap.size := ⟨_, rfl⟩
      have hsome : (w9.cell? ⟨w8.heap.size, 3, none⟩).isSome = true := by rw [z9 3]; rfl
      obtain ⟨hbX, v10, hzz⟩ := put4 (u0 := .string g.key) (u1 := .int .i64 g.version) (u2 := .int .i64 g.origin) (u3 := .string g.value) B9.out B8.out.size hsome
      have habx : w8.heap.size < w9.heap.size := zaL w9 _ (Option.isSome_iff_exists.1 hsome).choose_spec
      rw [<- hX] at hbX v10 hzz
      rw [<- hzz] at habx
      rw [<- hAB] at v10 habx
      rw [<- hX, <- hAB]
      clear hX hAB hsome hzz z9 y9
      )
    | (
      obtain ⟨X, hX⟩ : ∃ x, x = ((((w9.setCell ⟨w6.heap.size, 0, none⟩ (.string g.key)).setCell ⟨w6.heap.size, 1, none⟩ (.int .i64 g.version)).setCell ⟨w6.heap.size, 2, none⟩ (.int .i64 g.origin)).setCell ⟨w6.heap.size, 3, none⟩ (.string g.value)) := ⟨_, rfl⟩
      obtain ⟨AB, hAB⟩ : ∃ x, x = w6.heap.size := ⟨_, rfl⟩
      have hsome : (w9.cell? ⟨w6.heap.size, 3, none⟩).isSome = true := by rw [z9 3]; rfl
      obtain ⟨hbX, v10, hzz⟩ := put4 (u0 := .string g.key) (u1 := .int .i64 g.version) (u2 := .int .i64 g.origin) (u3 := .string g.value) B9.out (zab _) hsome
      have habx : w6.heap.size < w9.heap.size := zaL w9 _ (Option.isSome_iff_exists.1 hsome).choose_spec
      rw [<- hX] at hbX v10 hzz
      rw [<- hzz] at habx
      rw [<- hAB] at v10 habx
      rw [<- hX, <- hAB]
      clear hX hAB hsome hzz z9 y9
      )
   have c10 := (bAt hbX hlt7 0).trans c7
   have hltX : BQ < X.heap.size := zai hlt7 hbX.size
   have B10 := zaa (B7.out.trans (hbX.mono B7.out.size))
   have BWX := zaa hbX
   clear hbX
   go_wp2_with fail
   refine (readPrefs_any g.value X (by have := HGZ.out; omega) (HE.out.below B10.out)).mono ?_
   rintro e' w11 ⟨v11, rfl, hs11, hb11⟩
   rw [HRD.out] at hs11 ⊢
   have S11 := zaa (show Sl prefR w11 v11 (z.nd d).pf from hs11)
   have B611 := zaa (BWX.out.trans (hb11.mono BWX.out.size))
   have B11 := zaa (B10.out.trans (hb11.mono B10.out.size))
   have c11 := (bAt hb11 hltX 0).trans c10
   have hlt11 : BQ < w11.heap.size := zai hltX hb11.size
   obtain ⟨A11, c11', rfl⟩ := S11.out.form
   clear hs11 hb11
   have S6B := HR6.out.below B611.out
   obtain ⟨vp, vk, f0, f1, f2, f3, s1, s3⟩ := S6B.rpl hki
   rw [hgr] at f0 f2 s1 s3
   obtain ⟨Ap, cp, rfl⟩ := s1.form
   have SP := zaa s1
   have hpl := s1.len_le
   have hb611 : b6 < w11.heap.size := zai hb6 B611.out.size
   clear s1 s3 S6B f0 f2 f3
   rcases HPA2.out with hp0 | ⟨l, hp1, hmem⟩
   · rw [hp0] at f1
     rw [show ([] : List Int).length = 0 from rfl] at f1
     clear hp0
     go_wp2_with fail
     go_ret
     exact ⟨rfl, B11.out⟩
   · obtain ⟨np, hnp⟩ : ∃ n, n = r.path.length := ⟨_, rfl⟩
     have hnl : np = l.length + 1 := by rw [hnp, hp1]; rfl
     have hcap : r.path.length <= cp /\ cp <= maxLen := by
      obtain ⟨_, _, hv, h1, h2, _⟩ := SP.out
      injection hv with _ _ e3
      rw [e3]; exact ⟨h1, h2⟩
     rw [<- hnp] at f1 hcap hpl
     by_cases h3 : np < 3
     · have hn3 : (np : Int) < 3 := by omega
       clear hp1 hmem hnp hnl
       go_wp2_with fail
       go_ret
       exact ⟨rfl, B11.out⟩
     · have hn3 : ¬ (np : Int) < 3 := by omega
       obtain ⟨nm, hnm⟩ : ∃ m, np = m + 1 := ⟨np - 1, by omega⟩
       have h1p : 0 < r.path.length := by omega
       obtain ⟨bp, op, rfl, hbp⟩ := SP.out.at_ h1p
       have hsl := SlR.front (SlR.back SP.out (k := 1) (by omega)) (k := nm - 1) (by rw [zaH]; omega)
       have hml : ((r.path.drop 1).take (nm - 1)).length = nm - 1 := by rw [zan, zaH]; omega
       rw [show op + 1 * intR.size = op + 1 from rfl] at hsl
       have HCI := zaa (containsI_any _ _ (d : Int) w11 hsl)
       have hsub : ∀ x, x ∈ (r.path.drop 1).take (nm - 1) -> x ∈ l := fun x hx => by
        have := zbc hx
        rw [hp1] at this
        exact this
       have i1 : (np : Int) - 1 = (nm : Int) := by omega
       have i2 : (1 : Int) <= (nm : Int) := by omega
       have i3 : (nm : Int) <= (cp : Int) := by have := hcap.1; omega
       have i4 : (cp : Int) <= 9223372036854775807 := by have := hcap.2; unfold maxLen at this; omega
       have i5 : (np : Int) <= 9223372036854775807 := by omega
       have i6 : ¬ cp = 1 := by have := hcap.1; omega
       have HSB := zaa (fun h => hmem (hsub (d : Int) h))
       clear hp1 hmem hnp hnl hsl hml hsub hpl hcap h3 h1p hnm
       obtain ⟨mid, hmid⟩ : ∃ m, m = (r.path.drop 1).take (nm - 1) := ⟨_, rfl⟩
       rw [<- hmid] at HCI HSB
       clear hmid
       rcases hcc : mid.contains (d : Int) with _ | _
       · rw [hcc] at HCI
         clear hcc
         go_wp2_with fail
         refine HCI.out.mono ?_
         rintro e' w12 ⟨rfl, hb12⟩
         have B12 := zaa (B11.out.trans (hb12.mono B11.out.size))
         clear hb12
         go_wp2_with fail
         go_ret
         exact ⟨rfl, B12.out⟩
       · have HEX := zaa (HSB.out (by rw [<- zbU]; exact hcc))
         rw [hcc] at HCI
         clear hcc
         go_wp2_with fail
         refine HCI.out.mono ?_
         rintro e' w12 ⟨rfl, hb12⟩
         have B12 := zaa (B11.out.trans (hb12.mono B11.out.size))
         have c12 := (bAt hb12 hlt11 0).trans c11
         have hlt12 : BQ < w12.heap.size := zai hlt11 hb12.size
         have S12 := zaa (S11.out.below hb12)
         clear hb12
         go_wp2_with fail
         refine (contD BQ (q : Int) _ _ w12 S12.out ⟨by omega, by omega⟩ (chk_bits HCK.out) c12 hlt12 HEX.out).mono ?_
         rintro e' w13 ⟨rfl, hb13⟩
         have B13 := zaa (B12.out.trans (hb13.mono B12.out.size))
         clear hb13
         go_wp2_with fail
         go_ret
         exact ⟨rfl, B13.out⟩
set_option maxRecDepth 100000 in
theorem topDrained_contract (H : Type) (enc : TypeId × Value -> H) (W : World) (base : Nat) (args : Array Value) (ds gs : List (DataW H)) (before : List MemPlace)
  (hval0 : ∀ (j : Nat) t v, Tryz.f8.params[j]? = some t -> args[j]? = some v -> Value.okWide Tryz.prog W .any base t v)
  (hW : DataW.Whole enc Tryz.prog Tryz.f8.params.toList Rows.topDrainedSpec.vars false W args.toList ds gs before) (hE : Env W) :
  Calls Tryz.prog 8 args W fun e W' => ∃ v, e = .returned v /\ Rows.topDrainedSpec.post enc Tryz.prog Tryz.f8 false true false false W args v W' := by
 have hval : ∀ (j : Nat) t v, Tryz.f8.params[j]? = some t -> args[j]? = some v -> Value.okWide Tryz.prog W .any base t v := hval0
 have hW' := hW
 obtain ⟨p, q, hA0, hV, rfl, hfz, _⟩ := hW
 have hA : DataW.TrodAll enc Tryz.prog W 0 (fun _ => true) true Tryz.f8.params.toList args.toList ds p := hA0
 rw [Tryz.params8] at hA hval
 obtain ⟨rfl, rfl⟩ := trodVars_none hV
 obtain ⟨v0, v1, v2, v3, v4, d0, d1, d2, d3, d4, p0, p1, p2, p3, p4, rfl, rfl, rfl, h0, h1, h2, h3, h4⟩ := trodAll_five hA
 obtain ⟨x0, hx0⟩ := open_sl Tryz.underlying22 opens_raws (hval 0 22 v0 rfl rfl) h0
 obtain ⟨x1, rfl, rfl, rfl, wx1⟩ := open_int Tryz.underlying3 (hval 1 3 v1 rfl rfl) h1
 have hx1 : inR x1 := inR_of wx1
 obtain ⟨x2, rfl, rfl, rfl, wx2⟩ := open_int Tryz.underlying3 (hval 2 3 v2 rfl rfl) h2
 have hx2 : inR x2 := inR_of wx2
 obtain ⟨x3, rfl, rfl, rfl, wx3⟩ := open_int Tryz.underlying3 (hval 3 3 v3 rfl rfl) h3
 have hx3 : inR x3 := inR_of wx3
 obtain ⟨x4, rfl, rfl, rfl, wx4⟩ := open_int Tryz.underlying3 (hval 4 3 v4 rfl rfl) h4
 have hx4 : inR x4 := inR_of wx4
 refine (topDrained_walk v0 x0 x1 x2 x3 x4 W hx0 hx1 hx2 hx3 hx4 hE).mono fun e W' ⟨he, hb⟩ => ?_
 subst he
 exact ⟨_, rfl, law_post hW' laidOut (by rw [Tryz.params8]; intro t ht; simp at ht; rcases ht with rfl | rfl <;> exact ⟨by kernel_rfl, of_decide_eq_true (by kernel_rfl)⟩) rfl rfl Tryz.underlying4 rfl rfl rfl hb⟩
theorem topDrained_reads (os : Os) {H : Type} (enc : TypeId × Value -> H) : ∃ places, DataW.whole enc Tryz.prog ((laidW7 os).forCall (fun _ _ => 0) ⟨#[], #[.slice none 0 0, .int .i64 0, .int .i64 0, .int .i64 0, .int .i64 0], []⟩).memory Tryz.f8.params.toList Rows.topDrainedSpec.vars false (#[.slice none 0 0, .int .i64 0, .int .i64 0, .int .i64 0, .int .i64 0] : Array Value).toList 8 = some ([.nil, .lit (.int .i64 0), .lit (.int .i64 0), .lit (.int .i64 0), .lit (.int .i64 0)], [], places) :=
 ⟨[], by kernel_rfl⟩
set_option maxRecDepth 100000 in
theorem topDrained_lifted (os : Os) (started : os.Started) (H : Type) (enc : TypeId × Value -> H) (F : Stop.Interp) :
  ReturnsInHanded {} Tryz.checked os 8 .any ((OpenSpec.ofChange Rows.topDrainedSpec).preRow enc Tryz.prog Tryz.f8 Rows.topDrainedRow.domain false Rows.topDrainedRow.laid) (((OpenSpec.ofChange Rows.topDrainedSpec).at F).post enc Tryz.prog Tryz.f8 false true false false) := by
 obtain ⟨places, hx⟩ := topDrained_reads os enc
 refine returnsInHanded_of_row (C := Tryz.checked) (s := OpenSpec.ofChange Rows.topDrainedSpec) own started (by kernel_rfl) Tryz.func8
  (witness_row_at (enc := enc) (C := Tryz.checked) false (laidW7 os) #[.slice none 0 0, .int .i64 0, .int .i64 0, .int .i64 0, .int .i64 0] rfl (by kernel_rfl) (by kernel_rfl) (by kernel_rfl)
   (OpenSpec.preRow_of_cond 8 hx (by kernel_rfl) (fun k hk => by cases hk) (by kernel_rfl) (laid_met7 os _))) ?_
 intro W base args ds gs before hval hW _ hcond _ hL hsh _
 exact topDrained_contract H enc W base args ds gs before hval hW (env_of hL hsh)
theorem topDrained_said : Rows.TopDrainedSaid :=
 OpenClaim.holds_of_cond 8 Tryz.f8 rfl rfl rfl rfl rfl rfl rfl ⟨rfl, rfl, rfl, rfl, rfl⟩ rfl rfl rfl rfl rfl (by kernel_rfl) Tryz.func8 (by kernel_rfl)
  (of_decide_eq_true (by kernel_rfl)) (by unfold Func.isWrapper; first | (rw [if_pos (by decide +kernel)]; kernel_rfl) | (rw [if_neg (by decide +kernel)]; exact ⟨rfl, rfl⟩))
  (fun os started H enc _ F => by rw [OpenClaim.pre_eq_preRow]; exact topDrained_lifted os started H enc F)
theorem topDrained_plain (f : FuncId) (fn : Func) (hf : Tryz.pinned.checked.prog.funcNamed "tollbar/tollbartop.TopDrained" = some f) (hfn : Tryz.pinned.checked.prog.funcs[f]? = some fn) :
  true = Tryz.pinned.checked.prog.looks [] /\ ∀ (j : Nat) t, fn.params[j]? = some t -> Tryz.pinned.checked.prog.wantsStandIn t = false := by
 obtain rfl : f = 8 := zbi ((show Tryz.prog.funcNamed "tollbar/tollbartop.TopDrained" = some 8 by kernel_rfl).symm.trans hf) |>.symm
 obtain rfl : fn = Tryz.f8 := (zbi (Tryz.func8.symm.trans hfn)).symm
 refine ⟨by kernel_rfl, fun j t ht => ?_⟩
 rw [Tryz.params8] at ht
 have hm := zbV ht
 simp at hm
 rcases hm with rfl | rfl
 · exact (show Tryz.prog.wantsStandIn 22 = false by kernel_rfl)
 · exact (show Tryz.prog.wantsStandIn 3 = false by kernel_rfl)
theorem topDrained_holds : Rows.TopDrainedCardSaid :=
 Claim7.holds_tied_plain_at .later [] _ _ _ _ topDrained_said (fun _ h => by cases h) (by kernel_rfl) (fun _ h => by cases h) topDrained_row_tie rfl ⟨rfl, rfl⟩ (by kernel_rfl) rfl topDrained_plain (by kernel_rfl)
#print axioms topDrained_holds
end Go.Proofs.YtbhbilenbbldnaaGreatDoor
