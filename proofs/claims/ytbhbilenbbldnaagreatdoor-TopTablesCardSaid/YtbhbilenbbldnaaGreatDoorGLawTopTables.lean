/-
  Proved here: the law TopTables returns true for every list of raw things and every two ints; the listed package-level variables hold what the program's text lays.
-/
import Derived.Test.YtbhbilenbbldnaaGreatDoorGTpW
import Derived.Test.YtbhbilenbbldnaaGreatDoorGTpD
import Derived.Test.YtbhbilenbbldnaaGreatDoorGTpA
import Derived.Test.YtbhbilenbbldnaaGreatDoorGRibH
import Derived.Test.YtbhbilenbbldnaaGreatDoorGTbF
import Derived.Test.YtbhbilenbbldnaaGreatDoorGDoW
set_option linter.unusedVariables false
set_option linter.unusedSimpArgs false
set_option maxHeartbeats 16000000
namespace Go.Proofs.YtbhbilenbbldnaaGreatDoor
open Go Go.RowKit Go.Deep Go.ChangeShapes Go.WideShapes Go.ChangeAt
theorem table_goodT {m : List Entry} (h : OkS m) {s : Nat} (hs : s < 12) : tableS m (s : Int) = (tabTo m s 12, 0) := by
 unfold tableS
 rw [if_neg (by rw [h.check]; simp), if_pos (by simp; omega)]
 rfl
set_option maxRecDepth 50000 in
theorem topTables_walk (v : Value) (xs : List Raw) (fr ad : Int) (w : World) (h : Sl rawR w v xs) (hfr : inR fr) (had : inR ad) (hE : Env w) :
  Calls Tryz.prog 9 #[v, .int .i64 fr, .int .i64 ad] w fun e w' => e = .returned (.bool true) /\ Below w.heap.size w w' := by
 obtain ⟨Av, cv, rfl⟩ := h.form
 have H := zaa h
 have HE := zaa hE
 obtain ⟨a, ha⟩ : ∃ a, a = pickN fr 5 := ⟨_, rfl⟩
 have ha5 : a < 5 := by rw [ha]; exact pickN_lt _ _ (by omega)
 have HPA := zaa (show ∀ w, Calls Tryz.prog 18 #[.int .i64 fr, .int .i64 5] w fun e w' => e = .returned (.int .i64 (a : Nat)) /\ w = w' from fun w => by rw [ha]; exact pickedK_any fr 5 w hfr (by omega) (by omega))
 obtain ⟨q, hq⟩ : ∃ q, q = pickN ad 256 := ⟨_, rfl⟩
 have hq256 : q < 256 := by rw [hq]; exact pickN_lt _ _ (by omega)
 have HPQ := zaa (show ∀ w, Calls Tryz.prog 18 #[.int .i64 ad, .int .i64 256] w fun e w' => e = .returned (.int .i64 (q : Nat)) /\ w = w' from fun w => by rw [hq]; exact pickedK_any ad 256 w had (by omega) (by omega))
 clear ha hq hfr had
 clear h hE
 go_enter Tryz.func9, Tryz.ntmps9
 go_wp2_with fail
 refine (HPA.out _).mono ?_
 rintro e w' ⟨rfl, rfl⟩
 go_wp2_with fail
 refine (HPQ.out _).mono ?_
 rintro e w' ⟨rfl, rfl⟩
 go_wp2_with fail
 refine (drawn_any _ xs w H.out).mono ?_
 rintro e w1 ⟨v1, acts, rfl, hal, hta, ho1, hb1⟩
 have B1 := zaa hb1
 have HAL := zaa hal
 have HTA := zaa hta
 have S1 := zaa (ho1.sl (by decide))
 obtain ⟨A1, c1, rfl⟩ := S1.out.form
 clear hal hta ho1 hb1
 have HWF := zaa (walk_wf (q := (q : Int)) (p := 0) ha5 (by omega) (by omega))
 have HSAY := zaa (topTables_says HTA.out (by have := HAL.out; omega) ha5 (n := (q : Int)) ⟨by omega, by omega⟩)
 go_wp2_with fail
 refine (settle_any w1).mono ?_
 rintro e w3 ⟨v3, rfl, ho3, hb3⟩
 have B3 := zaa (B1.out.trans (hb3.mono B1.out.size))
 have S13 := zaa (S1.out.below hb3)
 have S3 := zaa (ho3.sl (by decide))
 obtain ⟨A3, c3', rfl⟩ := S3.out.form
 clear ho3 hb3
 go_wp2_with fail
 refine (concatW_any _ _ acts a (q : Int) 0 w3 S13.out S3.out (by have := HAL.out; omega) HWF.out _ _ rfl rfl).mono ?_
 rintro e w5 ⟨v5, rfl, ho5, hb5⟩
 obtain ⟨L, hL⟩ : ∃ L, L = acts ++ settleL ++ [walkA a (q : Int) 0] := ⟨_, rfl⟩
 have HLN := zaa (show L.length <= 400 by rw [hL, zag, zag, settle_len]; have := HAL.out; simp; omega)
 rw [<- hL] at ho5
 have HL := zaa hL
 have S5 := zaa (ho5.sl (by decide))
 obtain ⟨A5, c5', rfl⟩ := S5.out.form
 have B5 := zaa (B3.out.trans (hb5.mono B3.out.size))
 clear ho5 hb5 hL
 go_wp2_with fail
 refine (toprun_any _ _ w5 S5.out HLN.out (HE.out.below B5.out)).mono ?_
 rintro e w6 ⟨vr6, vs6, rfl, hr6, hs6, hb6⟩
 obtain ⟨z, rs, r, hrun, hok, hcode, hc06, hcase⟩ := HSAY.out
 rw [<- HL.out] at hrun
 have HZ9 := zaa (show (rs ++ [r]).length <= 400 by have h9 := runS_len0 L; rw [hrun] at h9; have h8 : (rs ++ [r]).length = L.length := h9; rw [h8]; exact HLN.out)
 rw [hrun] at hr6 hs6
 have HR6 := zaa (show Sl rplR w6 vr6 (rs ++ [r]) from hr6)
 have HS6 := zaa (show Sl (slR entR) w6 vs6 ((List.range 12).map fun i => (z.nd i).st) from hs6)
 have HCASE := zaa hcase
 have HCODE := zaa hcode
 have HC06 := zaa hc06
 have HTB := zaa (table_goodT hok (s := a) (by omega))
 have B6 := zaa (B5.out.trans (hb6.mono B5.out.size))
 obtain ⟨nl, hnl⟩ : ∃ n, n = (rs ++ [r]).length := ⟨_, rfl⟩
 obtain ⟨Ar6, cr6, e6⟩ := HR6.out.form
 rw [<- hnl] at e6
 subst e6
 rw [zag] at hnl
 have HNL := zaa (show nl = rs.length + 1 from hnl)
 obtain ⟨As6, cs6, e7⟩ := HS6.out.form
 rw [show ((List.range 12).map fun i => (z.nd i).st).length = 12 by simp] at e7
 subst e7
 clear hrun hcase hnl hr6 hs6 hb6 hok hcode hc06
 have hes : a < ((List.range 12).map fun i => (z.nd i).st).length := by simp; omega
 obtain ⟨bs, os, rfl, hbs⟩ := HS6.out.at_ hes
 obtain ⟨ve, k1, q1⟩ := HS6.out.store hes
 have hse : ((List.range 12).map fun i => (z.nd i).st)[a] = (z.nd a).st := by simp
 rw [hse] at q1
 have HQ1 := zaa q1
 obtain ⟨Ae, ce, rfl⟩ := q1.form
 obtain ⟨ne, hne⟩ : ∃ n, n = (z.nd a).st.length := ⟨_, rfl⟩
 have HNE := zaa hne
 rw [<- hne] at k1 HQ1
 have ha0 : (0 : Int) <= (a : Int) := zae _
 have ha12 : (a : Int) < 12 := by omega
 clear hes hse q1 hne
 go_wp2_with fail
 refine (table_any _ _ (a : Int) w6 HQ1.out (by unfold inR; omega) (HE.out.below B6.out)).mono ?_
 rintro e w7 ⟨v7, rfl, ho7, hb7⟩
 rw [HTB.out] at ho7 ⊢
 have S7 := zaa (show Sl routeR w7 v7 (tabTo (z.nd a).st a 12) from ho7.sl (by decide))
 have B7 := zaa (B6.out.trans (hb7.mono B6.out.size))
 have HR7 := zaa (HR6.out.below hb7)
 obtain ⟨A7, c7, rfl⟩ := S7.out.form
 clear ho7 hb7 HR6
 go_wp2_with fail
 refine (lookup_any _ _ (q : Int) w7 S7.out).mono ?_
 rintro e w8 ⟨v8, rfl, hs8, hb8⟩
 have B8 := zaa (B7.out.trans (hb8.mono B7.out.size))
 have HR8 := zaa (HR7.out.below hb8)
 obtain ⟨lk, hlk⟩ : ∃ x, x = lookS (tabTo (z.nd a).st a 12) (q : Int) := ⟨_, rfl⟩
 rw [<- hlk] at HCASE HCODE hs8 ⊢
 obtain ⟨A8, c8, rfl⟩ := hs8.form
 have S8 := zaa hs8
 obtain ⟨nr, hnr⟩ : ∃ n, n = rs.length := ⟨_, rfl⟩
 have HNR := zaa hnr
 have hnl2 : nl = nr + 1 := by rw [HNL.out, hnr]
 have hl0 : (0 : Int) <= (nr : Int) := zae _
 have hl1 : (nr : Int) < (nl : Int) := by omega
 have hl2 : (nl : Int) - 1 = (nr : Int) := by omega
 have hlx : (nl : Int) <= 401 := by
  have h9 := HZ9.out
  rw [zag] at h9
  have h8 : rs.length + 1 <= 400 := h9
  omega
 have hki : nr < (rs ++ [r]).length := by rw [zag, hnr]; exact zbA _
 obtain ⟨b6, o6, rfl, hb6⟩ := HR8.out.at_ hki
 obtain ⟨vp, vk, f0, f1, f2, f3, s1, s3⟩ := HR8.out.rpl hki
 have hgr : (rs ++ [r])[nr] = r := by simp [hnr]
 rw [hgr] at f0 f2 s1 s3
 obtain ⟨Ap, cp, rfl⟩ := s1.form
 obtain ⟨Ak, ck, rfl⟩ := s3.form
 have SP := zaa s1
 rw [HCODE.out] at f0 HCASE HC06
 have B9 := zaa (((B8.out.alloc B8.out.size (.cells #[.int .i64 lk.1.pre.addr, .int .i64 lk.1.pre.bits, .bool lk.1.here, .int .i64 lk.1.cost, .slice A8 lk.1.hops.length c8] 75))))
 clear hgr hki hnr hnl2 s1 s3 hs8 hb8 hlk HR7
 rcases HC06.out with h6 | h6
 · rcases HCASE.out h6 with ⟨hh, hp1⟩ | ⟨hh, l, x, hs', hp1, hp2⟩
   · rw [h6] at f0 ⊢
     rw [hh] at B9 ⊢
     rw [hp1] at f1
     clear h6 hh hp1 HCASE HC06 HCODE
     go_wp2_with fail
     go_quiet (fail)
     go_wp2_with fail
     go_ret
     exact ⟨rfl, bDrewN (B9.out.alloc B9.out.size _) _⟩
   · rw [h6] at f0 ⊢
     rw [hh] at B9 ⊢
     obtain ⟨np, hnp⟩ : ∃ n, n = r.path.length := ⟨_, rfl⟩
     obtain ⟨nh, hnh⟩ : ∃ n, n = lk.1.hops.length := ⟨_, rfl⟩
     have hk1 : 1 < r.path.length := by rw [hp1]; simp
     have hk2 : 0 < lk.1.hops.length := by rw [hp2]; simp
     have hx1 : r.path[1] = x := by simp [hp1]
     have hx2 : lk.1.hops[0] = x := by simp [hp2]
     obtain ⟨bp, op, rfl, hbp⟩ := SP.out.at_ hk1
     obtain ⟨bh, oh, rfl, hbh⟩ := S8.out.at_ hk2
     have p1 := (SP.out.int hk1).1
     have p2 := (S8.out.int hk2).1
     rw [hx1] at p1
     rw [hx2, zbH] at p2
     rw [<- hnp] at f1
     rw [<- hnh] at B9 ⊢
     have i1 : (1 : Int) < (np : Int) := by omega
     have i2 : (0 : Int) < (nh : Int) := by omega
     clear h6 hh hp1 hp2 HCASE HC06 HCODE hnp hnh hx1 hx2 hk1 hk2
     go_wp2_with fail
     go_quiet (fail)
     go_wp2_with fail
     go_ret
     exact ⟨rfl, bDrewN (B9.out.alloc B9.out.size _) _⟩
 · rw [h6] at f0 ⊢
   clear h6 HCASE HC06 HCODE
   go_wp2_with fail
   go_quiet (fail)
   go_wp2_with fail
   go_ret
   exact ⟨rfl, bDrewN (B9.out.alloc B9.out.size _) _⟩
set_option maxRecDepth 100000 in
theorem topTables_contract (H : Type) (enc : TypeId × Value -> H) (W : World) (base : Nat) (args : Array Value) (ds gs : List (DataW H)) (before : List MemPlace)
  (hval0 : ∀ (j : Nat) t v, Tryz.f9.params[j]? = some t -> args[j]? = some v -> Value.okWide Tryz.prog W .any base t v)
  (hW : DataW.Whole enc Tryz.prog Tryz.f9.params.toList Rows.topTablesSpec.vars false W args.toList ds gs before) (hE : Env W) :
  Calls Tryz.prog 9 args W fun e W' => ∃ v, e = .returned v /\ Rows.topTablesSpec.post enc Tryz.prog Tryz.f9 false true false false W args v W' := by
 have hval : ∀ (j : Nat) t v, Tryz.f9.params[j]? = some t -> args[j]? = some v -> Value.okWide Tryz.prog W .any base t v := hval0
 have hW' := hW
 obtain ⟨p, q, hA0, hV, rfl, hfz, _⟩ := hW
 have hA : DataW.TrodAll enc Tryz.prog W 0 (fun _ => true) true Tryz.f9.params.toList args.toList ds p := hA0
 rw [Tryz.params9] at hA hval
 obtain ⟨rfl, rfl⟩ := trodVars_none hV
 obtain ⟨v0, v1, v2, d0, d1, d2, p0, p1, p2, rfl, rfl, rfl, h0, h1, h2⟩ := trodAll_three hA
 obtain ⟨x0, hx0⟩ := open_sl Tryz.underlying22 opens_raws (hval 0 22 v0 rfl rfl) h0
 obtain ⟨x1, rfl, rfl, rfl, wx1⟩ := open_int Tryz.underlying3 (hval 1 3 v1 rfl rfl) h1
 have hx1 : inR x1 := inR_of wx1
 obtain ⟨x2, rfl, rfl, rfl, wx2⟩ := open_int Tryz.underlying3 (hval 2 3 v2 rfl rfl) h2
 have hx2 : inR x2 := inR_of wx2
 refine (topTables_walk v0 x0 x1 x2 W hx0 hx1 hx2 hE).mono fun e W' ⟨he, hb⟩ => ?_
 subst he
 exact ⟨_, rfl, law_post hW' laidOut (by rw [Tryz.params9]; intro t ht; simp at ht; rcases ht with rfl | rfl <;> exact ⟨by kernel_rfl, of_decide_eq_true (by kernel_rfl)⟩) rfl rfl Tryz.underlying4 rfl rfl rfl hb⟩
theorem topTables_reads (os : Os) {H : Type} (enc : TypeId × Value -> H) : ∃ places, DataW.whole enc Tryz.prog ((laidW7 os).forCall (fun _ _ => 0) ⟨#[], #[.slice none 0 0, .int .i64 0, .int .i64 0], []⟩).memory Tryz.f9.params.toList Rows.topTablesSpec.vars false (#[.slice none 0 0, .int .i64 0, .int .i64 0] : Array Value).toList 8 = some ([.nil, .lit (.int .i64 0), .lit (.int .i64 0)], [], places) :=
 ⟨[], by kernel_rfl⟩
set_option maxRecDepth 100000 in
theorem topTables_lifted (os : Os) (started : os.Started) (H : Type) (enc : TypeId × Value -> H) (F : Stop.Interp) :
  ReturnsInHanded {} Tryz.checked os 9 .any ((OpenSpec.ofChange Rows.topTablesSpec).preRow enc Tryz.prog Tryz.f9 Rows.topTablesRow.domain false Rows.topTablesRow.laid) (((OpenSpec.ofChange Rows.topTablesSpec).at F).post enc Tryz.prog Tryz.f9 false true false false) := by
 obtain ⟨places, hx⟩ := topTables_reads os enc
 refine returnsInHanded_of_row (C := Tryz.checked) (s := OpenSpec.ofChange Rows.topTablesSpec) own started (by kernel_rfl) Tryz.func9
  (witness_row_at (enc := enc) (C := Tryz.checked) false (laidW7 os) #[.slice none 0 0, .int .i64 0, .int .i64 0] rfl (by kernel_rfl) (by kernel_rfl) (by kernel_rfl)
   (OpenSpec.preRow_of_cond 8 hx (by kernel_rfl) (fun k hk => by cases hk) (by kernel_rfl) (laid_met7 os _))) ?_
 intro W base args ds gs before hval hW _ hcond _ hL hsh _
 exact topTables_contract H enc W base args ds gs before hval hW (env_of hL hsh)
theorem topTables_said : Rows.TopTablesSaid :=
 OpenClaim.holds_of_cond 9 Tryz.f9 rfl rfl rfl rfl rfl rfl rfl ⟨rfl, rfl, rfl, rfl, rfl⟩ rfl rfl rfl rfl rfl (by kernel_rfl) Tryz.func9 (by kernel_rfl)
  (of_decide_eq_true (by kernel_rfl)) (by unfold Func.isWrapper; first | (rw [if_pos (by decide +kernel)]; kernel_rfl) | (rw [if_neg (by decide +kernel)]; exact ⟨rfl, rfl⟩))
  (fun os started H enc _ F => by rw [OpenClaim.pre_eq_preRow]; exact topTables_lifted os started H enc F)
theorem topTables_plain (f : FuncId) (fn : Func) (hf : Tryz.pinned.checked.prog.funcNamed "tollbar/tollbartop.TopTables" = some f) (hfn : Tryz.pinned.checked.prog.funcs[f]? = some fn) :
  true = Tryz.pinned.checked.prog.looks [] /\ ∀ (j : Nat) t, fn.params[j]? = some t -> Tryz.pinned.checked.prog.wantsStandIn t = false := by
 obtain rfl : f = 9 := zbi ((show Tryz.prog.funcNamed "tollbar/tollbartop.TopTables" = some 9 by kernel_rfl).symm.trans hf) |>.symm
 obtain rfl : fn = Tryz.f9 := (zbi (Tryz.func9.symm.trans hfn)).symm
 refine ⟨by kernel_rfl, fun j t ht => ?_⟩
 rw [Tryz.params9] at ht
 have hm := zbV ht
 simp at hm
 rcases hm with rfl | rfl
 · exact (show Tryz.prog.wantsStandIn 22 = false by kernel_rfl)
 · exact (show Tryz.prog.wantsStandIn 3 = false by kernel_rfl)
theorem topTables_holds : Rows.TopTablesCardSaid :=
 Claim7.holds_tied_plain_at .later [] _ _ _ _ topTables_said (fun _ h => by cases h) (by kernel_rfl) (fun _ h => by cases h) topTables_row_tie rfl ⟨rfl, rfl⟩ (by kernel_rfl) rfl topTables_plain (by kernel_rfl)
#print axioms topTables_holds
end Go.Proofs.YtbhbilenbbldnaaGreatDoor
