/-
  Proved here: the law TopQuiet returns true for every list of raw things; the listed package-level variables hold what the program's text lays.
-/
import Derived.Test.YtbhbilenbbldnaaGreatDoorGTpA
import Derived.Test.YtbhbilenbbldnaaGreatDoorGTpD
import Derived.Test.YtbhbilenbbldnaaGreatDoorGDoW
set_option linter.unusedVariables false
set_option linter.unusedSimpArgs false
set_option maxHeartbeats 16000000
namespace Go.Proofs.YtbhbilenbbldnaaGreatDoor
open Go Go.RowKit Go.Deep Go.ChangeShapes Go.WideShapes Go.ChangeAt
set_option maxRecDepth 50000 in
theorem topQuiet_walk (v : Value) (xs : List Raw) (w : World) (h : Sl rawR w v xs) (hE : Env w) :
  Calls Tryz.prog 10 #[v] w fun e w' => e = .returned (.bool true) /\ Below w.heap.size w w' := by
 obtain ⟨Av, cv, rfl⟩ := h.form
 have H := zaa h
 have HE := zaa hE
 clear h hE
 go_enter Tryz.func10, Tryz.ntmps10
 go_wp2_with fail
 refine (drawn_any _ xs w H.out).mono ?_
 rintro e w1 ⟨v1, acts, rfl, hal, hta, ho1, hb1⟩
 have B1 := zaa hb1
 have HAL := zaa hal
 have HTA := zaa hta
 have HO1 := zaa ho1
 obtain ⟨A1, n1, c1, rfl⟩ : ∃ A n c, v1 = .slice A n c := by obtain ⟨A, c, e⟩ := (ho1.sl (by decide)).form; exact ⟨A, _, c, e⟩
 clear hal hta ho1 hb1
 go_wp2_with fail
 refine (settle_any w1).mono ?_
 rintro e w2 ⟨v2, rfl, ho2, hb2⟩
 have B2 := zaa (B1.out.trans (hb2.mono B1.out.size))
 have S2 := zaa (ho2.sl (by decide))
 have HO12 := zaa (HO1.out.keep hb2)
 obtain ⟨A2, c2, rfl⟩ := S2.out.form
 clear ho2 hb2 HO1
 go_wp2_with (at_builtin; refine wpList_gen (base := w.heap.size) elt_actA rfl _ _ rfl HO12.out S2.out (fun _ _ h => h) rfl rfl (by rw [settle_len]; have := HAL.out; omega) (by decide) ?_; intro v3 w3 ho3 hg3)
 have B3 := zaa (HO12.out.below_grown B2.out hg3.grown)
 have S3 := zaa (ho3.sl (by decide))
 obtain ⟨acts2, hac⟩ : ∃ l, l = acts ++ settleL := ⟨_, rfl⟩
 have HAC := zaa hac
 have HAL2 := zaa (show acts2.length <= 135 by rw [hac, zag, settle_len]; have := HAL.out; omega)
 rw [<- hac] at S3
 obtain ⟨A3, c3, rfl⟩ := S3.out.form
 clear ho3 hg3 hac HO12 S2
 go_wp2_with fail
 refine (cloneAct_any _ acts2 w3 S3.out (by have := HAL2.out; omega)).mono ?_
 rintro e w4 ⟨v4, rfl, ho4, hb4⟩
 have B34 := zaa hb4
 have HO4 := zaa ho4
 obtain ⟨A4, n4, c4, rfl⟩ : ∃ A n c, v4 = .slice A n c := by obtain ⟨A, c, e⟩ := (ho4.sl (by decide)).form; exact ⟨A, _, c, e⟩
 clear ho4 hb4
 go_wp2_with fail
 refine (settle_any w4).mono ?_
 rintro e w5 ⟨v5, rfl, ho5, hb5⟩
 have B35 := zaa (B34.out.trans (hb5.mono B34.out.size))
 have S5 := zaa (ho5.sl (by decide))
 have HO45 := zaa (HO4.out.keep hb5)
 obtain ⟨A5, c5, rfl⟩ := S5.out.form
 clear ho5 hb5 HO4
 go_wp2_with (at_builtin; refine wpList_gen (base := w3.heap.size) elt_actA rfl _ _ rfl HO45.out S5.out (fun _ _ h => h) rfl rfl (by rw [settle_len]; have := HAL2.out; omega) (by decide) ?_; intro v6 w6 ho6 hg6)
 have B36 := zaa (HO45.out.below_grown B35.out hg6.grown)
 have B6 := zaa (B3.out.trans (B36.out.mono B3.out.size))
 have S6 := zaa (ho6.sl (by decide))
 have S36 := zaa (S3.out.below B36.out)
 obtain ⟨acts3, hac⟩ : ∃ l, l = acts2 ++ settleL := ⟨_, rfl⟩
 have HAC3 := zaa hac
 have HAL3 := zaa (show acts3.length = acts2.length + 90 by rw [hac, zag, settle_len])
 rw [<- hac] at S6
 obtain ⟨A6, c6, rfl⟩ := S6.out.form
 clear ho6 hg6 hac HO45 S5
 go_wp2_with fail
 refine (toprun_any _ acts3 w6 S6.out (by have := HAL3.out; have := HAL2.out; omega) (HE.out.below B6.out)).mono ?_
 rintro e w7 ⟨vr7, vs7, rfl, hr7, hs7, hb7⟩
 have B7 := zaa (B6.out.trans (hb7.mono B6.out.size))
 have S7 := zaa (S36.out.below hb7)
 have HR7 := zaa hr7
 have HS7 := zaa hs7
 obtain ⟨Ar7, cr7, rfl⟩ := hr7.form
 obtain ⟨As7, cs7, rfl⟩ := hs7.form
 clear hr7 hs7 hb7
 go_wp2_with fail
 refine (toprun_any _ acts2 w7 S7.out (by have := HAL2.out; omega) (HE.out.below B7.out)).mono ?_
 rintro e w8 ⟨vr8, vs8, rfl, hr8, hs8, hb8⟩
 have B8 := zaa (B7.out.trans (hb8.mono B7.out.size))
 have HR8 := zaa (HR7.out.below hb8)
 have HS78 := zaa (HS7.out.below hb8)
 have HS8 := zaa hs8
 obtain ⟨Ar8, cr8, rfl⟩ := hr8.form
 obtain ⟨As8, cs8, rfl⟩ := hs8.form
 clear hr8 hs8 hb8
 obtain ⟨p1, p2⟩ := topQuiet_says HTA.out (by have := HAL.out; omega)
 rw [<- HAC.out, <- HAC3.out] at p1 p2
 rw [p1] at HS78
 rw [stores_len] at *
 have hlr := runS_len0 acts3
 obtain ⟨rs, hrs⟩ : ∃ l, l = (runS net0 acts3).2 := ⟨_, rfl⟩
 rw [<- hrs] at HR8 hlr p2 ⊢
 obtain ⟨na, hna⟩ : ∃ n, n = acts2.length := ⟨_, rfl⟩
 have hnr : rs.length = na + 90 := by rw [hlr, HAL3.out, hna]
 have HNR := zaa hnr
 have HNA := zaa hna
 rw [<- hna] at p2 ⊢
 have HP2 := zaa p2
 have hnb : (na : Int) <= 135 := by have := HAL2.out; omega
 have hn0 : (0 : Int) <= (na : Int) := zae _
 obtain ⟨b8, o8, rfl, _⟩ := HR8.out.at_ (k := 0) (by omega)
 have hcap : rs.length <= cr7 /\ cr7 <= maxLen := by
  obtain ⟨_, _, hv, h1, h2, _⟩ := HR8.out
  injection hv with _ _ e3
  rw [e3]; exact ⟨h1, h2⟩
 have HBK := zaa (SlR.back HR8.out (k := na) (by omega))
 rw [hnr] at hcap ⊢
 have hc1 : (na : Int) + 90 <= (cr7 : Int) := by have := hcap.1; omega
 have hc2 : (cr7 : Int) <= 9223372036854775807 := by have := hcap.2; unfold maxLen at this; omega
 have hne : ¬ cr7 = na := by have := hcap.1; omega
 clear hcap hnr hna hrs hlr p1 p2
 go_wp2_with fail
 go_loopw [42] (fun i wr => ∃ k : Nat, k <= 90 /\ i = .int .i64 k /\ Below w8.heap.size w8 wr) (fun i _ => 90 - (intOf i).toNat)
 case atStart => exact ⟨0, zam _, rfl, zad _ _⟩
 case round =>
  obtain ⟨k, hk, rfl, hB⟩ := hrel
  have HB := zaa hB
  by_cases hlt : k < 90
  · have hki : (k : Int) < 90 := by omega
    have hk0 : (0 : Int) <= (k : Int) := zae k
    have hkl : k < (rs.drop na).length := by rw [zaH, HNR.out]; omega
    obtain ⟨vp, vk, f0, f1, f2, f3, s1, s3⟩ := Sl.rpl (Sl.below HBK.out hB) hkl
    have hkeys : (rs.drop na)[k].keys = [] := HP2.out _ (zap hkl)
    rw [hkeys] at s3
    obtain ⟨r, hr⟩ : ∃ r, r = (rs.drop na)[k] := ⟨_, rfl⟩
    rw [<- hr] at f0 f2 s1
    obtain ⟨Ap, cp, rfl⟩ := s1.form
    obtain ⟨Ak, ck, rfl⟩ := s3.form
    rw [show ([] : List ByteArray).length = 0 from rfl] at f3
    rw [show rplR.size = 4 from rfl] at f0 f1 f2 f3
    have HAL9 := zaa (HB.out.alloc HB.out.size (.cells #[.int .i64 r.code, .slice Ap r.path.length cp, .int .i64 r.cost, .slice Ak 0 ck] 44))
    clear hB s1 s3 hr hkeys hkl
    go_wp2_with fail
    go_roundw
    case rel => exact ⟨k + 1, by omega, by go_num, HAL9.out⟩
    case measure => simp [intOf]; omega
  · have hki : ¬ (k : Int) < 90 := by omega
    have HQ := zaa (eqSt_any _ _ _ wr (HS78.out.below hB) (HS8.out.below hB))
    clear hB
    go_wp2_with fail
    refine HQ.out.mono ?_
    rintro e w9 ⟨rfl, hb9⟩
    have B9 := zaa (B8.out.trans ((HB.out.trans (hb9.mono HB.out.size)).mono B8.out.size))
    clear hb9
    go_wp2_with fail
    go_ret
    exact ⟨rfl, B9.out⟩
set_option maxRecDepth 100000 in
theorem topQuiet_contract (H : Type) (enc : TypeId × Value -> H) (W : World) (base : Nat) (args : Array Value) (ds gs : List (DataW H)) (before : List MemPlace)
  (hval0 : ∀ (j : Nat) t v, Tryz.f10.params[j]? = some t -> args[j]? = some v -> Value.okWide Tryz.prog W .any base t v)
  (hW : DataW.Whole enc Tryz.prog Tryz.f10.params.toList Rows.topQuietSpec.vars false W args.toList ds gs before) (hE : Env W) :
  Calls Tryz.prog 10 args W fun e W' => ∃ v, e = .returned v /\ Rows.topQuietSpec.post enc Tryz.prog Tryz.f10 false true false false W args v W' := by
 have hval : ∀ (j : Nat) t v, Tryz.f10.params[j]? = some t -> args[j]? = some v -> Value.okWide Tryz.prog W .any base t v := hval0
 have hW' := hW
 obtain ⟨p, q, hA0, hV, rfl, hfz, _⟩ := hW
 have hA : DataW.TrodAll enc Tryz.prog W 0 (fun _ => true) true Tryz.f10.params.toList args.toList ds p := hA0
 rw [Tryz.params10] at hA hval
 obtain ⟨rfl, rfl⟩ := trodVars_none hV
 obtain ⟨v0, d0, rfl, rfl, h0⟩ := trodAll_one hA
 obtain ⟨x0, hx0⟩ := open_sl Tryz.underlying22 opens_raws (hval 0 22 v0 rfl rfl) h0
 refine (topQuiet_walk v0 x0 W hx0 hE).mono fun e W' ⟨he, hb⟩ => ?_
 subst he
 exact ⟨_, rfl, law_post hW' laidOut (by rw [Tryz.params10]; intro t ht; simp at ht; subst ht; exact ⟨by kernel_rfl, of_decide_eq_true (by kernel_rfl)⟩) rfl rfl Tryz.underlying4 rfl rfl rfl hb⟩
theorem topQuiet_reads (os : Os) {H : Type} (enc : TypeId × Value -> H) : ∃ places, DataW.whole enc Tryz.prog ((laidW7 os).forCall (fun _ _ => 0) ⟨#[], #[.slice none 0 0], []⟩).memory Tryz.f10.params.toList Rows.topQuietSpec.vars false (#[.slice none 0 0] : Array Value).toList 8 = some ([.nil], [], places) :=
 ⟨[], by kernel_rfl⟩
set_option maxRecDepth 100000 in
theorem topQuiet_lifted (os : Os) (started : os.Started) (H : Type) (enc : TypeId × Value -> H) (F : Stop.Interp) :
  ReturnsInHanded {} Tryz.checked os 10 .any ((OpenSpec.ofChange Rows.topQuietSpec).preRow enc Tryz.prog Tryz.f10 Rows.topQuietRow.domain false Rows.topQuietRow.laid) (((OpenSpec.ofChange Rows.topQuietSpec).at F).post enc Tryz.prog Tryz.f10 false true false false) := by
 obtain ⟨places, hx⟩ := topQuiet_reads os enc
 refine returnsInHanded_of_row (C := Tryz.checked) (s := OpenSpec.ofChange Rows.topQuietSpec) own started (by kernel_rfl) Tryz.func10
  (witness_row_at (enc := enc) (C := Tryz.checked) false (laidW7 os) #[.slice none 0 0] rfl (by kernel_rfl) (by kernel_rfl) (by kernel_rfl)
   (OpenSpec.preRow_of_cond 8 hx (by kernel_rfl) (fun k hk => by cases hk) (by kernel_rfl) (laid_met7 os _))) ?_
 intro W base args ds gs before hval hW _ hcond _ hL hsh _
 exact topQuiet_contract H enc W base args ds gs before hval hW (env_of hL hsh)
theorem topQuiet_said : Rows.TopQuietSaid :=
 OpenClaim.holds_of_cond 10 Tryz.f10 rfl rfl rfl rfl rfl rfl rfl ⟨rfl, rfl, rfl, rfl, rfl⟩ rfl rfl rfl rfl rfl (by kernel_rfl) Tryz.func10 (by kernel_rfl)
  (of_decide_eq_true (by kernel_rfl)) (by unfold Func.isWrapper; first | (rw [if_pos (by decide +kernel)]; kernel_rfl) | (rw [if_neg (by decide +kernel)]; exact ⟨rfl, rfl⟩))
  (fun os started H enc _ F => by rw [OpenClaim.pre_eq_preRow]; exact topQuiet_lifted os started H enc F)
theorem topQuiet_plain (f : FuncId) (fn : Func) (hf : Tryz.pinned.checked.prog.funcNamed "tollbar/tollbartop.TopQuiet" = some f) (hfn : Tryz.pinned.checked.prog.funcs[f]? = some fn) :
  true = Tryz.pinned.checked.prog.looks [] /\ ∀ (j : Nat) t, fn.params[j]? = some t -> Tryz.pinned.checked.prog.wantsStandIn t = false := by
 obtain rfl : f = 10 := zbi ((show Tryz.prog.funcNamed "tollbar/tollbartop.TopQuiet" = some 10 by kernel_rfl).symm.trans hf) |>.symm
 obtain rfl : fn = Tryz.f10 := (zbi (Tryz.func10.symm.trans hfn)).symm
 refine ⟨by kernel_rfl, fun j t ht => ?_⟩
 rw [Tryz.params10] at ht
 have hm := zbV ht
 simp at hm
 subst hm
 exact (show Tryz.prog.wantsStandIn 22 = false by kernel_rfl)
theorem topQuiet_holds : Rows.TopQuietCardSaid :=
 Claim7.holds_tied_plain_at .later [] _ _ _ _ topQuiet_said (fun _ h => by cases h) (by kernel_rfl) (fun _ h => by cases h) topQuiet_row_tie rfl ⟨rfl, rfl⟩ (by kernel_rfl) rfl topQuiet_plain (by kernel_rfl)
#print axioms topQuiet_holds
end Go.Proofs.YtbhbilenbbldnaaGreatDoor
