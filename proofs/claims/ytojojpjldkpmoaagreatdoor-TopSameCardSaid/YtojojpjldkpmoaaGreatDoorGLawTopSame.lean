/-
  Proved here: the law TopSame returns true for every list of raw things; the listed package-level variables hold what the program's text lays.
-/
import Derived.Test.YtojojpjldkpmoaaGreatDoorGTpC
import Derived.Test.YtojojpjldkpmoaaGreatDoorGTpK
import Derived.Test.YtojojpjldkpmoaaGreatDoorGKeO
import Derived.Test.YtojojpjldkpmoaaGreatDoorGDoW
import Derived.Lib.QuietBelow
set_option linter.unusedVariables false
set_option linter.unusedSimpArgs false
set_option maxHeartbeats 16000000
namespace Go.Proofs.YtojojpjldkpmoaaGreatDoor
open Go Go.RowKit Go.Deep Go.ChangeShapes Go.WideShapes Go.ChangeAt
set_option maxRecDepth 50000 in
theorem topSame_walk (v : Value) (xs : List Raw) (w : World) (h : Sl rawR w v xs) (hE : Env w) :
  Calls Tryz.prog 3 #[v] w fun e w' => e = .returned (.bool true) /\ Below w.heap.size w w' := by
 obtain ⟨Av, cv, rfl⟩ := h.form
 have H := zaa h
 have HE := zaa hE
 clear h hE
 go_enter Tryz.func3, Tryz.ntmps3
 go_wp2_with fail
 refine (drawn_any _ xs w H.out).mono ?_
 rintro e w1 ⟨v1, acts, rfl, hal, hta, ho1, hb1⟩
 have B1 := zaa hb1
 have HAL := zaa hal
 have HTA := zaa hta
 have S1 := zaa (ho1.sl (by decide))
 obtain ⟨A1, c1, rfl⟩ := S1.out.form
 clear hal hta ho1 hb1
 go_wp2_with fail
 refine (cloneAct_any _ acts w1 S1.out (by have := HAL.out; omega)).mono ?_
 rintro e w4 ⟨v4, rfl, ho4, hb4⟩
 have B14 := zaa hb4
 have HO4 := zaa ho4
 obtain ⟨A4, n4, c4, rfl⟩ : ∃ A n c, v4 = .slice A n c := by obtain ⟨A, c, e⟩ := (ho4.sl (by decide)).form; exact ⟨A, _, c, e⟩
 clear ho4 hb4
 go_wp2_with fail
 refine (settle_any w4).mono ?_
 rintro e w5 ⟨v5, rfl, ho5, hb5⟩
 have B15 := zaa (B14.out.trans (hb5.mono B14.out.size))
 have S5 := zaa (ho5.sl (by decide))
 have HO45 := zaa (HO4.out.keep hb5)
 obtain ⟨A5, c5, rfl⟩ := S5.out.form
 clear ho5 hb5 HO4
 go_wp2_with (at_builtin; refine wpList_gen (base := w1.heap.size) elt_actA rfl _ _ rfl HO45.out S5.out (fun _ _ h => h) rfl rfl (by rw [settle_len]; have := HAL.out; omega) (by decide) ?_; intro v6 w6 ho6 hg6)
 have B16 := zaa (HO45.out.below_grown B15.out hg6.grown)
 have B6 := zaa (B1.out.trans (B16.out.mono B1.out.size))
 have S6 := zaa (ho6.sl (by decide))
 have S16 := zaa (S1.out.below B16.out)
 obtain ⟨L, hac⟩ : ∃ l, l = acts ++ settleL := ⟨_, rfl⟩
 have HL := zaa hac
 have HAL3 := zaa (show L.length = acts.length + 90 by rw [hac, zah, settle_len])
 rw [<- hac] at S6
 obtain ⟨A6, c6, rfl⟩ := S6.out.form
 clear ho6 hg6 hac HO45 S5
 go_wp2_with fail
 refine (toprun_any _ L w6 S6.out (by have := HAL3.out; have := HAL.out; omega) (HE.out.below B6.out)).mono ?_
 rintro e w7 ⟨vr7, vs7, rfl, hr7, hs7, hb7⟩
 have B7 := zaa (B6.out.trans (hb7.mono B6.out.size))
 have S7 := zaa (S16.out.below hb7)
 have hat := run_at acts settleL
 have hlr := runS_len0 L
 obtain ⟨z, t, hz, hstl, hln⟩ := topSame_says HTA.out (by have := HAL.out; omega)
 rw [<- HL.out] at hz hln hat
 rw [hz] at hs7
 rw [lines_take] at hln
 obtain ⟨rs, hrs⟩ : ∃ l, l = (runS net0 L).2 := ⟨_, rfl⟩
 simp only [<- hrs] at hr7 hln hlr hat
 have HR7 := zaa hr7
 have HS7 := zaa hs7
 have HSTL := zaa hstl
 obtain ⟨Ar7, cr7, rfl⟩ := hr7.form
 obtain ⟨As7, cs7, e7⟩ := hs7.form
 rw [show ((List.range 12).map fun i => (z.nd i).st).length = 12 by simp] at e7
 subst e7
 have HLI := zaa (lines_any _ _ acts rs w7 S7.out HR7.out (by rw [hlr, HAL3.out]; omega) (by have := HAL.out; omega) (fun k h h2 hc hk => by
  rw [hat k h h2] at hc
  exact line_done (HTA.out _ (zas h)) hk hc))
 rw [hln] at HLI
 obtain ⟨C, hC⟩ : ∃ C, C = z.co := ⟨_, rfl⟩
 have HC := zaa hC
 rw [<- hC] at HLI
 clear hr7 hs7 hb7 hat hlr hz hstl hln hrs hC
 go_wp2_with fail
 refine HLI.out.mono ?_
 rintro e w8 ⟨rfl, hb8⟩
 have B8 := zaa (B7.out.trans (hb8.mono B7.out.size))
 have HS8 := zaa (HS7.out.below hb8)
 clear hb8 HLI
 have hz0 := zero5_row (w := w8) 37 w8.heap.size rfl
 have h25 : (row5 C).toArray.size = 25 := by rw [zaW, row5_len]
 have HTR := zaa (show (w8.alloc (.cells z25 37)).there w8.heap.size 0 (row5 C).toArray.size by rw [h25]; exact hz0.there)
 have HIF := zaa (show (Tryz.prog.info? 37).map (·.size) = some (row5 C).length by rw [row5_len]; exact size5)
 have HIA := zaa (show (Tryz.prog.info? 37).map (·.size) = some (row5 C).toArray.size by rw [zaW, row5_len]; exact size5)
 have HON := zaa (row5_one C)
 have hal8 := (zad w8.heap.size w8).alloc (zab _) (.cells z25 37)
 have hbl := belowCells (zab w8.heap.size) (row5 C) 0 _ hal8
 have hth : (w8.alloc (.cells z25 37)).there w8.heap.size 0 (row5 C).length := by rw [row5_len]; exact hz0.there
 have hrow : Row5 ((w8.alloc (.cells z25 37)).setCells w8.heap.size 0 (row5 C)) w8.heap.size C := by
  have hr := World.rangeAt_setCells_same (w8.alloc (.cells z25 37)) w8.heap.size 0 (row5 C) hth
  refine ⟨fun a b ha hb => ?_, fun o => by rw [World.frozen?_setCells]; exact hz0.fz o, by rw [size_setCellsN]; exact hz0.lt⟩
  have := hr (a * 5 + b) _ (row5_get C ha hb)
  rw [zaM] at this
  exact this
 have HROW := zaa hrow
 have HBL := zaa hbl
 clear hz0 hal8 hbl hrow hth
 go_wp2_with (refine wpList_store_mid rfl 37 (.tmp 7) (.tmp 26) rfl w8.heap.size 0 (row5 C).toArray rfl rfl HTR.out HIA.out (all_oneCell_toArray HON.out) ?_)
 obtain ⟨W9, hW9⟩ : ∃ x, x = (w8.alloc (.cells z25 37)).setCells w8.heap.size 0 (row5 C) := ⟨_, rfl⟩
 obtain ⟨O, hO⟩ : ∃ x, x = w8.heap.size := ⟨_, rfl⟩
 rw [<- hW9] at HROW HBL
 unfold z25 at hW9
 rw [<- hW9]
 rw [<- hO] at HROW ⊢
 have B9 := zaa (B8.out.trans (HBL.out.mono B8.out.size))
 have HS9 := zaa (HS8.out.below HBL.out)
 clear hW9 hO HTR HIA HON
 go_loopw [27] (fun i wr => ∃ a : Nat, a <= 5 /\ i = .int .i64 a /\ Below W9.heap.size W9 wr) (fun i _ => 5 - (intOf i).toNat)
 case atStart => exact ⟨0, zak _, rfl, zad _ _⟩
 case round =>
  obtain ⟨a, ha, rfl, hb⟩ := hrel
  have HB := zaa hb
  clear hb
  by_cases hla : a < 5
  · have hai : (a : Int) < 5 := by omega
    have ha0 : (0 : Int) <= (a : Int) := zaf _
    have HRW := zaa (HROW.out.below HB.out)
    have HRNG := zaa HRW.out.range
    have HCO := zaa (connected_any C a (fun b => (z.nd a).st = (z.nd b).st) wr hla rfl (fun x y hx hy hp hc => by
     have hz := HSTL.out.same x y hx (.step (.refl _) (by rw [<- HC.out]; omega))
     exact hp.trans hz))
    obtain ⟨WR1, rfl⟩ : ∃ m, m = wr := ⟨wr, rfl⟩
    go_wp2_with (refine wpList_load_mid rfl 37 (.tmp 7) rfl O 0 rfl (row5 C) _ HRNG.out Tryz.underlying37 rfl HIF.out ?_)
    refine HCO.out.mono ?_
    rintro e wc ⟨BC, rfl, hcn, hbc⟩
    have HCN := zaa hcn
    have HBC := zaa (HB.out.trans (hbc.mono HB.out.size))
    have HSC := zaa (HS9.out.below HBC.out)
    clear hcn hbc HCO
    go_wp2_with fail
    go_loopw [34] (fun i wr => ∃ b : Nat, b <= 5 /\ i = .int .i64 b /\ Below wc.heap.size wc wr) (fun i _ => 5 - (intOf i).toNat)
    case atStart => exact ⟨0, zak _, rfl, zad _ _⟩
    case round =>
     obtain ⟨b, hb, rfl, hbw⟩ := hrel
     have HBW := zaa hbw
     by_cases hlb : b < 5
     · have hbi : (b : Int) < 5 := by omega
       have hb0 : (0 : Int) <= (b : Int) := zaf _
       obtain ⟨tb, e1, e2⟩ := (HCN.out.below hbw).cell b hlb
       have hBl := (HCN.out.below hbw).lt
       rcases tb with _ | _
       · clear e2 hbw
         go_wp2_with fail
         go_quiet (fail)
         go_wp2_with fail
         go_roundw
         case rel => exact ⟨b + 1, by omega, by go_num, bDrewN HBW.out _⟩
         case measure => simp [intOf]; omega
       · have hst := e2 rfl
         have hsa : a < ((List.range 12).map fun i => (z.nd i).st).length := by simp; omega
         have hsb : b < ((List.range 12).map fun i => (z.nd i).st).length := by simp; omega
         have hsl := HSC.out.below hbw
         obtain ⟨bs, os, rfl, hbs⟩ := hsl.at_ hsa
         obtain ⟨u6, g6, q6⟩ := hsl.store hsa
         obtain ⟨u7, g7, q7⟩ := hsl.store hsb
         have s6 : ((List.range 12).map fun i => (z.nd i).st)[a] = (z.nd a).st := by simp
         have s7 : ((List.range 12).map fun i => (z.nd i).st)[b] = (z.nd b).st := by simp
         rw [s6] at q6
         rw [s7, <- hst] at q7
         have l6 := cell_regrown g6
         have l7 := cell_regrown g7
         have i6 : (a : Int) < 12 := by omega
         have i7 : (b : Int) < 12 := by omega
         have cS : ∀ d os, Calls Tryz.prog 11 #[u6, u7] (Sort.grow (redrawn wr d) os) fun e w'' => e = .returned (.bool true) /\ ∃ p : Regrown, w'' = Sort.grow (redrawn wr p.d) p.os := fun d os => Calls.regrown_of (equalE_eq u6 u7 _ _ (q6.below (below_regrown wr d os)) (q7.below (below_regrown wr d os)))
         clear hbw hst e2 s6 s7 hsa hsb hsl g6 g7 q6 q7
         go_wp2_with fail
         refine wp_region_quiet_below (by kernel_rfl) (by kernel_rfl) ?_
         repeat (quiet_step (fail))
         quiet_step (exact cS _ _)
         repeat (quiet_step (fail))
         refine wpQuiet_nil ?_
         intro _ hw'
         obtain ⟨⟨dq, osq⟩, hw''⟩ := hw'
         subst hw''
         clear cS l6 l7
         go_wp2_with fail
         go_roundw
         case rel => exact ⟨b + 1, by omega, by go_num, HBW.out.trans ((below_regrown wr dq osq).mono HBW.out.size)⟩
         case measure => simp [intOf]; omega
     · have hbi : ¬ (b : Int) < 5 := by omega
       clear hbw
       go_wp2_with fail
       go_roundw
       case rel => exact ⟨a + 1, by omega, by go_num, HBC.out.trans (HBW.out.mono HBC.out.size)⟩
       case measure => simp [intOf]; omega
  · have hai : ¬ (a : Int) < 5 := by omega
    go_wp2_with fail
    go_ret
    exact ⟨rfl, B9.out.trans (HB.out.mono B9.out.size)⟩
set_option maxRecDepth 100000 in
theorem topSame_contract (H : Type) (enc : TypeId × Value -> H) (W : World) (base : Nat) (args : Array Value) (ds gs : List (DataW H)) (before : List MemPlace)
  (hval0 : ∀ (j : Nat) t v, Tryz.f3.params[j]? = some t -> args[j]? = some v -> Value.okWide Tryz.prog W .any base t v)
  (hW : DataW.Whole enc Tryz.prog Tryz.f3.params.toList Rows.topSameSpec.vars false W args.toList ds gs before) (hE : Env W) :
  Calls Tryz.prog 3 args W fun e W' => ∃ v, e = .returned v /\ Rows.topSameSpec.post enc Tryz.prog Tryz.f3 false true false false W args v W' := by
 have hval : ∀ (j : Nat) t v, Tryz.f3.params[j]? = some t -> args[j]? = some v -> Value.okWide Tryz.prog W .any base t v := hval0
 have hW' := hW
 obtain ⟨p, q, hA0, hV, rfl, hfz, _⟩ := hW
 have hA : DataW.TrodAll enc Tryz.prog W 0 (fun _ => true) true Tryz.f3.params.toList args.toList ds p := hA0
 rw [Tryz.params3] at hA hval
 obtain ⟨rfl, rfl⟩ := trodVars_none hV
 obtain ⟨v0, d0, rfl, rfl, h0⟩ := trodAll_one hA
 obtain ⟨x0, hx0⟩ := open_sl Tryz.underlying22 opens_raws (hval 0 22 v0 rfl rfl) h0
 refine (topSame_walk v0 x0 W hx0 hE).mono fun e W' ⟨he, hb⟩ => ?_
 subst he
 exact ⟨_, rfl, law_post hW' laidOut (by rw [Tryz.params3]; intro t ht; simp at ht; subst ht; exact ⟨by kernel_rfl, of_decide_eq_true (by kernel_rfl)⟩) rfl rfl Tryz.underlying4 rfl rfl rfl hb⟩
theorem topSame_reads (os : Os) {H : Type} (enc : TypeId × Value -> H) : ∃ places, DataW.whole enc Tryz.prog ((laidW7 os).forCall (fun _ _ => 0) ⟨#[], #[.slice none 0 0], []⟩).memory Tryz.f3.params.toList Rows.topSameSpec.vars false (#[.slice none 0 0] : Array Value).toList 8 = some ([.nil], [], places) :=
 ⟨[], by kernel_rfl⟩
set_option maxRecDepth 100000 in
theorem topSame_lifted (os : Os) (started : os.Started) (H : Type) (enc : TypeId × Value -> H) (F : Stop.Interp) :
  ReturnsInHanded {} Tryz.checked os 3 .any ((OpenSpec.ofChange Rows.topSameSpec).preRow enc Tryz.prog Tryz.f3 Rows.topSameRow.domain false Rows.topSameRow.laid) (((OpenSpec.ofChange Rows.topSameSpec).at F).post enc Tryz.prog Tryz.f3 false true false false) := by
 obtain ⟨places, hx⟩ := topSame_reads os enc
 refine returnsInHanded_of_row (C := Tryz.checked) (s := OpenSpec.ofChange Rows.topSameSpec) own started (by kernel_rfl) Tryz.func3
  (witness_row_at (enc := enc) (C := Tryz.checked) false (laidW7 os) #[.slice none 0 0] rfl (by kernel_rfl) (by kernel_rfl) (by kernel_rfl)
   (OpenSpec.preRow_of_cond 8 hx (by kernel_rfl) (fun k hk => by cases hk) (by kernel_rfl) (laid_met7 os _))) ?_
 intro W base args ds gs before hval hW _ hcond _ hL hsh _
 exact topSame_contract H enc W base args ds gs before hval hW (env_of hL hsh)
theorem topSame_said : Rows.TopSameSaid :=
 OpenClaim.holds_of_cond 3 Tryz.f3 rfl rfl rfl rfl rfl rfl rfl ⟨rfl, rfl, rfl, rfl, rfl⟩ rfl rfl rfl rfl rfl (by kernel_rfl) Tryz.func3 (by kernel_rfl)
  (of_decide_eq_true (by kernel_rfl)) (by unfold Func.isWrapper; first | (rw [if_pos (by decide +kernel)]; kernel_rfl) | (rw [if_neg (by decide +kernel)]; exact ⟨rfl, rfl⟩))
  (fun os started H enc _ F => by rw [OpenClaim.pre_eq_preRow]; exact topSame_lifted os started H enc F)
theorem topSame_plain (f : FuncId) (fn : Func) (hf : Tryz.pinned.checked.prog.funcNamed "tollbar/tollbartop.TopSame" = some f) (hfn : Tryz.pinned.checked.prog.funcs[f]? = some fn) :
  true = Tryz.pinned.checked.prog.looks [] /\ ∀ (j : Nat) t, fn.params[j]? = some t -> Tryz.pinned.checked.prog.wantsStandIn t = false := by
 obtain rfl : f = 3 := Option.some.inj ((show Tryz.prog.funcNamed "tollbar/tollbartop.TopSame" = some 3 by kernel_rfl).symm.trans hf) |>.symm
 obtain rfl : fn = Tryz.f3 := (Option.some.inj (Tryz.func3.symm.trans hfn)).symm
 refine ⟨by kernel_rfl, fun j t ht => ?_⟩
 rw [Tryz.params3] at ht
 have hm := Array.mem_of_getElem? ht
 simp at hm
 subst hm
 exact (show Tryz.prog.wantsStandIn 22 = false by kernel_rfl)
theorem topSame_holds : Rows.TopSameCardSaid :=
 Claim7.holds_tied_plain_at .later [] _ _ _ _ topSame_said (fun _ h => by cases h) (by kernel_rfl) (fun _ h => by cases h) topSame_row_tie rfl ⟨rfl, rfl⟩ (by kernel_rfl) rfl topSame_plain (by kernel_rfl)
#print axioms topSame_holds
end Go.Proofs.YtojojpjldkpmoaaGreatDoor
