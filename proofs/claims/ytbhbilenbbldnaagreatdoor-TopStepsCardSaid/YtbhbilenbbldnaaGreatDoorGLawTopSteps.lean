/-
  Proved here: the law TopSteps returns true for every list of raw things and every int; the listed package-level variables hold what the program's text lays.
-/
import Derived.Test.YtbhbilenbbldnaaGreatDoorGTpA
import Derived.Test.YtbhbilenbbldnaaGreatDoorGTpD
import Derived.Test.YtbhbilenbbldnaaGreatDoorGDoW
import Derived.Laws.MakeOwn
set_option linter.unusedVariables false
set_option linter.unusedSimpArgs false
set_option maxHeartbeats 16000000
namespace Go.Proofs.YtbhbilenbbldnaaGreatDoor
open Go Go.RowKit Go.Deep Go.ChangeShapes Go.WideShapes Go.ChangeAt
theorem make_acts (m : Nat) (hm : m <= 1000) (w : World) : ∃ o, (Instr.makeSlice 23 (.int .i64 (401 + (m : Int))) (.int .i64 (401 + (m : Int)))).run Tryz.prog w = .ok (.slice (some ⟨w.heap.size, 0, none⟩) (401 + m) (401 + m)) (w.alloc o) := by
 obtain ⟨i, z, q1, q2, q3, q4, q5⟩ := elt_actA.info
 have h := run_make (P := Tryz.prog) w 23 34 i z Tryz.underlying23 q1 q2 .i64 .i64 (401 + (m : Int)) (401 + (m : Int)) (by omega) (zbF _) (by rw [q4]; omega) (by omega)
 rw [show (401 + (m : Int)).toNat = 401 + m by omega] at h
 exact ⟨_, h⟩
set_option maxRecDepth 50000 in
theorem topSteps_walk (v : Value) (xs : List Raw) (n : Int) (w : World) (h : Sl rawR w v xs) (hn : inR n) (hE : Env w) :
  Calls Tryz.prog 5 #[v, .int .i64 n] w fun e w' => e = .returned (.bool true) /\ Below w.heap.size w w' := by
 obtain ⟨Av, cv, rfl⟩ := h.form
 have H := zaa h
 have HE := zaa hE
 have HIN := zaa hn
 clear h hE hn
 go_enter Tryz.func5, Tryz.ntmps5
 go_wp2_with fail
 refine (acts_any _ xs 50 5 w H.out (by omega) (by omega)).mono ?_
 rintro e w1 ⟨v1, acts, rfl, hal, hra, ho1, hb1⟩
 have B1 := zaa hb1
 have HAL := zaa hal
 have S1 := zaa (ho1.sl (by decide))
 obtain ⟨A1, c1, rfl⟩ := S1.out.form
 have hlb : (acts.length : Int) <= 50 := by omega
 have hl0 : (0 : Int) <= (acts.length : Int) := zae _
 obtain ⟨k, hk⟩ : ∃ k, k = pickN n (acts.length + 1) := ⟨_, rfl⟩
 have hkl : k < acts.length + 1 := by rw [hk]; exact pickN_lt _ _ (by omega)
 have HPK := zaa (show ∀ w, Calls Tryz.prog 18 #[.int .i64 n, .int .i64 ((acts.length : Int) + 1)] w fun e w' => e = .returned (.int .i64 (k : Nat)) /\ w = w' from fun w => by rw [hk]; exact pickedK_any n (acts.length + 1) w HIN.out (by omega) (by omega))
 obtain ⟨p, hp⟩ : ∃ p, p = pickN n 9 := ⟨_, rfl⟩
 have hp9 : p < 9 := by rw [hp]; exact pickN_lt _ _ (by omega)
 have HP9 := zaa (show ∀ w, Calls Tryz.prog 18 #[.int .i64 n, .int .i64 9] w fun e w' => e = .returned (.int .i64 (p : Nat)) /\ w = w' from fun w => by rw [hp]; exact pickedK_any n 9 w HIN.out (by omega) (by omega))
 clear hal hra ho1 hb1 hk hp
 go_wp2_with fail
 refine (HPK.out _).mono ?_
 rintro e w' ⟨rfl, rfl⟩
 go_wp2_with fail
 refine (toprun_any _ acts w1 S1.out (by have := HAL.out; omega) (HE.out.below B1.out)).mono ?_
 rintro e w2 ⟨vr2, vs2, rfl, hr2, hs2, hb2⟩
 have B2 := zaa (B1.out.trans (hb2.mono B1.out.size))
 have S2 := zaa (S1.out.below hb2)
 have HR2 := zaa hr2
 obtain ⟨Ar2, cr2, rfl⟩ := hr2.form
 obtain ⟨As2, cs2, rfl⟩ := hs2.form
 have hcap : acts.length <= c1 /\ c1 <= maxLen := by
  obtain ⟨_, _, hv, h1, h2, _⟩ := S2.out
  injection hv with _ _ e3
  rw [e3]; exact ⟨h1, h2⟩
 have hk0 : (0 : Int) <= (k : Int) := zae _
 have hk1 : (k : Int) <= (c1 : Int) := by omega
 have hc2 : (c1 : Int) <= 9223372036854775807 := by have := hcap.2; unfold maxLen at this; omega
 have S2k := zaa (SlR.front S2.out (k := k) (by omega))
 have HLN := zaa (runS_len0 acts)
 have hlr := runS_len0 acts
 obtain ⟨rs, hrs⟩ : ∃ l, l = (runS net0 acts).2 := ⟨_, rfl⟩
 have HRS := zaa hrs
 rw [<- hrs] at HR2 hlr ⊢
 clear hr2 hs2 hb2 hcap hrs
 go_wp2_with fail
 have hlk : (acts.take k).length = k := by rw [zan]; omega
 refine (toprun_any _ (acts.take k) w2 S2k.out (by rw [hlk]; omega) (HE.out.below B2.out)).mono ?_
 rintro e w3 ⟨vr3, vs3, rfl, hr3, hs3, hb3⟩
 have B3 := zaa (B2.out.trans (hb3.mono B2.out.size))
 have HR23 := zaa (HR2.out.below hb3)
 have HR3 := zaa hr3
 have hst := topSteps_says acts k
 rw [<- HRS.out] at hst
 rw [hst] at HR3
 have hlk2 : (rs.take k).length = k := by rw [zan]; omega
 obtain ⟨Ar3, cr3, e3⟩ := HR3.out.form
 rw [hlk2] at e3
 subst e3
 obtain ⟨As3, cs3, rfl⟩ := hs3.form
 clear hr3 hs3 hb3 hst hlk
 go_wp2_with fail
 refine (HP9.out _).mono ?_
 rintro e w' ⟨rfl, rfl⟩
 obtain ⟨o4, hmk⟩ := make_acts p (by omega) w3
 have B4 := zaa (B3.out.alloc B3.out.size o4)
 have HR24 := zaa (HR23.out.below ((zad _ _).alloc (zab _) o4))
 have HR34 := zaa (HR3.out.below ((zad _ _).alloc (zab _) o4))
 have hpb : (p : Int) < 9 := by omega
 have hp0 : (0 : Int) <= (p : Int) := zae _
 clear hp9
 go_wp2_with fail
 refine (toprun_long _ _ _ _ (by omega)).mono ?_
 rintro e w' ⟨rfl, rfl⟩
 have hcap : rs.length <= cr2 /\ cr2 <= maxLen := by
  obtain ⟨_, _, hv, h1, h2, _⟩ := HR24.out
  injection hv with _ _ e3
  rw [e3]; exact ⟨h1, h2⟩
 have hk3 : (k : Int) <= (cr2 : Int) := by omega
 have hc3 : (cr2 : Int) <= 9223372036854775807 := by have := hcap.2; unfold maxLen at this; omega
 have hfr : Sl rplR (w3.alloc o4) (.slice Ar2 (rs.take k).length cr2) (rs.take k) := by rw [hlk2]; exact SlR.front HR24.out (k := k) (by omega)
 rw [hlk2] at hfr
 have HFR := zaa hfr
 clear hfr hlk2 hcap hlr hmk
 go_wp2_with fail
 refine (eqRpl_any _ _ (rs.take k) _ HFR.out HR34.out).mono ?_
 rintro e w5 ⟨rfl, hb5⟩
 have B5 := zaa (B4.out.trans (hb5.mono B4.out.size))
 clear hb5
 go_wp2_with fail
 go_ret
 exact ⟨rfl, B5.out⟩
set_option maxRecDepth 100000 in
theorem topSteps_contract (H : Type) (enc : TypeId × Value -> H) (W : World) (base : Nat) (args : Array Value) (ds gs : List (DataW H)) (before : List MemPlace)
  (hval0 : ∀ (j : Nat) t v, Tryz.f5.params[j]? = some t -> args[j]? = some v -> Value.okWide Tryz.prog W .any base t v)
  (hW : DataW.Whole enc Tryz.prog Tryz.f5.params.toList Rows.topStepsSpec.vars false W args.toList ds gs before) (hE : Env W) :
  Calls Tryz.prog 5 args W fun e W' => ∃ v, e = .returned v /\ Rows.topStepsSpec.post enc Tryz.prog Tryz.f5 false true false false W args v W' := by
 have hval : ∀ (j : Nat) t v, Tryz.f5.params[j]? = some t -> args[j]? = some v -> Value.okWide Tryz.prog W .any base t v := hval0
 have hW' := hW
 obtain ⟨p, q, hA0, hV, rfl, hfz, _⟩ := hW
 have hA : DataW.TrodAll enc Tryz.prog W 0 (fun _ => true) true Tryz.f5.params.toList args.toList ds p := hA0
 rw [Tryz.params5] at hA hval
 obtain ⟨rfl, rfl⟩ := trodVars_none hV
 obtain ⟨v0, v1, d0, d1, p0, p1, rfl, rfl, rfl, h0, h1⟩ := trodAll_two hA
 obtain ⟨x0, hx0⟩ := open_sl Tryz.underlying22 opens_raws (hval 0 22 v0 rfl rfl) h0
 obtain ⟨x1, rfl, rfl, rfl, wx1⟩ := open_int Tryz.underlying3 (hval 1 3 v1 rfl rfl) h1
 have hx1 : inR x1 := inR_of wx1
 refine (topSteps_walk v0 x0 x1 W hx0 hx1 hE).mono fun e W' ⟨he, hb⟩ => ?_
 subst he
 exact ⟨_, rfl, law_post hW' laidOut (by rw [Tryz.params5]; intro t ht; simp at ht; rcases ht with rfl | rfl <;> exact ⟨by kernel_rfl, of_decide_eq_true (by kernel_rfl)⟩) rfl rfl Tryz.underlying4 rfl rfl rfl hb⟩
theorem topSteps_reads (os : Os) {H : Type} (enc : TypeId × Value -> H) : ∃ places, DataW.whole enc Tryz.prog ((laidW7 os).forCall (fun _ _ => 0) ⟨#[], #[.slice none 0 0, .int .i64 0], []⟩).memory Tryz.f5.params.toList Rows.topStepsSpec.vars false (#[.slice none 0 0, .int .i64 0] : Array Value).toList 8 = some ([.nil, .lit (.int .i64 0)], [], places) :=
 ⟨[], by kernel_rfl⟩
set_option maxRecDepth 100000 in
theorem topSteps_lifted (os : Os) (started : os.Started) (H : Type) (enc : TypeId × Value -> H) (F : Stop.Interp) :
  ReturnsInHanded {} Tryz.checked os 5 .any ((OpenSpec.ofChange Rows.topStepsSpec).preRow enc Tryz.prog Tryz.f5 Rows.topStepsRow.domain false Rows.topStepsRow.laid) (((OpenSpec.ofChange Rows.topStepsSpec).at F).post enc Tryz.prog Tryz.f5 false true false false) := by
 obtain ⟨places, hx⟩ := topSteps_reads os enc
 refine returnsInHanded_of_row (C := Tryz.checked) (s := OpenSpec.ofChange Rows.topStepsSpec) own started (by kernel_rfl) Tryz.func5
  (witness_row_at (enc := enc) (C := Tryz.checked) false (laidW7 os) #[.slice none 0 0, .int .i64 0] rfl (by kernel_rfl) (by kernel_rfl) (by kernel_rfl)
   (OpenSpec.preRow_of_cond 8 hx (by kernel_rfl) (fun k hk => by cases hk) (by kernel_rfl) (laid_met7 os _))) ?_
 intro W base args ds gs before hval hW _ hcond _ hL hsh _
 exact topSteps_contract H enc W base args ds gs before hval hW (env_of hL hsh)
theorem topSteps_said : Rows.TopStepsSaid :=
 OpenClaim.holds_of_cond 5 Tryz.f5 rfl rfl rfl rfl rfl rfl rfl ⟨rfl, rfl, rfl, rfl, rfl⟩ rfl rfl rfl rfl rfl (by kernel_rfl) Tryz.func5 (by kernel_rfl)
  (of_decide_eq_true (by kernel_rfl)) (by unfold Func.isWrapper; first | (rw [if_pos (by decide +kernel)]; kernel_rfl) | (rw [if_neg (by decide +kernel)]; exact ⟨rfl, rfl⟩))
  (fun os started H enc _ F => by rw [OpenClaim.pre_eq_preRow]; exact topSteps_lifted os started H enc F)
theorem topSteps_plain (f : FuncId) (fn : Func) (hf : Tryz.pinned.checked.prog.funcNamed "tollbar/tollbartop.TopSteps" = some f) (hfn : Tryz.pinned.checked.prog.funcs[f]? = some fn) :
  true = Tryz.pinned.checked.prog.looks [] /\ ∀ (j : Nat) t, fn.params[j]? = some t -> Tryz.pinned.checked.prog.wantsStandIn t = false := by
 obtain rfl : f = 5 := zbi ((show Tryz.prog.funcNamed "tollbar/tollbartop.TopSteps" = some 5 by kernel_rfl).symm.trans hf) |>.symm
 obtain rfl : fn = Tryz.f5 := (zbi (Tryz.func5.symm.trans hfn)).symm
 refine ⟨by kernel_rfl, fun j t ht => ?_⟩
 rw [Tryz.params5] at ht
 have hm := zbV ht
 simp at hm
 rcases hm with rfl | rfl
 · exact (show Tryz.prog.wantsStandIn 22 = false by kernel_rfl)
 · exact (show Tryz.prog.wantsStandIn 3 = false by kernel_rfl)
theorem topSteps_holds : Rows.TopStepsCardSaid :=
 Claim7.holds_tied_plain_at .later [] _ _ _ _ topSteps_said (fun _ h => by cases h) (by kernel_rfl) (fun _ h => by cases h) topSteps_row_tie rfl ⟨rfl, rfl⟩ (by kernel_rfl) rfl topSteps_plain (by kernel_rfl)
#print axioms topSteps_holds
end Go.Proofs.YtbhbilenbbldnaaGreatDoor
