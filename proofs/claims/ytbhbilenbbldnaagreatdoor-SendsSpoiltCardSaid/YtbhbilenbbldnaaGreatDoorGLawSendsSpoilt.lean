/-
  Proved here: the law SendsSpoilt returns true for every list of raw things and every int; the listed package-level variables hold what the program's text lays.
-/
import Derived.Test.YtbhbilenbbldnaaGreatDoorGKaC
import Derived.Test.YtbhbilenbbldnaaGreatDoorGKeC
import Derived.Test.YtbhbilenbbldnaaGreatDoorGKeO
import Derived.Test.YtbhbilenbbldnaaGreatDoorGNwL
import Derived.Test.YtbhbilenbbldnaaGreatDoorGNtD
import Derived.Test.YtbhbilenbbldnaaGreatDoorGDoW
import Derived.Lib.QuietBelow
set_option linter.unusedVariables false
set_option linter.unusedSimpArgs false
namespace Go.Proofs.YtbhbilenbbldnaaGreatDoor
open Go Go.RowKit Go.Deep Go.ChangeShapes Go.WideShapes Go.ChangeAt
def lk01 : ActV := litA 1 0 1 3 0
def tl0 : ActV := litA 6 0 0 0 0
def sn01 (n : Int) : ActV := litA 7 0 1 n 0
theorem lk01_wf : lk01.wf := lit_wf (by omega) (by omega) (by omega) (by omega) (by omega)
theorem tl0_wf : tl0.wf := lit_wf (by omega) (by omega) (by omega) (by omega) (by omega)
theorem sn01_wf {n : Nat} (h : n < 10000) : (sn01 (n : Int)).wf := lit_wf (by omega) (by omega) (by omega) (by omega) (by omega)
theorem send_spoilt {z : Net} (h : NetOk z) (n : Nat) : (actS z (sn01 n)).2.code ≠ 0 ∧ (actS z (sn01 n)).1 = z := by
 rw [act_go (k := 7) (a := 0) (by show ¬ ((7 : Int) < 1 ∨ 10 < (7 : Int)); decide) (by show isN 0 = true; rfl) rfl rfl]
 show (sendS z 0 1 (n : Int)).2.2 ≠ 0 ∧ (sendS z 0 1 (n : Int)).1 = z
 have hw := wire_spoilt (h.nd 0 (by omega)).st (n := (n : Int)) (by omega)
 unfold sendS
 rw [if_neg (by decide)]
 by_cases hc : z.co 0 (1 : Int).toNat = 0
 · rw [if_pos hc]; exact ⟨by show (6 : Int) ≠ 0; decide, rfl⟩
 · rw [if_neg hc, if_pos hw]
   exact ⟨hw, rfl⟩
theorem runS_last (l : List ActV) (c : ActV) : (runS net0 (l ++ [c])).1 = (actS (runS net0 l).1 c).1 ∧ (runS net0 (l ++ [c])).2 = (runS net0 l).2 ++ [(actS (runS net0 l).1 c).2] := by
 rw [runS_append]; exact ⟨rfl, rfl⟩
theorem spoilt_run (l : List ActV) (n : Nat) : ((runS net0 (l ++ [sn01 n])).1.nd 1).st = ((runS net0 l).1.nd 1).st ∧ ∀ h : l.length < (runS net0 (l ++ [sn01 n])).2.length, ((runS net0 (l ++ [sn01 n])).2[l.length]).code ≠ 0 := by
 have hk := send_spoilt (run_ok l net0_ok) n
 obtain ⟨e1, e2⟩ := runS_last l (sn01 n)
 refine ⟨by rw [e1, hk.2], fun h => ?_⟩
 have : (runS net0 (l ++ [sn01 n])).2[l.length] = (actS (runS net0 l).1 (sn01 n)).2 := by
  simp only [e2]
  rw [List.getElem_append_right (by rw [runS_len0]; exact Nat.le_refl _)]
  simp [runS_len0]
 rw [this]; exact hk.1
set_option maxRecDepth 50000 in
set_option maxHeartbeats 2000000 in
theorem sendsSpoilt_walk (v : Value) (xs : List Raw) (n : Int) (w : World) (h : Sl rawR w v xs) (hn : inR n) (hE : Env w) :
  Calls Tryz.prog 4 #[v, .int .i64 n] w fun e w' => e = .returned (.bool true) ∧ Below w.heap.size w w' := by
 obtain ⟨Av, cv, rfl⟩ := h.form
 have H := Go.Lib.hid h
 have HE := Go.Lib.hid hE
 have hp := pickN_lt n 10000 (by omega)
 have PN := Go.Lib.hid (show ∀ w, Calls Tryz.prog 14 #[.int .i64 n, .int .i64 10000] w fun e w' => e = .returned (.int .i64 (pickN n 10000 : Nat)) ∧ w = w' from fun w => picked_any n 10000 w hn (by omega) (by omega))
 generalize pickN n 10000 = p at *
 have HP := Go.Lib.hid hp
 have hp0 : (0 : Int) ≤ (p : Int) := Int.natCast_nonneg _
 clear h hE hn hp
 go_enter Tryz.func4, Tryz.ntmps4
 go_wp2_with fail
 refine (tells_any w).mono ?_
 rintro e w1 ⟨rfl, hb1⟩
 have B1 := Go.Lib.hid hb1
 clear hb1
 go_wp2_with fail
 refine (acts_any _ xs 40 3 w1 (H.out.below B1.out) (by omega) (by omega)).mono ?_
 rintro e w2 ⟨v2, acts, rfl, hal, hra, ho2, hb2⟩
 have B2 := Go.Lib.hid (B1.out.trans (hb2.mono B1.out.size))
 have HB12 := Go.Lib.hid hb2
 have HO2 := Go.Lib.hid ho2
 have HAL := Go.Lib.hid hal
 have HBA := Go.Lib.hid (ow_alloc ho2 (.cells (lk01.cells ++ tl0.cells).toArray 34))
 obtain ⟨A2, n2, c2, rfl⟩ : ∃ A n c, v2 = .slice A n c := by obtain ⟨A, c, e⟩ := (ho2.sl (by decide)).form; exact ⟨A, _, c, e⟩
 clear hal hra ho2 hb2
 go_wp2_with (at_builtin; refine wpList_two (base := w1.heap.size) (y := lk01) (z := tl0) rfl (.tmp 15) (.tmp 18) rfl HO2.out lk01_wf tl0_wf rfl rfl (by first | rfl | simp) (by have := HAL.out; omega) ?_; intro v3 w3 ho3 hg3)
 have B3 := Go.Lib.hid (B1.out.trans ((HBA.out.below_grown (HB12.out.alloc HB12.out.size _) hg3).mono B1.out.size))
 obtain ⟨acts2, hac⟩ : ∃ l, l = acts ++ [lk01, tl0] := ⟨_, rfl⟩
 rw [← hac] at ho3
 have HAL3 := Go.Lib.hid (show acts2.length ≤ 42 by rw [hac, List.length_append]; have := HAL.out; simp; omega)
 have S3 := Go.Lib.hid (ho3.sl (by decide))
 obtain ⟨A3, c3, rfl⟩ := S3.out.form
 have hl0 : (0 : Int) ≤ (acts2.length : Int) := Int.natCast_nonneg _
 clear hac ho3 hg3 HBA HO2 HAL
 refine (cloneAct_any _ acts2 w3 S3.out (by have := HAL3.out; omega)).mono ?_
 rintro e w4 ⟨v4, rfl, ho4, hb4⟩
 have B4 := Go.Lib.hid (B3.out.trans (hb4.mono B3.out.size))
 have S4 := Go.Lib.hid (S3.out.below hb4)
 have HO4 := Go.Lib.hid ho4
 obtain ⟨A4, n4, c4, rfl⟩ : ∃ A n c, v4 = .slice A n c := by obtain ⟨A, c, e⟩ := (ho4.sl (by decide)).form; exact ⟨A, _, c, e⟩
 have HB34 := Go.Lib.hid hb4
 clear ho4 hb4
 go_wp2_with fail
 refine (PN.out _).mono ?_
 rintro e w' ⟨rfl, rfl⟩
 go_wp2_with (at_builtin; refine wpList_oneR (r := actR) (base := w3.heap.size) (y := sn01 (p : Int)) (S := fun _ => False) elt_actA rfl (.tmp 22) (.tmp 26) rfl HO4.out ⟨rfl, sn01_wf HP.out⟩ (fun _ h => h.elim) rfl rfl (by first | rfl | simp) (by have := HAL3.out; omega) (by decide) ?_; intro v5 w5 ho5 hg5)
 have B5 := Go.Lib.hid (B3.out.trans (((ow_alloc HO4.out _).below_grown (HB34.out.alloc HB34.out.size _) hg5.grown).mono B3.out.size))
 have S5 := Go.Lib.hid (ho5.sl (by decide))
 have R5 := Go.Lib.hid ((Below.refl _ _).trans ((ow_alloc HO4.out (.cells (sn01 (p : Int)).cells.toArray 34)).below_grown (HB34.out.alloc HB34.out.size _) hg5.grown))
 have S5a := Go.Lib.hid (S3.out.below R5.out)
 obtain ⟨acts3, hac⟩ : ∃ l, l = acts2 ++ [sn01 (p : Int)] := ⟨_, rfl⟩
 have HAC := Go.Lib.hid hac
 rw [← hac] at S5
 have HAL5 := Go.Lib.hid (show acts3.length ≤ 43 by rw [hac, List.length_append]; have := HAL3.out; simp; omega)
 clear hac ho5 hg5 HO4 HB34
 obtain ⟨A5, c5, rfl⟩ := S5.out.form
 go_wp2_with fail
 refine (nrun_any _ acts3 w5 S5.out (by have := HAL5.out; omega) (HE.out.below B5.out)).mono ?_
 rintro e w6 ⟨vr6, vs6, rfl, hr6, hs6, hb6⟩
 have B6 := Go.Lib.hid (B5.out.trans (hb6.mono B5.out.size))
 have S6 := Go.Lib.hid (S5a.out.below hb6)
 have HR6 := Go.Lib.hid hr6
 have HS6 := Go.Lib.hid hs6
 obtain ⟨Ar6, cr6, rfl⟩ := hr6.form
 obtain ⟨As6, cs6, rfl⟩ := hs6.form
 clear hr6 hs6 hb6
 rw [stores_len] at *
 go_wp2_with fail
 refine (nrun_any _ acts2 w6 S6.out (by have := HAL3.out; omega) (HE.out.below B6.out)).mono ?_
 rintro e w7 ⟨vr7, vs7, rfl, hr7, hs7, hb7⟩
 have B7 := Go.Lib.hid (B6.out.trans (hb7.mono B6.out.size))
 obtain ⟨p1, p2⟩ := spoilt_run acts2 p
 rw [← HAC.out] at p1 p2
 have hr6 := HR6.out.below hb7
 have hs6 := HS6.out.below hb7
 have hlr : (runS net0 acts3).2.length = acts2.length + 1 := by rw [runS_len0, HAC.out, List.length_append]; rfl
 obtain ⟨rs, hrs⟩ : ∃ l, l = (runS net0 acts3).2 := ⟨_, rfl⟩
 rw [← hrs] at p2 hr6 hlr ⊢
 have hlt : acts2.length < rs.length := by omega
 have hrl : (acts2.length : Int) < (rs.length : Int) := by omega
 obtain ⟨br, or, rfl, _⟩ := hr6.at_ hlt
 have g0 := hr6.rcode hlt
 obtain ⟨b6, o6, rfl, _⟩ := hs6.at_ (k := 1) (by simp)
 obtain ⟨u6, g6, q6⟩ := hs6.store (k := 1) (by simp)
 rw [stores_at] at q6
 obtain ⟨As7, cs7, rfl⟩ := hs7.form
 rw [stores_len] at hs7 ⊢
 obtain ⟨b7, o7, rfl, _⟩ := hs7.at_ (k := 1) (by simp)
 obtain ⟨u7, g7, q7⟩ := hs7.store (k := 1) (by simp)
 rw [stores_at] at q7
 rw [p1] at q6
 have hcode : (((rs[acts2.length]).code) != 0) = true := bne_iff_ne.2 (p2 hlt)
 obtain ⟨code, hco⟩ : ∃ c, c = (rs[acts2.length]).code := ⟨_, rfl⟩
 rw [← hco] at hcode g0
 have l0 := cell_regrown g0
 have l6 := cell_regrown g6
 have l7 := cell_regrown g7
 have cS : ∀ d os, Calls Tryz.prog 16 #[u6, u7] (Sort.grow (redrawn w7 d) os) fun e w'' => e = .returned (.bool true) ∧ ∃ p : Regrown, w'' = Sort.grow (redrawn w7 p.d) p.os := fun d os => Calls.regrown_of (equalE_eq u6 u7 _ _ (q6.below (below_regrown w7 d os)) (q7.below (below_regrown w7 d os)))
 clear hr6 hs6 hr7 hs7 hb7 p1 p2 hco g0 g6 g7 q6 q7 hlr hlt hrs
 go_wp2_with fail
 refine wp_region_quiet_below (by kernel_rfl) (by kernel_rfl) ?_
 repeat (quiet_step (fail))
 quiet_step (exact cS _ _)
 repeat (quiet_step (fail))
 refine wpQuiet_nil ?_
 intro _ hw'
 obtain ⟨⟨dq, osq⟩, hw''⟩ := hw'
 subst hw''
 clear cS l0 l6 l7
 go_wp2_with fail
 go_ret
 exact ⟨eb (by simp), B7.out.trans ((below_regrown w7 dq osq).mono B7.out.size)⟩
set_option maxRecDepth 100000 in
theorem sendsSpoilt_contract (H : Type) (enc : TypeId × Value → H) (W : World) (base : Nat) (args : Array Value) (ds gs : List (DataW H)) (before : List MemPlace)
  (hval0 : ∀ (j : Nat) t v, Tryz.f4.params[j]? = some t → args[j]? = some v → Value.okWide Tryz.prog W .any base t v)
  (hW : DataW.Whole enc Tryz.prog Tryz.f4.params.toList Rows.sendsSpoiltSpec.vars false W args.toList ds gs before) (hE : Env W) :
  Calls Tryz.prog 4 args W fun e W' => ∃ v, e = .returned v ∧ Rows.sendsSpoiltSpec.post enc Tryz.prog Tryz.f4 false true false false W args v W' := by
 have hval : ∀ (j : Nat) t v, Tryz.f4.params[j]? = some t → args[j]? = some v → Value.okWide Tryz.prog W .any base t v := hval0
 have hW' := hW
 obtain ⟨p, q, hA0, hV, rfl, hfz, _⟩ := hW
 have hA : DataW.TrodAll enc Tryz.prog W 0 (fun _ => true) true Tryz.f4.params.toList args.toList ds p := hA0
 rw [Tryz.params4] at hA hval
 obtain ⟨rfl, rfl⟩ := trodVars_none hV
 obtain ⟨v0, v1, d0, d1, p0, p1, rfl, rfl, rfl, h0, h1⟩ := trodAll_two hA
 obtain ⟨x0, hx0⟩ := open_sl Tryz.underlying22 opens_raws (hval 0 22 v0 rfl rfl) h0
 obtain ⟨x1, rfl, rfl, rfl, wx1⟩ := open_int Tryz.underlying3 (hval 1 3 v1 rfl rfl) h1
 have hx1 : inR x1 := inR_of wx1
 refine (sendsSpoilt_walk v0 x0 x1 W hx0 hx1 hE).mono fun e W' ⟨he, hb⟩ => ?_
 subst he
 exact ⟨_, rfl, law_post hW' laidOut (by rw [Tryz.params4]; intro t ht; simp at ht; rcases ht with rfl | rfl <;> exact ⟨by kernel_rfl, of_decide_eq_true (by kernel_rfl)⟩) rfl rfl Tryz.underlying4 rfl rfl rfl hb⟩
theorem sendsSpoilt_reads (os : Os) {H : Type} (enc : TypeId × Value → H) : ∃ places, DataW.whole enc Tryz.prog ((laidW7 os).forCall (fun _ _ => 0) ⟨#[], #[.slice none 0 0, .int .i64 0], []⟩).memory Tryz.f4.params.toList Rows.sendsSpoiltSpec.vars false (#[.slice none 0 0, .int .i64 0] : Array Value).toList 8 = some ([.nil, .lit (.int .i64 0)], [], places) :=
 ⟨[], by kernel_rfl⟩
set_option maxRecDepth 100000 in
theorem sendsSpoilt_lifted (os : Os) (started : os.Started) (H : Type) (enc : TypeId × Value → H) (F : Stop.Interp) :
  ReturnsInHanded {} Tryz.checked os 4 .any ((OpenSpec.ofChange Rows.sendsSpoiltSpec).preRow enc Tryz.prog Tryz.f4 Rows.sendsSpoiltRow.domain false Rows.sendsSpoiltRow.laid) (((OpenSpec.ofChange Rows.sendsSpoiltSpec).at F).post enc Tryz.prog Tryz.f4 false true false false) := by
 obtain ⟨places, hx⟩ := sendsSpoilt_reads os enc
 refine returnsInHanded_of_row (C := Tryz.checked) (s := OpenSpec.ofChange Rows.sendsSpoiltSpec) own started (by kernel_rfl) Tryz.func4
  (witness_row_at (enc := enc) (C := Tryz.checked) false (laidW7 os) #[.slice none 0 0, .int .i64 0] rfl (by kernel_rfl) (by kernel_rfl) (by kernel_rfl)
   (OpenSpec.preRow_of_cond 8 hx (by kernel_rfl) (fun k hk => by cases hk) (by kernel_rfl) (laid_met7 os _))) ?_
 intro W base args ds gs before hval hW _ hcond _ hL hsh _
 exact sendsSpoilt_contract H enc W base args ds gs before hval hW (env_of hL hsh)
theorem sendsSpoilt_said : Rows.SendsSpoiltSaid :=
 OpenClaim.holds_of_cond 4 Tryz.f4 rfl rfl rfl rfl rfl rfl rfl ⟨rfl, rfl, rfl, rfl, rfl⟩ rfl rfl rfl rfl rfl (by kernel_rfl) Tryz.func4 (by kernel_rfl)
  (of_decide_eq_true (by kernel_rfl)) (by unfold Func.isWrapper; first | (rw [if_pos (by decide +kernel)]; kernel_rfl) | (rw [if_neg (by decide +kernel)]; exact ⟨rfl, rfl⟩))
  (fun os started H enc _ F => by rw [OpenClaim.pre_eq_preRow]; exact sendsSpoilt_lifted os started H enc F)
theorem sendsSpoilt_plain (f : FuncId) (fn : Func) (hf : Tryz.pinned.checked.prog.funcNamed "tollbar/tollbarkeep.SendsSpoilt" = some f) (hfn : Tryz.pinned.checked.prog.funcs[f]? = some fn) :
  true = Tryz.pinned.checked.prog.looks [] ∧ ∀ (j : Nat) t, fn.params[j]? = some t → Tryz.pinned.checked.prog.wantsStandIn t = false := by
 obtain rfl : f = 4 := Option.some.inj ((show Tryz.prog.funcNamed "tollbar/tollbarkeep.SendsSpoilt" = some 4 by kernel_rfl).symm.trans hf) |>.symm
 obtain rfl : fn = Tryz.f4 := (Option.some.inj (Tryz.func4.symm.trans hfn)).symm
 refine ⟨by kernel_rfl, fun j t ht => ?_⟩
 rw [Tryz.params4] at ht
 have hm := Array.mem_of_getElem? ht
 simp at hm
 rcases hm with rfl | rfl
 · exact (show Tryz.prog.wantsStandIn 22 = false by kernel_rfl)
 · exact (show Tryz.prog.wantsStandIn 3 = false by kernel_rfl)
theorem sendsSpoilt_holds : Rows.SendsSpoiltCardSaid :=
 Claim7.holds_tied_plain_at .later [] _ _ _ _ sendsSpoilt_said (fun _ h => by cases h) (by kernel_rfl) (fun _ h => by cases h) sendsSpoilt_row_tie rfl ⟨rfl, rfl⟩ (by kernel_rfl) rfl sendsSpoilt_plain (by kernel_rfl)
#print axioms sendsSpoilt_holds
end Go.Proofs.YtbhbilenbbldnaaGreatDoor
