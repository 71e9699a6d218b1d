/-
  Proved here: the law ScriptsGood returns true for every list of raw things and every int; the listed package-level variables hold what the program's text lays.
-/
import Derived.Test.YtbhbilenbbldnaaGreatDoorGKaC
import Derived.Test.YtbhbilenbbldnaaGreatDoorGNwL
import Derived.Test.YtbhbilenbbldnaaGreatDoorGKeO
import Derived.Test.YtbhbilenbbldnaaGreatDoorGDoW
import Derived.Lib.QuietBelow
set_option linter.unusedVariables false
set_option linter.unusedSimpArgs false
namespace Go.Proofs.YtbhbilenbbldnaaGreatDoor
open Go Go.RowKit Go.Deep Go.ChangeShapes Go.WideShapes Go.ChangeAt
def odd1 (p : Nat) : ActV := litA (11 + (p : Int)) 0 0 0 0
def odd2 : ActV := litA 6 12 0 0 0
theorem odd1_wf {p : Nat} (h : p < 9) : (odd1 p).wf := lit_wf (by omega) (by omega) (by omega) (by omega) (by omega)
theorem odd2_wf : odd2.wf := lit_wf (by omega) (by omega) (by omega) (by omega) (by omega)
theorem odd_run (l : List ActV) (p : Nat) : (runS net0 (l ++ [odd1 p, odd2])).1 = (runS net0 l).1 ∧ (runS net0 (l ++ [odd1 p, odd2])).2 = (runS net0 l).2 ++ [⟨3, [], 0, []⟩, ⟨2, [], 0, []⟩] := by
 have h1 : ∀ z, actS z (odd1 p) = (z, ⟨3, [], 0, []⟩) := fun z => act_kind (by show 11 + (p : Int) < 1 ∨ 10 < 11 + (p : Int); omega)
 have h2 : ∀ z, actS z odd2 = (z, ⟨2, [], 0, []⟩) := fun z => act_node (by show ¬ ((6 : Int) < 1 ∨ 10 < (6 : Int)); decide) (by show isN 12 = false; rfl)
 rw [runS_append]
 constructor
 · simp only [runS, h1, h2]
 · simp only [runS, h1, h2]
theorem odd_codes (l : List ActV) (p : Nat) : ∀ (h1 : l.length < (runS net0 (l ++ [odd1 p, odd2])).2.length) (h2 : l.length + 1 < (runS net0 (l ++ [odd1 p, odd2])).2.length), ((runS net0 (l ++ [odd1 p, odd2])).2[l.length]).code = 3 ∧ ((runS net0 (l ++ [odd1 p, odd2])).2[l.length + 1]).code = 2 := by
 intro h1 h2
 simp only [(odd_run l p).2]
 constructor
 · rw [List.getElem_append_right (by rw [runS_len0]; exact Nat.le_refl _)]; simp [runS_len0]
 · rw [List.getElem_append_right (by rw [runS_len0]; omega)]; simp [runS_len0]
set_option maxRecDepth 50000 in
set_option maxHeartbeats 2000000 in
theorem scriptsGood_walk (v : Value) (xs : List Raw) (n : Int) (w : World) (h : Sl rawR w v xs) (hn : inR n) (hE : Env w) :
  Calls Tryz.prog 3 #[v, .int .i64 n] w fun e w' => e = .returned (.bool true) ∧ Below w.heap.size w w' := by
 obtain ⟨Av, cv, rfl⟩ := h.form
 have H := Go.Lib.hid h
 have HE := Go.Lib.hid hE
 have hp := pickN_lt n 9 (by omega)
 have PN := Go.Lib.hid (show ∀ w, Calls Tryz.prog 14 #[.int .i64 n, .int .i64 9] w fun e w' => e = .returned (.int .i64 (pickN n 9 : Nat)) ∧ w = w' from fun w => picked_any n 9 w hn (by omega) (by omega))
 generalize pickN n 9 = p at *
 have HP := Go.Lib.hid hp
 have hp0 : (0 : Int) ≤ (p : Int) := Int.natCast_nonneg _
 clear h hE hn
 go_enter Tryz.func3, Tryz.ntmps3
 go_wp2_with fail
 refine (acts_any _ xs 60 5 w H.out (by omega) (by omega)).mono ?_
 rintro e w1 ⟨v1, acts, rfl, hal, hra, ho1, hb1⟩
 have B1 := Go.Lib.hid hb1
 have HAL := Go.Lib.hid hal
 have S1 := Go.Lib.hid (ho1.sl (by decide))
 obtain ⟨A1, c1, rfl⟩ := S1.out.form
 clear hal hra ho1 hb1
 go_wp2_with fail
 refine (nrun_any _ acts w1 S1.out (by have := HAL.out; omega) (HE.out.below B1.out)).mono ?_
 rintro e w2 ⟨vr2, vs2, rfl, hr2, hs2, hb2⟩
 have B2 := Go.Lib.hid (B1.out.trans (hb2.mono B1.out.size))
 have S2 := Go.Lib.hid (S1.out.below hb2)
 have HS2 := Go.Lib.hid hs2
 have HRL2 := Go.Lib.hid (runS_len0 acts)
 obtain ⟨Ar2, cr2, rfl⟩ := hr2.form
 obtain ⟨As2, cs2, rfl⟩ := hs2.form
 rw [stores_len, HRL2.out] at *
 clear hr2 hs2 hb2
 go_wp2_with fail
 refine (cloneAct_any _ acts w2 S2.out (by have := HAL.out; omega)).mono ?_
 rintro e w4 ⟨v4, rfl, ho4, hb4⟩
 have HO4 := Go.Lib.hid ho4
 obtain ⟨A4, n4, c4, rfl⟩ : ∃ A n c, v4 = .slice A n c := by obtain ⟨A, c, e⟩ := (ho4.sl (by decide)).form; exact ⟨A, _, c, e⟩
 have HB34 := Go.Lib.hid hb4
 clear ho4 hb4
 go_wp2_with fail
 refine (PN.out _).mono ?_
 rintro e w' ⟨rfl, rfl⟩
 go_wp2_with (at_builtin; refine wpList_two (base := w2.heap.size) (y := odd1 p) (z := odd2) rfl (.tmp 23) (.tmp 29) rfl HO4.out (odd1_wf HP.out) odd2_wf rfl rfl (by first | rfl | simp) (by have := HAL.out; omega) ?_; intro v5 w5 ho5 hg5)
 have R5 := Go.Lib.hid ((ow_alloc HO4.out (.cells ((odd1 p).cells ++ odd2.cells).toArray 34)).below_grown (HB34.out.alloc HB34.out.size _) hg5)
 have B5 := Go.Lib.hid (B2.out.trans (R5.out.mono B2.out.size))
 have S5 := Go.Lib.hid (ho5.sl (by decide))
 have HS5 := Go.Lib.hid (HS2.out.below R5.out)
 have SA5 := Go.Lib.hid (S2.out.below R5.out)
 obtain ⟨acts3, hac⟩ : ∃ l, l = acts ++ [odd1 p, odd2] := ⟨_, rfl⟩
 have HAC := Go.Lib.hid hac
 rw [← hac] at S5
 have HAL5 := Go.Lib.hid (show acts3.length ≤ 62 by rw [hac, List.length_append]; have := HAL.out; simp; omega)
 obtain ⟨A5, c5, rfl⟩ := S5.out.form
 clear hac ho5 hg5 HO4 HB34
 go_wp2_with fail
 refine (nrun_any _ acts3 w5 S5.out (by have := HAL5.out; omega) (HE.out.below B5.out)).mono ?_
 rintro e w6 ⟨vr6, vs6, rfl, hr6, hs6, hb6⟩
 have B6 := Go.Lib.hid (B5.out.trans (hb6.mono B5.out.size))
 have HS5 := Go.Lib.hid (HS5.out.below hb6)
 have HR6 := Go.Lib.hid hr6
 have HS6 := Go.Lib.hid hs6
 obtain ⟨Ar6, cr6, rfl⟩ := hr6.form
 obtain ⟨As6, cs6, rfl⟩ := hs6.form
 clear hr6 hs6 hb6
 rw [stores_len] at *
 obtain ⟨p1, p2⟩ := odd_run acts p
 have p3 := odd_codes acts p
 rw [← HAC.out] at p1 p2 p3
 have hlr : (runS net0 acts3).2.length = acts.length + 2 := by rw [runS_len0, HAC.out, List.length_append]; rfl
 obtain ⟨rs, hrs⟩ : ∃ l, l = (runS net0 acts3).2 := ⟨_, rfl⟩
 rw [p1] at HS6
 rw [← hrs] at p3 HR6 hlr ⊢
 obtain ⟨nr, hnr⟩ : ∃ m, m = rs.length := ⟨_, rfl⟩
 have HNR := Go.Lib.hid hnr
 have HLR := Go.Lib.hid hlr
 have HP3 := Go.Lib.hid p3
 have HOK := Go.Lib.hid (run_ok acts net0_ok)
 rw [← hnr]
 obtain ⟨b6, o6, rfl, _⟩ := HS5.out.at_ (k := 1) (by simp)
 obtain ⟨b7, o7, rfl, _⟩ := HS6.out.at_ (k := 1) (by simp)
 clear p1 p2 p3 hlr hnr hrs HRL2
 go_wp2_with fail
 go_loopw [12, 37] (fun _ i wr => ∃ k : Nat, k ≤ 12 ∧ i = .int .i64 k ∧ Below w6.heap.size w6 wr) (fun _ i _ => 12 - (intOf i).toNat)
 case atStart => exact ⟨0, Nat.zero_le _, rfl, Below.refl _ _⟩
 case round =>
  obtain ⟨k, hk, rfl, hB⟩ := hrel
  have HB := Go.Lib.hid hB
  by_cases hlt : k < 12
  · have hki : (k : Int) < 12 := by omega
    have hk0 : (0 : Int) ≤ (k : Int) := Int.natCast_nonneg _
    have s6 := HS5.out.below hB
    have s7 := HS6.out.below hB
    obtain ⟨u6, g6, q6⟩ := s6.store (k := k) (by simp; omega)
    obtain ⟨u7, g7, q7⟩ := s7.store (k := k) (by simp; omega)
    rw [stores_at] at q6 q7
    have l6 := cell_regrown g6
    have l7 := cell_regrown g7
    have hck := (HOK.out.nd k hlt).st.check
    have cC : ∀ d os, Calls Tryz.prog 15 #[u6] (Sort.grow (redrawn wr d) os) fun e w'' => e = .returned (.int .i64 0) ∧ ∃ p : Regrown, w'' = Sort.grow (redrawn wr p.d) p.os := fun d os => Calls.regrown_of (by rw [← hck]; exact check_any u6 _ _ (q6.below (below_regrown wr d os)))
    have cS : ∀ d os, Calls Tryz.prog 16 #[u6, u7] (Sort.grow (redrawn wr d) os) fun e w'' => e = .returned (.bool true) ∧ ∃ p : Regrown, w'' = Sort.grow (redrawn wr p.d) p.os := fun d os => Calls.regrown_of (equalE_eq u6 u7 _ _ (q6.below (below_regrown wr d os)) (q7.below (below_regrown wr d os)))
    clear hB s6 s7 g6 g7 q6 q7 hck
    go_wp2_with fail
    refine wp_region_quiet_below (by kernel_rfl) (by kernel_rfl) ?_
    repeat (quiet_step (fail))
    quiet_step (exact cC _ _)
    repeat (quiet_step (fail))
    quiet_step (exact cS _ _)
    repeat (quiet_step (fail))
    refine wpQuiet_nil ?_
    intro _ hw'
    obtain ⟨⟨dq, osq⟩, hw''⟩ := hw'
    subst hw''
    clear cS cC l6 l7
    go_wp2_with fail
    go_roundw
    case rel => exact ⟨k + 1, by omega, by go_num, HB.out.trans ((below_regrown wr dq osq).mono HB.out.size)⟩
    case measure => simp [intOf]; omega
  · have hki : ¬ (k : Int) < 12 := by omega
    have hr6 := HR6.out.below hB
    have h1 : acts.length < rs.length := by have := HNR.out; have := HLR.out; omega
    have h2 : acts.length + 1 < rs.length := by have := HNR.out; have := HLR.out; omega
    obtain ⟨br, or, rfl, _⟩ := hr6.at_ h1
    have g0 := hr6.rcode h1
    have g1 := hr6.rcode h2
    obtain ⟨e1, e2⟩ := HP3.out h1 h2
    rw [e1] at g0
    rw [e2] at g1
    have z1 : (acts.length : Int) < (nr : Int) := by have := HLR.out; have := HNR.out; omega
    have z2 : (acts.length : Int) + 1 < (nr : Int) := by have := HLR.out; have := HNR.out; omega
    have z3 : (0 : Int) ≤ (acts.length : Int) := Int.natCast_nonneg _
    have z5 : (acts.length : Int) ≤ 60 := by have := HAL.out; omega
    clear hB hr6 e1 e2 h1 h2
    go_wp2_with fail
    go_ret
    exact ⟨eb (by simp), B6.out.trans (HB.out.mono B6.out.size)⟩
set_option maxRecDepth 100000 in
theorem scriptsGood_contract (H : Type) (enc : TypeId × Value → H) (W : World) (base : Nat) (args : Array Value) (ds gs : List (DataW H)) (before : List MemPlace)
  (hval0 : ∀ (j : Nat) t v, Tryz.f3.params[j]? = some t → args[j]? = some v → Value.okWide Tryz.prog W .any base t v)
  (hW : DataW.Whole enc Tryz.prog Tryz.f3.params.toList Rows.scriptsGoodSpec.vars false W args.toList ds gs before) (hE : Env W) :
  Calls Tryz.prog 3 args W fun e W' => ∃ v, e = .returned v ∧ Rows.scriptsGoodSpec.post enc Tryz.prog Tryz.f3 false true false false W args v W' := by
 have hval : ∀ (j : Nat) t v, Tryz.f3.params[j]? = some t → args[j]? = some v → Value.okWide Tryz.prog W .any base t v := hval0
 have hW' := hW
 obtain ⟨p, q, hA0, hV, rfl, hfz, _⟩ := hW
 have hA : DataW.TrodAll enc Tryz.prog W 0 (fun _ => true) true Tryz.f3.params.toList args.toList ds p := hA0
 rw [Tryz.params3] at hA hval
 obtain ⟨rfl, rfl⟩ := trodVars_none hV
 obtain ⟨v0, v1, d0, d1, p0, p1, rfl, rfl, rfl, h0, h1⟩ := trodAll_two hA
 obtain ⟨x0, hx0⟩ := open_sl Tryz.underlying22 opens_raws (hval 0 22 v0 rfl rfl) h0
 obtain ⟨x1, rfl, rfl, rfl, wx1⟩ := open_int Tryz.underlying3 (hval 1 3 v1 rfl rfl) h1
 have hx1 : inR x1 := inR_of wx1
 refine (scriptsGood_walk v0 x0 x1 W hx0 hx1 hE).mono fun e W' ⟨he, hb⟩ => ?_
 subst he
 exact ⟨_, rfl, law_post hW' laidOut (by rw [Tryz.params3]; intro t ht; simp at ht; rcases ht with rfl | rfl <;> exact ⟨by kernel_rfl, of_decide_eq_true (by kernel_rfl)⟩) rfl rfl Tryz.underlying4 rfl rfl rfl hb⟩
theorem scriptsGood_reads (os : Os) {H : Type} (enc : TypeId × Value → H) : ∃ places, DataW.whole enc Tryz.prog ((laidW7 os).forCall (fun _ _ => 0) ⟨#[], #[.slice none 0 0, .int .i64 0], []⟩).memory Tryz.f3.params.toList Rows.scriptsGoodSpec.vars false (#[.slice none 0 0, .int .i64 0] : Array Value).toList 8 = some ([.nil, .lit (.int .i64 0)], [], places) :=
 ⟨[], by kernel_rfl⟩
set_option maxRecDepth 100000 in
theorem scriptsGood_lifted (os : Os) (started : os.Started) (H : Type) (enc : TypeId × Value → H) (F : Stop.Interp) :
  ReturnsInHanded {} Tryz.checked os 3 .any ((OpenSpec.ofChange Rows.scriptsGoodSpec).preRow enc Tryz.prog Tryz.f3 Rows.scriptsGoodRow.domain false Rows.scriptsGoodRow.laid) (((OpenSpec.ofChange Rows.scriptsGoodSpec).at F).post enc Tryz.prog Tryz.f3 false true false false) := by
 obtain ⟨places, hx⟩ := scriptsGood_reads os enc
 refine returnsInHanded_of_row (C := Tryz.checked) (s := OpenSpec.ofChange Rows.scriptsGoodSpec) own started (by kernel_rfl) Tryz.func3
  (witness_row_at (enc := enc) (C := Tryz.checked) false (laidW7 os) #[.slice none 0 0, .int .i64 0] rfl (by kernel_rfl) (by kernel_rfl) (by kernel_rfl)
   (OpenSpec.preRow_of_cond 8 hx (by kernel_rfl) (fun k hk => by cases hk) (by kernel_rfl) (laid_met7 os _))) ?_
 intro W base args ds gs before hval hW _ hcond _ hL hsh _
 exact scriptsGood_contract H enc W base args ds gs before hval hW (env_of hL hsh)
theorem scriptsGood_said : Rows.ScriptsGoodSaid :=
 OpenClaim.holds_of_cond 3 Tryz.f3 rfl rfl rfl rfl rfl rfl rfl ⟨rfl, rfl, rfl, rfl, rfl⟩ rfl rfl rfl rfl rfl (by kernel_rfl) Tryz.func3 (by kernel_rfl)
  (of_decide_eq_true (by kernel_rfl)) (by unfold Func.isWrapper; first | (rw [if_pos (by decide +kernel)]; kernel_rfl) | (rw [if_neg (by decide +kernel)]; exact ⟨rfl, rfl⟩))
  (fun os started H enc _ F => by rw [OpenClaim.pre_eq_preRow]; exact scriptsGood_lifted os started H enc F)
theorem scriptsGood_plain (f : FuncId) (fn : Func) (hf : Tryz.pinned.checked.prog.funcNamed "tollbar/tollbarkeep.ScriptsGood" = some f) (hfn : Tryz.pinned.checked.prog.funcs[f]? = some fn) :
  true = Tryz.pinned.checked.prog.looks [] ∧ ∀ (j : Nat) t, fn.params[j]? = some t → Tryz.pinned.checked.prog.wantsStandIn t = false := by
 obtain rfl : f = 3 := Option.some.inj ((show Tryz.prog.funcNamed "tollbar/tollbarkeep.ScriptsGood" = some 3 by kernel_rfl).symm.trans hf) |>.symm
 obtain rfl : fn = Tryz.f3 := (Option.some.inj (Tryz.func3.symm.trans hfn)).symm
 refine ⟨by kernel_rfl, fun j t ht => ?_⟩
 rw [Tryz.params3] at ht
 have hm := Array.mem_of_getElem? ht
 simp at hm
 rcases hm with rfl | rfl
 · exact (show Tryz.prog.wantsStandIn 22 = false by kernel_rfl)
 · exact (show Tryz.prog.wantsStandIn 3 = false by kernel_rfl)
theorem scriptsGood_holds : Rows.ScriptsGoodCardSaid :=
 Claim7.holds_tied_plain_at .later [] _ _ _ _ scriptsGood_said (fun _ h => by cases h) (by kernel_rfl) (fun _ h => by cases h) scriptsGood_row_tie rfl ⟨rfl, rfl⟩ (by kernel_rfl) rfl scriptsGood_plain (by kernel_rfl)
#print axioms scriptsGood_holds
end Go.Proofs.YtbhbilenbbldnaaGreatDoor
