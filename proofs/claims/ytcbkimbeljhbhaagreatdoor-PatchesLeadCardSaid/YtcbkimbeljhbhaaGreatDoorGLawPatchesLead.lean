/-
  Proved here: the law PatchesLead returns true for every two lists of raw things and every two numbers; the listed package-level variables hold what the program's text lays.
-/
import Derived.Test.YtcbkimbeljhbhaaGreatDoorGKmC
import Derived.Test.YtcbkimbeljhbhaaGreatDoorGKeC
import Derived.Test.YtcbkimbeljhbhaaGreatDoorGKeO
import Derived.Test.YtcbkimbeljhbhaaGreatDoorGPaA
import Derived.Test.YtcbkimbeljhbhaaGreatDoorGTbF
import Derived.Test.YtcbkimbeljhbhaaGreatDoorGDoW
set_option linter.unusedVariables false
set_option linter.unusedSimpArgs false
namespace Go.Proofs.YtcbkimbeljhbhaaGreatDoor
open Go Go.RowKit Go.Deep Go.ChangeShapes Go.WideShapes Go.ChangeAt

theorem diff_self (y : List Route) : diffSet y y = [] ∧ diffGone y y = [] := by
  constructor
  · unfold diffSet
    rw [List.filter_eq_nil_iff]
    intro r hr
    rw [(inTab_iff r).2 hr]; simp
  · unfold diffGone
    rw [List.map_eq_nil_iff, List.filter_eq_nil_iff]
    intro r hr
    have : inPre y r = true := by unfold inPre; rw [List.any_eq_true]; exact ⟨r, hr, sameP_refl _⟩
    rw [this]; simp
theorem table_good {m : List Entry} (h : OkS m) {s : Nat} (hs : s < 12) : tableS m (s : Int) = (tabTo m s 12, 0) := by
  unfold tableS
  rw [if_neg (by rw [h.check]; simp), if_pos (by simp; omega)]
  rfl

set_option maxRecDepth 50000 in
set_option maxHeartbeats 1000000 in
theorem patchesLead_walk (v : Value) (xs : List Raw) (u : Value) (ys : List Raw) (a b : Int) (w : World) (h : Sl rawR w v xs) (h2 : Sl rawR w u ys) (ha : inR a) (hb : inR b) (hE : Env w) :
    Calls Tryz.prog 7 #[v, u, .int .i64 a, .int .i64 b] w fun e w' => e = .returned (.bool true) ∧ Below w.heap.size w w' := by
  obtain ⟨Av, cv, rfl⟩ := h.form
  obtain ⟨Au, cu, rfl⟩ := h2.form
  have H := Go.Lib.hid h
  have H2 := Go.Lib.hid h2
  have HE := Go.Lib.hid hE
  have hA := pickN_lt a 6 (by omega)
  have hB := pickN_lt b 6 (by omega)
  have PA := Go.Lib.hid (fun w => picked_any a 6 w ha (by omega) (by omega))
  have PB := Go.Lib.hid (fun w => picked_any b 6 w hb (by omega) (by omega))
  generalize pickN a 6 = sa at *
  generalize pickN b 6 = sb at *
  have HSA := Go.Lib.hid (show sa < 12 by omega)
  have HSB := Go.Lib.hid (show sb < 12 by omega)
  clear h h2 hE ha hb
  go_enter Tryz.func7, Tryz.ntmps7
  go_wp2_with fail
  refine (tells_any w).mono ?_
  rintro e w1 ⟨rfl, hb1⟩
  have B1 := Go.Lib.hid hb1
  clear hb1
  go_wp2_with fail
  refine (map_any _ xs 6 w1 (H.out.below B1.out) (by omega) (HE.out.below B1.out)).mono ?_
  rintro e w2 ⟨v2, m2, rfl, hk2, ho2, hb2⟩
  have B2 := Go.Lib.hid (B1.out.trans (hb2.mono B1.out.size))
  have K2 := Go.Lib.hid hk2
  have T2 := Go.Lib.hid (table_any v2 m2 (sa : Int) w2 (ho2.sl (by decide)) (by unfold inR; omega) (HE.out.below B2.out))
  rw [table_good hk2 HSA.out] at T2
  clear hb2 hk2 ho2
  go_wp2_with (go_at_call 11; refine (PA.out _).mono ?_; rintro e w' ⟨rfl, rfl⟩)
  refine T2.out.mono ?_
  rintro e w3 ⟨v3, rfl, ho3, hb3⟩
  have B3 := Go.Lib.hid (B2.out.trans (hb3.mono B2.out.size))
  have S3 := Go.Lib.hid (show Sl routeR w3 v3 (tabTo m2 sa 12) from ho3.sl (by decide))
  clear hb3 ho3 T2
  go_wp2_with fail
  refine (map_any _ ys 6 w3 (H2.out.below B3.out) (by omega) (HE.out.below B3.out)).mono ?_
  rintro e w4 ⟨v4, m4, rfl, hk4, ho4, hb4⟩
  have B4 := Go.Lib.hid (B3.out.trans (hb4.mono B3.out.size))
  have S4 := Go.Lib.hid (S3.out.below hb4)
  have T4 := Go.Lib.hid (table_any v4 m4 (sb : Int) w4 (ho4.sl (by decide)) (by unfold inR; omega) (HE.out.below B4.out))
  rw [table_good hk4 HSB.out] at T4
  clear hb4 ho4 hk4
  go_wp2_with (go_at_call 11; refine (PB.out _).mono ?_; rintro e w' ⟨rfl, rfl⟩)
  refine T4.out.mono ?_
  rintro e w5 ⟨v5, rfl, ho5, hb5⟩
  have B5 := Go.Lib.hid (B4.out.trans (hb5.mono B4.out.size))
  have S5 := Go.Lib.hid (S4.out.below hb5)
  have R5 := Go.Lib.hid (show Sl routeR w5 v5 (tabTo m4 sb 12) from ho5.sl (by decide))
  have hpd := patch_diff (sorted_tab m2 sa 12) (sorted_tab m4 sb 12)
  have cx := chk_tab (xs := m2) HSA.out
  have cy := chk_tab (xs := m4) HSB.out
  have hgy := good_tab (xs := m4) HSB.out 12 (Nat.le_refl _)
  have hly := len_tab m4 sb 12
  generalize tabTo m2 sa 12 = X at *
  generalize tabTo m4 sb 12 = Y at *
  have D5 := Go.Lib.hid (diff_any v3 v5 X Y w5 S5.out R5.out)
  rw [diff_ok cx cy] at D5
  have hsl : (diffSet X Y).length ≤ 400 := by have := List.length_filter_le (fun r => !inTab X r) Y; unfold diffSet; omega
  have hsf : ∀ r ∈ diffSet X Y, FineR r := fun r hr => by
    have g := hgy r (List.mem_filter.1 hr).1
    exact ⟨g.pre, g.len, g.wf⟩
  have HSL := Go.Lib.hid hsl
  have HSF := Go.Lib.hid hsf
  have CX := Go.Lib.hid cx
  have CY := Go.Lib.hid cy
  have HPD := Go.Lib.hid hpd
  clear hb5 ho5 T4 hpd cx cy hgy hly hsl hsf
  go_wp2_with fail
  refine D5.out.mono ?_
  rintro e w6 ⟨v6, u6, rfl, hs6, hp6, hb6⟩
  have B6 := Go.Lib.hid (B5.out.trans (hb6.mono B5.out.size))
  have R6 := Go.Lib.hid (R5.out.below hb6)
  have P6 := Go.Lib.hid (patch_any v3 v6 u6 X (diffSet X Y) (diffGone X Y) w6 (S5.out.below hb6) hs6 hp6 CX.out HSF.out HSL.out)
  unfold PatPost patchL at P6
  rw [HPD.out, if_pos CY.out, CY.out] at P6
  clear hb6 hs6 hp6 D5
  go_wp2_with fail
  refine P6.out.mono ?_
  rintro e w7 ⟨v7, rfl, hs7, hb7⟩
  have B7 := Go.Lib.hid (B6.out.trans (hb7.mono B6.out.size))
  have R7 := Go.Lib.hid (R6.out.below hb7)
  have S7 := Go.Lib.hid hs7
  have D7 := Go.Lib.hid (diff_any v7 v5 Y Y w7 hs7 R7.out)
  rw [diff_ok CY.out CY.out, (diff_self Y).1, (diff_self Y).2] at D7
  clear hb7 hs7 P6
  obtain ⟨A7, c7, hv7⟩ := S7.out.form
  obtain ⟨A5, c5, hv5⟩ := R7.out.form
  subst hv7 hv5
  go_wp2_with fail
  refine D7.out.mono ?_
  rintro e w8 ⟨v8, u8, rfl, hs8, hp8, hb8⟩
  have B8 := Go.Lib.hid (B7.out.trans (hb8.mono B7.out.size))
  obtain ⟨A8, c8, hv8⟩ := hs8.form
  obtain ⟨A9, c9, hu8⟩ := hp8.form
  subst hv8 hu8
  clear hs8 hp8 hb8 D7
  go_wp2_with fail
  go_ret
  exact ⟨eb (by simp), B8.out⟩

set_option maxRecDepth 100000 in
theorem patchesLead_contract (H : Type) (enc : TypeId × Value → H) (W : World) (base : Nat) (args : Array Value) (ds gs : List (DataW H)) (before : List MemPlace)
    (hval0 : ∀ (j : Nat) t v, Tryz.f7.params[j]? = some t → args[j]? = some v → Value.okWide Tryz.prog W .any base t v)
    (hW : DataW.Whole enc Tryz.prog Tryz.f7.params.toList Rows.patchesLeadSpec.vars false W args.toList ds gs before) (hE : Env W) :
    Calls Tryz.prog 7 args W fun e W' => ∃ v, e = .returned v ∧ Rows.patchesLeadSpec.post enc Tryz.prog Tryz.f7 false true false false W args v W' := by
  have hval : ∀ (j : Nat) t v, Tryz.f7.params[j]? = some t → args[j]? = some v → Value.okWide Tryz.prog W .any base t v := hval0
  have hW' := hW
  obtain ⟨p, q, hA0, hV, rfl, hfz, _⟩ := hW
  have hA : DataW.TrodAll enc Tryz.prog W 0 (fun _ => true) true Tryz.f7.params.toList args.toList ds p := hA0
  rw [Tryz.params7] at hA hval
  obtain ⟨rfl, rfl⟩ := trodVars_none hV
  obtain ⟨v0, v1, v2, v3, d0, d1, d2, d3, p0, p1, p2, p3, rfl, rfl, rfl, h0, h1, h2, h3⟩ := trodAll_four hA
  obtain ⟨x0, hx0⟩ := open_sl Tryz.underlying29 opens_raws (hval 0 29 v0 rfl rfl) h0
  obtain ⟨x1, hx1⟩ := open_sl Tryz.underlying29 opens_raws (hval 1 29 v1 rfl rfl) h1
  obtain ⟨x2, rfl, rfl, rfl, wx2⟩ := open_int Tryz.underlying3 (hval 2 3 v2 rfl rfl) h2
  have hx2 : inR x2 := inR_of wx2
  obtain ⟨x3, rfl, rfl, rfl, wx3⟩ := open_int Tryz.underlying3 (hval 3 3 v3 rfl rfl) h3
  have hx3 : inR x3 := inR_of wx3
  refine (patchesLead_walk v0 x0 v1 x1 x2 x3 W hx0 hx1 hx2 hx3 hE).mono fun e W' ⟨he, hb⟩ => ?_
  subst he
  exact ⟨_, rfl, law_post hW' laidOut (by rw [Tryz.params7]; intro t ht; simp at ht; rcases ht with rfl | rfl <;> exact ⟨by kernel_rfl, of_decide_eq_true (by kernel_rfl)⟩) rfl rfl Tryz.underlying4 rfl rfl rfl hb⟩

theorem patchesLead_reads (os : Os) {H : Type} (enc : TypeId × Value → H) : ∃ places, DataW.whole enc Tryz.prog ((laidW7 os).forCall (fun _ _ => 0) ⟨#[], #[.slice none 0 0, .slice none 0 0, .int .i64 0, .int .i64 0], []⟩).memory Tryz.f7.params.toList Rows.patchesLeadSpec.vars false (#[.slice none 0 0, .slice none 0 0, .int .i64 0, .int .i64 0] : Array Value).toList 8 = some ([.nil, .nil, .lit (.int .i64 0), .lit (.int .i64 0)], [], places) :=
  ⟨[], by kernel_rfl⟩
set_option maxRecDepth 100000 in
theorem patchesLead_lifted (os : Os) (started : os.Started) (H : Type) (enc : TypeId × Value → H) (F : Stop.Interp) :
    ReturnsInHanded {} Tryz.checked os 7 .any ((OpenSpec.ofChange Rows.patchesLeadSpec).preRow enc Tryz.prog Tryz.f7 Rows.patchesLeadRow.domain false Rows.patchesLeadRow.laid) (((OpenSpec.ofChange Rows.patchesLeadSpec).at F).post enc Tryz.prog Tryz.f7 false true false false) := by
  obtain ⟨places, hx⟩ := patchesLead_reads os enc
  refine returnsInHanded_of_row (C := Tryz.checked) (s := OpenSpec.ofChange Rows.patchesLeadSpec) own started (by kernel_rfl) Tryz.func7
    (witness_row_at (enc := enc) (C := Tryz.checked) false (laidW7 os) #[.slice none 0 0, .slice none 0 0, .int .i64 0, .int .i64 0] rfl (by kernel_rfl) (by kernel_rfl) (by kernel_rfl)
      (OpenSpec.preRow_of_cond 8 hx (by kernel_rfl) (fun k hk => by cases hk) (by kernel_rfl) (laid_met7 os _))) ?_
  intro W base args ds gs before hval hW _ hcond _ hL hsh _
  exact patchesLead_contract H enc W base args ds gs before hval hW (env_of hL hsh)
theorem patchesLead_said : Rows.PatchesLeadSaid :=
  OpenClaim.holds_of_cond 7 Tryz.f7 rfl rfl rfl rfl rfl rfl rfl ⟨rfl, rfl, rfl, rfl, rfl⟩ rfl rfl rfl rfl rfl (by kernel_rfl) Tryz.func7 (by kernel_rfl)
    (of_decide_eq_true (by kernel_rfl)) (by unfold Func.isWrapper; first | (rw [if_pos (by decide +kernel)]; kernel_rfl) | (rw [if_neg (by decide +kernel)]; exact ⟨rfl, rfl⟩))
    (fun os started H enc _ F => by rw [OpenClaim.pre_eq_preRow]; exact patchesLead_lifted os started H enc F)
theorem patchesLead_plain (f : FuncId) (fn : Func) (hf : Tryz.pinned.checked.prog.funcNamed "tollbar/tollbarkeep.PatchesLead" = some f) (hfn : Tryz.pinned.checked.prog.funcs[f]? = some fn) :
    true = Tryz.pinned.checked.prog.looks [] ∧ ∀ (j : Nat) t, fn.params[j]? = some t → Tryz.pinned.checked.prog.wantsStandIn t = false := by
  obtain rfl : f = 7 := Option.some.inj ((show Tryz.prog.funcNamed "tollbar/tollbarkeep.PatchesLead" = some 7 by kernel_rfl).symm.trans hf) |>.symm
  obtain rfl : fn = Tryz.f7 := (Option.some.inj (Tryz.func7.symm.trans hfn)).symm
  refine ⟨by kernel_rfl, fun j t ht => ?_⟩
  rw [Tryz.params7] at ht
  have hm := Array.mem_of_getElem? ht
  simp at hm
  rcases hm with rfl | rfl
  · exact (show Tryz.prog.wantsStandIn 29 = false by kernel_rfl)
  · exact (show Tryz.prog.wantsStandIn 3 = false by kernel_rfl)
theorem patchesLead_holds : Rows.PatchesLeadCardSaid :=
  Claim7.holds_tied_plain_at .later [] _ _ _ _ patchesLead_said (fun _ h => by cases h) (by kernel_rfl) (fun _ h => by cases h) patchesLead_row_tie rfl ⟨rfl, rfl⟩ (by kernel_rfl) rfl patchesLead_plain (by kernel_rfl)
#print axioms patchesLead_holds
end Go.Proofs.YtcbkimbeljhbhaaGreatDoor
