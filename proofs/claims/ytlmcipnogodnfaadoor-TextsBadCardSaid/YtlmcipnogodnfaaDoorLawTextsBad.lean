/-
  Proved here: the law TextsBad returns true for every number; the listed package-level variables hold what the program's text lays.
-/
import Derived.Test.YtlmcipnogodnfaaDoorTxE
import Derived.Test.YtlmcipnogodnfaaDoorDoF
import Derived.Test.YtlmcipnogodnfaaDoorDoW
import Derived.Test.YtlmcipnogodnfaaDoorPik
namespace Go.Proofs.YtlmcipnogodnfaaDoor
open Go.RowKit Go.ChangeShapes Go.WideShapes Go.ChangeAt

theorem tab_cell {w : World} {cs : List Value} {E : TypeId} {b : Nat} (hb : b = w.heap.size) (i : Nat) (x : Value) (hx : cs[i]? = some x) : (w.alloc (.cells cs.toArray E)).cell? ⟨b, i, none⟩ = some x := by
  rw [World.cell?_alloc_at _ _ _ _ hb]; simpa using hx

theorem calls_at {P : Program} {f : FuncId} {args : Array Value} {W W4 : World} {Q : Ending → World → Prop} (h : W4 = W) (hc : Calls P f args W4 Q) : Calls P f args W Q := h ▸ hc

set_option maxRecDepth 50000 in
set_option maxHeartbeats 1000000 in
theorem textsBad_walk (n : Int) (w : World) (hn : inR n) (hE : Env w) :
    Calls Tryd.prog 7 #[.int .i64 n] w fun e w' => e = .returned (.bool true) ∧ Below w.heap.size w w' := by
  have hi := pickN_lt n 15 (by omega)
  have hk := pickN_lt n 9 (by omega)
  have P1 := Go.Lib.hid (fun w => picked_any n 15 w hn (by omega) (by omega))
  have P2 := Go.Lib.hid (fun w => picked_any n 9 w hn (by omega) (by omega))
  generalize pickN n 15 = I at *
  generalize pickN n 9 = K at *
  obtain ⟨W1, hW1⟩ : ∃ W1, W1 = w.alloc (.cells (oddL.map Value.string).toArray 9) := ⟨_, rfl⟩
  obtain ⟨W2, hW2⟩ : ∃ W2, W2 = W1.alloc (.cells (errL.map (Value.int .i64)).toArray 25) := ⟨_, rfl⟩
  obtain ⟨W3, hW3⟩ : ∃ W3, W3 = W2.alloc (.cells (badL.map Value.string).toArray 9) := ⟨_, rfl⟩
  obtain ⟨W4, hW4⟩ : ∃ W4, W4 = W3.alloc (.cells (errL2.map (Value.int .i64)).toArray 25) := ⟨_, rfl⟩
  have z1 : W1.heap.size = w.heap.size + 1 := by rw [hW1]; simp
  have z2 : W2.heap.size = w.heap.size + 2 := by rw [hW2]; simp [z1]
  have z3 : W3.heap.size = w.heap.size + 3 := by rw [hW3]; simp [z2]
  have b4 : Below W3.heap.size W3 W4 := by rw [hW4]; exact (Below.refl _ _).alloc (Nat.le_refl _) _
  have b3 : Below W2.heap.size W2 W4 := (by rw [hW3]; exact (Below.refl _ _).alloc (Nat.le_refl _) _ : Below W2.heap.size W2 W3).trans (b4.mono (by omega))
  have b2 : Below W1.heap.size W1 W4 := (by rw [hW2]; exact (Below.refl _ _).alloc (Nat.le_refl _) _ : Below W1.heap.size W1 W2).trans (b3.mono (by omega))
  have b1 : Below w.heap.size w W4 := (by rw [hW1]; exact (Below.refl _ _).alloc (Nat.le_refl _) _ : Below w.heap.size w W1).trans (b2.mono (by omega))
  have c1 : W4.cell? ⟨w.heap.size, I, none⟩ = some (.string (oddL.getD I ⟨#[]⟩)) := cell_keep b2 (by rw [hW1]; exact tab_cell rfl I _ (by rw [List.getElem?_map, List.getD_eq_getElem?_getD]; rw [List.getElem?_eq_getElem (show I < oddL.length from hi)]; rfl))
  have c2 : W4.cell? ⟨w.heap.size + 1, I, none⟩ = some (.int .i64 (errL.getD I 0)) := cell_keep b3 (by rw [hW2]; exact tab_cell z1.symm I _ (by rw [List.getElem?_map, List.getD_eq_getElem?_getD]; rw [List.getElem?_eq_getElem (show I < errL.length from hi)]; rfl))
  have c3 : W4.cell? ⟨w.heap.size + 1 + 1, K, none⟩ = some (.string (badL.getD K ⟨#[]⟩)) := cell_keep b4 (by rw [hW3]; exact tab_cell z2.symm K _ (by rw [List.getElem?_map, List.getD_eq_getElem?_getD]; rw [List.getElem?_eq_getElem (show K < badL.length from hk)]; rfl))
  have c4 : W4.cell? ⟨w.heap.size + 1 + 1 + 1, K, none⟩ = some (.int .i64 (errL2.getD K 0)) := by rw [hW4]; exact tab_cell z3.symm K _ (by rw [List.getElem?_map, List.getD_eq_getElem?_getD]; rw [List.getElem?_eq_getElem (show K < errL2.length from hk)]; rfl)
  have hA : ∀ w', Below w.heap.size w w' → Calls Tryd.prog 17 #[.string (oddL.getD I ⟨#[]⟩)] w' fun e w'' => (∃ A c, e = .returned (.tuple #[.agg #[.bool false, .slice A 0 c], .int .i64 (errL.getD I 0)])) ∧ Below w'.heap.size w' w'' := fun w' hb => by
    refine (readAdj_any (oddL.getD I ⟨#[]⟩) w' (by have := (odd_facts I hi).2.2.2; omega) (hE.below hb)).mono ?_
    rintro e w'' ⟨v, he, hv, hb'⟩
    rw [odd_read hi] at he hv
    obtain ⟨A, c, rfl⟩ := hv.form
    exact ⟨⟨A, c, he⟩, hb'⟩
  have hP : ∀ w', Below w.heap.size w w' → Calls Tryd.prog 14 #[.string (badL.getD K ⟨#[]⟩)] w' fun e w'' => (∃ A c, e = .returned (.tuple #[.slice A 0 c, .int .i64 (errL2.getD K 0)])) ∧ Below w'.heap.size w' w'' := fun w' hb => by
    refine (readPrefs_any (badL.getD K ⟨#[]⟩) w' (by have := (bad_facts K hk).2.2; omega) (hE.below hb)).mono ?_
    rintro e w'' ⟨v, he, hv, hb'⟩
    rw [bad_read hk] at he hv
    obtain ⟨A, c, rfl⟩ := hv.form
    exact ⟨⟨A, c, he⟩, hb'⟩
  have HA := Go.Lib.hid hA
  have HP := Go.Lib.hid hP
  have hi' : (I : Int) < 15 := by omega
  have hk' : (K : Int) < 9 := by omega
  have B1 := Go.Lib.hid b1
  have HW := Go.Lib.hid (show W4 = (((w.alloc (.cells (oddL.map Value.string).toArray 9)).alloc (.cells (errL.map (Value.int .i64)).toArray 25)).alloc (.cells (badL.map Value.string).toArray 9)).alloc (.cells (errL2.map (Value.int .i64)).toArray 25) by rw [hW4, hW3, hW2, hW1])
  have Z4 : W4.heap.size = w.heap.size + 4 := by rw [hW4]; simp [z3]
  generalize oddL.getD I ⟨#[]⟩ = OI at *
  generalize errL.getD I 0 = EI at *
  generalize badL.getD K ⟨#[]⟩ = BK at *
  generalize errL2.getD K 0 = FK at *
  clear hA hP hi hk hn hE b1 b2 b3 b4 z1 z2 z3 hW1 hW2 hW3 hW4
  go_enter Tryd.func7, Tryd.ntmps7
  go_wp2_with (first
    | (go_at_call 20; have U' := U; refine (P2.out _).mono ?_; rintro e w' ⟨rfl, rfl⟩)
    | (go_at_call 20; refine calls_at HW.out ?_; refine (P1.out _).mono ?_; rintro e w' ⟨rfl, rfl⟩; have U := trivial)
    | (go_at_call 17; refine (HA.out _ B1.out).mono ?_; rintro e w5 ⟨⟨A5, c5, rfl⟩, hb5⟩; have d2 := cell_keep hb5 c2; have d3 := cell_keep ((Below.refl _ _).alloc (Nat.le_refl _) (.cells #[.bool false, .slice A5 0 c5] 24)) (cell_keep hb5 c3); have d4 := cell_keep hb5 c4; have B5 := Go.Lib.hid (B1.out.trans (hb5.mono B1.out.size)); have z5 := hb5.size; clear hb5)
    | (go_at_call 14; refine (HP.out _ (B5.out.alloc B5.out.size _)).mono ?_; rintro e w6 ⟨⟨A6, c6, rfl⟩, hb6⟩; obtain ⟨hA6, hN6, _, hS6⟩ := pastAlloc hb6; have n0 : w6.cell? ⟨w5.heap.size, 0, none⟩ = some (.bool false) := hN6 0; have n1 : w6.cell? ⟨w5.heap.size, 1, none⟩ = some (.slice A5 0 c5) := hN6 1; have e2 := cell_keep hA6 d2; have e4 := cell_keep hA6 d4; have B6 := Go.Lib.hid (B5.out.trans (hA6.mono B5.out.size)); clear hb6 hN6 hA6))
  all_goals
    go_ret
    exact ⟨by simp, B6.out⟩

set_option maxRecDepth 100000 in
theorem textsBad_contract (H : Type) (enc : TypeId × Value → H) (W : World) (base : Nat) (args : Array Value) (ds gs : List (DataW H)) (before : List MemPlace)
    (hval0 : ∀ (j : Nat) t v, Tryd.f7.params[j]? = some t → args[j]? = some v → Value.okWide Tryd.prog W .any base t v)
    (hW : DataW.Whole enc Tryd.prog Tryd.f7.params.toList Rows.textsBadSpec.vars false W args.toList ds gs before) (hE : Env W) :
    Calls Tryd.prog 7 args W fun e W' => ∃ v, e = .returned v ∧ Rows.textsBadSpec.post enc Tryd.prog Tryd.f7 false true false false W args v W' := by
  have hval : ∀ (j : Nat) t v, Tryd.f7.params[j]? = some t → args[j]? = some v → Value.okWide Tryd.prog W .any base t v := hval0
  have hW' := hW
  obtain ⟨p, q, hA0, hV, rfl, hfz, _⟩ := hW
  have hA : DataW.TrodAll enc Tryd.prog W 0 (fun _ => true) true Tryd.f7.params.toList args.toList ds p := hA0
  rw [Tryd.params7] at hA hval
  obtain ⟨rfl, rfl⟩ := trodVars_none hV
  obtain ⟨v0, d0, rfl, rfl, h0⟩ := trodAll_one hA
  obtain ⟨x0, rfl, rfl, rfl, wx0⟩ := open_int Tryd.underlying3 (hval 0 3 v0 rfl rfl) h0
  have hx0 : inR x0 := inR_of wx0
  refine (textsBad_walk x0 W hx0 hE).mono fun e W' ⟨he, hb⟩ => ?_
  subst he
  exact ⟨_, rfl, law_post hW' laidOut (by rw [Tryd.params7]; intro t ht; simp at ht; subst ht; exact ⟨by kernel_rfl, of_decide_eq_true (by kernel_rfl)⟩) rfl rfl Tryd.underlying4 rfl rfl rfl hb⟩

theorem textsBad_reads (os : Os) {H : Type} (enc : TypeId × Value → H) : ∃ places, DataW.whole enc Tryd.prog ((laidW7 os).forCall (fun _ _ => 0) ⟨#[], #[.int .i64 0], []⟩).memory Tryd.f7.params.toList Rows.textsBadSpec.vars false (#[.int .i64 0] : Array Value).toList 8 = some ([.lit (.int .i64 0)], [], places) :=
  ⟨[], by kernel_rfl⟩
set_option maxRecDepth 100000 in
theorem textsBad_lifted (os : Os) (started : os.Started) (H : Type) (enc : TypeId × Value → H) (F : Stop.Interp) :
    ReturnsInHanded {} Tryd.checked os 7 .any ((OpenSpec.ofChange Rows.textsBadSpec).preRow enc Tryd.prog Tryd.f7 Rows.textsBadRow.domain false Rows.textsBadRow.laid) (((OpenSpec.ofChange Rows.textsBadSpec).at F).post enc Tryd.prog Tryd.f7 false true false false) := by
  obtain ⟨places, hx⟩ := textsBad_reads os enc
  refine returnsInHanded_of_row (C := Tryd.checked) (s := OpenSpec.ofChange Rows.textsBadSpec) own started (by kernel_rfl) Tryd.func7
    (witness_row_at (enc := enc) (C := Tryd.checked) false (laidW7 os) #[.int .i64 0] rfl (by kernel_rfl) (by kernel_rfl) (by kernel_rfl)
      (OpenSpec.preRow_of_cond 8 hx (by kernel_rfl) (fun k hk => by cases hk) (by kernel_rfl) (laid_met7 os _))) ?_
  intro W base args ds gs before hval hW _ hcond _ hL hsh _
  exact textsBad_contract H enc W base args ds gs before hval hW (env_of hL hsh)
theorem textsBad_said : Rows.TextsBadSaid :=
  OpenClaim.holds_of_cond 7 Tryd.f7 rfl rfl rfl rfl rfl rfl rfl ⟨rfl, rfl, rfl, rfl, rfl⟩ rfl rfl rfl rfl rfl (by kernel_rfl) Tryd.func7 (by kernel_rfl)
    (of_decide_eq_true (by kernel_rfl)) (by unfold Func.isWrapper; first | (rw [if_pos (by decide +kernel)]; kernel_rfl) | (rw [if_neg (by decide +kernel)]; exact ⟨rfl, rfl⟩))
    (fun os started H enc _ F => by rw [OpenClaim.pre_eq_preRow]; exact textsBad_lifted os started H enc F)
theorem textsBad_plain (f : FuncId) (fn : Func) (hf : Tryd.pinned.checked.prog.funcNamed "tollbar/tollbarkeep.TextsBad" = some f) (hfn : Tryd.pinned.checked.prog.funcs[f]? = some fn) :
    true = Tryd.pinned.checked.prog.looks [] ∧ ∀ (j : Nat) t, fn.params[j]? = some t → Tryd.pinned.checked.prog.wantsStandIn t = false := by
  obtain rfl : f = 7 := Option.some.inj ((show Tryd.prog.funcNamed "tollbar/tollbarkeep.TextsBad" = some 7 by kernel_rfl).symm.trans hf) |>.symm
  obtain rfl : fn = Tryd.f7 := (Option.some.inj (Tryd.func7.symm.trans hfn)).symm
  refine ⟨by kernel_rfl, fun j t ht => ?_⟩
  rw [Tryd.params7] at ht
  have hm := Array.mem_of_getElem? ht
  simp at hm
  subst hm
  exact (show Tryd.prog.wantsStandIn 3 = false by kernel_rfl)
theorem textsBad_holds : Rows.TextsBadCardSaid :=
  Claim7.holds_tied_plain_at .later [] _ _ _ _ textsBad_said (fun _ h => by cases h) (by kernel_rfl) (fun _ h => by cases h) textsBad_row_tie rfl ⟨rfl, rfl⟩ (by kernel_rfl) rfl textsBad_plain (by kernel_rfl)
#print axioms textsBad_holds
end Go.Proofs.YtlmcipnogodnfaaDoor
