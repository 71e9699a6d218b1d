/-
  Proved here: the law GraphWays returns true for every list of entries and every int; the listed package-level variables hold what the program's text lays.
-/
import Derived.Test.YtlmcipnogodnfaaDoorDoT
import Derived.Test.YtlmcipnogodnfaaDoorDoW
namespace Go.Proofs.YtlmcipnogodnfaaDoor
open Go.RowKit Go.ChangeShapes Go.WideShapes Go.ChangeAt

set_option maxRecDepth 50000 in
set_option maxHeartbeats 400000 in
theorem graphWays_walk (v : Value) (xs : List Entry) (f : Int) (w : World) (h : Sl entR w v xs) (hf : inR f) (hE : Env w) :
    Calls Tryd.prog 9 #[v, .int .i64 f] w fun e w' => e = .returned (.bool true) ∧ Below w.heap.size w w' := by
  have HS := Go.Lib.hid (gwaysTop_any v xs f w h hf hE)
  have HR := Go.Lib.hid (fun w1 (hb : Below w.heap.size w w1) => waysOf_any v xs f w1 (h.below hb) (fun hc e he => (sizes_of hc e he).2) (hE.below hb))
  clear h hE
  unfold WaysPost at HS HR
  generalize waysS xs f = g at *
  obtain ⟨ys, n⟩ := g
  go_enter Tryd.func9, Tryd.ntmps9
  go_wp2_with (first
    | (go_at_call 23; refine HS.out.mono ?_; rintro e w1 ⟨v1, rfl, hs1, hb1⟩; have HB1 := Go.Lib.hid hb1; have HS1 := Go.Lib.hid hs1; clear hb1 hs1)
    | (go_at_call 24; refine (HR.out _ HB1.out).mono ?_; rintro e w2 ⟨v2, rfl, hs2, hb2⟩; have HB2 := Go.Lib.hid hb2; have HS2 := Go.Lib.hid hs2; clear hb2 hs2)
    | (go_at_call 25; refine (sameWays_eq v1 v2 ys _ (HS1.out.below HB2.out) HS2.out).mono ?_; rintro e w3 ⟨rfl, hb3⟩))
  all_goals
    go_ret
    exact ⟨rfl, (HB1.out.trans (HB2.out.mono HB1.out.size)).trans (hb3.mono (by have := HB1.out.size; have := HB2.out.size; omega))⟩

set_option maxRecDepth 100000 in
theorem graphWays_contract (H : Type) (enc : TypeId × Value → H) (W : World) (base : Nat) (args : Array Value) (ds gs : List (DataW H)) (before : List MemPlace)
    (hval0 : ∀ (j : Nat) t v, Tryd.f9.params[j]? = some t → args[j]? = some v → Value.okWide Tryd.prog W .any base t v)
    (hW : DataW.Whole enc Tryd.prog Tryd.f9.params.toList Rows.graphWaysSpec.vars false W args.toList ds gs before) (hE : Env W) :
    Calls Tryd.prog 9 args W fun e W' => ∃ v, e = .returned v ∧ Rows.graphWaysSpec.post enc Tryd.prog Tryd.f9 false true false false W args v W' := by
  have hval : ∀ (j : Nat) t v, Tryd.f9.params[j]? = some t → args[j]? = some v → Value.okWide Tryd.prog W .any base t v := hval0
  have hW' := hW
  obtain ⟨p, q, hA0, hV, rfl, hfz, _⟩ := hW
  have hA : DataW.TrodAll enc Tryd.prog W 0 (fun _ => true) true Tryd.f9.params.toList args.toList ds p := hA0
  rw [Tryd.params9] at hA hval
  obtain ⟨rfl, rfl⟩ := trodVars_none hV
  obtain ⟨v0, v1, d0, d1, p0, p1, rfl, rfl, rfl, h0, h1⟩ := trodAll_two hA
  obtain ⟨x0, hx0⟩ := open_sl Tryd.underlying52 opens_ents (hval 0 52 v0 rfl rfl) h0
  obtain ⟨x1, rfl, rfl, rfl, wx1⟩ := open_int Tryd.underlying3 (hval 1 3 v1 rfl rfl) h1
  have hx1 : inR x1 := inR_of wx1
  refine (graphWays_walk v0 x0 x1 W hx0 hx1 hE).mono fun e W' ⟨he, hb⟩ => ?_
  subst he
  exact ⟨_, rfl, law_post hW' laidOut (by rw [Tryd.params9]; intro t ht; simp at ht; rcases ht with rfl | rfl <;> exact ⟨by kernel_rfl, of_decide_eq_true (by kernel_rfl)⟩) rfl rfl Tryd.underlying4 rfl rfl rfl hb⟩

theorem graphWays_reads (os : Os) {H : Type} (enc : TypeId × Value → H) : ∃ places, DataW.whole enc Tryd.prog ((laidW7 os).forCall (fun _ _ => 0) ⟨#[], #[.slice none 0 0, .int .i64 0], []⟩).memory Tryd.f9.params.toList Rows.graphWaysSpec.vars false (#[.slice none 0 0, .int .i64 0] : Array Value).toList 8 = some ([.nil, .lit (.int .i64 0)], [], places) :=
  ⟨[], by kernel_rfl⟩
set_option maxRecDepth 100000 in
theorem graphWays_lifted (os : Os) (started : os.Started) (H : Type) (enc : TypeId × Value → H) (F : Stop.Interp) :
    ReturnsInHanded {} Tryd.checked os 9 .any ((OpenSpec.ofChange Rows.graphWaysSpec).preRow enc Tryd.prog Tryd.f9 Rows.graphWaysRow.domain false Rows.graphWaysRow.laid) (((OpenSpec.ofChange Rows.graphWaysSpec).at F).post enc Tryd.prog Tryd.f9 false true false false) := by
  obtain ⟨places, hx⟩ := graphWays_reads os enc
  refine returnsInHanded_of_row (C := Tryd.checked) (s := OpenSpec.ofChange Rows.graphWaysSpec) own started (by kernel_rfl) Tryd.func9
    (witness_row_at (enc := enc) (C := Tryd.checked) false (laidW7 os) #[.slice none 0 0, .int .i64 0] rfl (by kernel_rfl) (by kernel_rfl) (by kernel_rfl)
      (OpenSpec.preRow_of_cond 8 hx (by kernel_rfl) (fun k hk => by cases hk) (by kernel_rfl) (laid_met7 os _))) ?_
  intro W base args ds gs before hval hW _ hcond _ hL hsh _
  exact graphWays_contract H enc W base args ds gs before hval hW (env_of hL hsh)
theorem graphWays_said : Rows.GraphWaysSaid :=
  OpenClaim.holds_of_cond 9 Tryd.f9 rfl rfl rfl rfl rfl rfl rfl ⟨rfl, rfl, rfl, rfl, rfl⟩ rfl rfl rfl rfl rfl (by kernel_rfl) Tryd.func9 (by kernel_rfl)
    (of_decide_eq_true (by kernel_rfl)) (by unfold Func.isWrapper; first | (rw [if_pos (by decide +kernel)]; kernel_rfl) | (rw [if_neg (by decide +kernel)]; exact ⟨rfl, rfl⟩))
    (fun os started H enc _ F => by rw [OpenClaim.pre_eq_preRow]; exact graphWays_lifted os started H enc F)
theorem graphWays_plain (f : FuncId) (fn : Func) (hf : Tryd.pinned.checked.prog.funcNamed "tollbar/tollbarlaw.GraphWays" = some f) (hfn : Tryd.pinned.checked.prog.funcs[f]? = some fn) :
    true = Tryd.pinned.checked.prog.looks [] ∧ ∀ (j : Nat) t, fn.params[j]? = some t → Tryd.pinned.checked.prog.wantsStandIn t = false := by
  obtain rfl : f = 9 := Option.some.inj ((show Tryd.prog.funcNamed "tollbar/tollbarlaw.GraphWays" = some 9 by kernel_rfl).symm.trans hf) |>.symm
  obtain rfl : fn = Tryd.f9 := (Option.some.inj (Tryd.func9.symm.trans hfn)).symm
  refine ⟨by kernel_rfl, fun j t ht => ?_⟩
  rw [Tryd.params9] at ht
  have hm := Array.mem_of_getElem? ht
  simp at hm
  rcases hm with rfl | rfl
  · exact (show Tryd.prog.wantsStandIn 52 = false by kernel_rfl)
  · exact (show Tryd.prog.wantsStandIn 3 = false by kernel_rfl)
theorem graphWays_holds : Rows.GraphWaysCardSaid :=
  Claim7.holds_tied_plain_at .later [] _ _ _ _ graphWays_said (fun _ h => by cases h) (by kernel_rfl) (fun _ h => by cases h) graphWays_row_tie rfl ⟨rfl, rfl⟩ (by kernel_rfl) rfl graphWays_plain (by kernel_rfl)
#print axioms graphWays_holds
end Go.Proofs.YtlmcipnogodnfaaDoor
