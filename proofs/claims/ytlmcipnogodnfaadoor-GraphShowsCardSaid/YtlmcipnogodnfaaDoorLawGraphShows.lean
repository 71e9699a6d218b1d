/-
  Proved here: the law GraphShows returns true for every Adj; the listed package-level variables hold what the program's text lays.
-/
import Derived.Test.YtlmcipnogodnfaaDoorDoH
import Derived.Test.YtlmcipnogodnfaaDoorDoW
import Derived.Test.YtlmcipnogodnfaaDoorOpn
namespace Go.Proofs.YtlmcipnogodnfaaDoor
open Go.RowKit Go.ChangeShapes Go.WideShapes Go.ChangeAt

set_option maxRecDepth 50000 in
set_option maxHeartbeats 400000 in
theorem graphShows_walk (x : AdjV) (w : World) (h : Sl sideR w x.v x.sides) (hE : EnvT w) :
    Calls Tryd.prog 3 #[.agg #[.bool x.drain, x.v]] w fun e w' => e = .returned (.bool true) ∧ Below w.heap.size w w' := by
  obtain ⟨d, v, xs⟩ := x
  obtain ⟨A, c, hv⟩ := h.form
  simp only at hv h ⊢
  subst hv
  have hb0 := (Below.refl w.heap.size w).alloc (Nat.le_refl _) (.cells #[.bool d, .slice A xs.length c] 24)
  have HS := Go.Lib.hid (showAdj_any d _ xs _ (h.below hb0) (hE.below hb0))
  have HR := Go.Lib.hid (fun w1 (hb : Below w.heap.size w w1) => adjText_any d _ xs w1 (h.below hb))
  have HB := Go.Lib.hid hb0
  clear h hE hb0
  go_enter Tryd.func3, Tryd.ntmps3
  go_wp2_with (first
    | (go_at_call 10; refine HS.out.mono ?_; rintro e w1 ⟨rfl, hb1⟩; obtain ⟨hA, hN, _, hS⟩ := pastAlloc hb1; have n0 : w1.cell? ⟨w.heap.size, 0, none⟩ = some (.bool d) := hN 0; have n1 : w1.cell? ⟨w.heap.size, 1, none⟩ = some (.slice A xs.length c) := hN 1; clear hb1 hN)
    | (go_at_call 11; refine (HR.out _ hA).mono ?_; rintro e w2 ⟨rfl, hb2⟩))
  all_goals
    go_ret
    exact ⟨by simp, hA.trans (hb2.mono hA.size)⟩

set_option maxRecDepth 100000 in
theorem graphShows_contract (H : Type) (enc : TypeId × Value → H) (W : World) (base : Nat) (args : Array Value) (ds gs : List (DataW H)) (before : List MemPlace)
    (hval0 : ∀ (j : Nat) t v, Tryd.f3.params[j]? = some t → args[j]? = some v → Value.okWide Tryd.prog W .any base t v)
    (hW : DataW.Whole enc Tryd.prog Tryd.f3.params.toList Rows.graphShowsSpec.vars false W args.toList ds gs before) (hE : EnvT W) :
    Calls Tryd.prog 3 args W fun e W' => ∃ v, e = .returned v ∧ Rows.graphShowsSpec.post enc Tryd.prog Tryd.f3 false true false false W args v W' := by
  have hval : ∀ (j : Nat) t v, Tryd.f3.params[j]? = some t → args[j]? = some v → Value.okWide Tryd.prog W .any base t v := hval0
  have hW' := hW
  obtain ⟨p, q, hA0, hV, rfl, hfz, _⟩ := hW
  have hA : DataW.TrodAll enc Tryd.prog W 0 (fun _ => true) true Tryd.f3.params.toList args.toList ds p := hA0
  rw [Tryd.params3] at hA hval
  obtain ⟨rfl, rfl⟩ := trodVars_none hV
  obtain ⟨v0, d0, rfl, rfl, h0⟩ := trodAll_one hA
  obtain ⟨x0, rfl, hx0⟩ := open_adj (hval 0 24 v0 rfl rfl) h0
  refine (graphShows_walk x0 W hx0 hE).mono fun e W' ⟨he, hb⟩ => ?_
  subst he
  exact ⟨_, rfl, law_post hW' laidOut (by rw [Tryd.params3]; intro t ht; simp at ht; subst ht; exact ⟨by kernel_rfl, of_decide_eq_true (by kernel_rfl)⟩) rfl rfl Tryd.underlying4 rfl rfl rfl hb⟩

theorem graphShows_reads (os : Os) {H : Type} (enc : TypeId × Value → H) : ∃ places, DataW.whole enc Tryd.prog ((laidW3 os).forCall (fun _ _ => 0) ⟨#[], #[.agg #[.bool false, .slice none 0 0]], []⟩).memory Tryd.f3.params.toList Rows.graphShowsSpec.vars false (#[.agg #[.bool false, .slice none 0 0]] : Array Value).toList 8 = some ([.agg [.lit (.bool false), .nil]], [], places) :=
  ⟨[], by kernel_rfl⟩
set_option maxRecDepth 100000 in
theorem graphShows_lifted (os : Os) (started : os.Started) (H : Type) (enc : TypeId × Value → H) (F : Stop.Interp) :
    ReturnsInHanded {} Tryd.checked os 3 .any ((OpenSpec.ofChange Rows.graphShowsSpec).preRow enc Tryd.prog Tryd.f3 Rows.graphShowsRow.domain false Rows.graphShowsRow.laid) (((OpenSpec.ofChange Rows.graphShowsSpec).at F).post enc Tryd.prog Tryd.f3 false true false false) := by
  obtain ⟨places, hx⟩ := graphShows_reads os enc
  refine returnsInHanded_of_row (C := Tryd.checked) (s := OpenSpec.ofChange Rows.graphShowsSpec) own started (by kernel_rfl) Tryd.func3
    (witness_row_at (enc := enc) (C := Tryd.checked) false (laidW3 os) #[.agg #[.bool false, .slice none 0 0]] rfl (by kernel_rfl) (by kernel_rfl) (by kernel_rfl)
      (OpenSpec.preRow_of_cond 8 hx (by kernel_rfl) (fun k hk => by cases hk) (by kernel_rfl) (laid_met3 os _))) ?_
  intro W base args ds gs before hval hW _ hcond _ hL hsh _
  exact graphShows_contract H enc W base args ds gs before hval hW (envT_of hL)
theorem graphShows_said : Rows.GraphShowsSaid :=
  OpenClaim.holds_of_cond 3 Tryd.f3 rfl rfl rfl rfl rfl rfl rfl ⟨rfl, rfl, rfl, rfl, rfl⟩ rfl rfl rfl rfl rfl (by kernel_rfl) Tryd.func3 (by kernel_rfl)
    (of_decide_eq_true (by kernel_rfl)) (by unfold Func.isWrapper; first | (rw [if_pos (by decide +kernel)]; kernel_rfl) | (rw [if_neg (by decide +kernel)]; exact ⟨rfl, rfl⟩))
    (fun os started H enc _ F => by rw [OpenClaim.pre_eq_preRow]; exact graphShows_lifted os started H enc F)
theorem graphShows_plain (f : FuncId) (fn : Func) (hf : Tryd.pinned.checked.prog.funcNamed "tollbar/tollbarlaw.GraphShows" = some f) (hfn : Tryd.pinned.checked.prog.funcs[f]? = some fn) :
    true = Tryd.pinned.checked.prog.looks [] ∧ ∀ (j : Nat) t, fn.params[j]? = some t → Tryd.pinned.checked.prog.wantsStandIn t = false := by
  obtain rfl : f = 3 := Option.some.inj ((show Tryd.prog.funcNamed "tollbar/tollbarlaw.GraphShows" = some 3 by kernel_rfl).symm.trans hf) |>.symm
  obtain rfl : fn = Tryd.f3 := (Option.some.inj (Tryd.func3.symm.trans hfn)).symm
  refine ⟨by kernel_rfl, fun j t ht => ?_⟩
  rw [Tryd.params3] at ht
  have hm := Array.mem_of_getElem? ht
  simp at hm
  subst hm
  exact (show Tryd.prog.wantsStandIn 24 = false by kernel_rfl)
theorem graphShows_holds : Rows.GraphShowsCardSaid :=
  Claim7.holds_tied_plain_at .later [] _ _ _ _ graphShows_said (fun _ h => by cases h) (by kernel_rfl) (fun _ h => by cases h) graphShows_row_tie rfl ⟨rfl, rfl⟩ (by kernel_rfl) rfl graphShows_plain (by kernel_rfl)
#print axioms graphShows_holds
end Go.Proofs.YtlmcipnogodnfaaDoor
