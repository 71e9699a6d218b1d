/-
  Proved here: the law GraphRead returns true for every string, where what it reads is of bulk at most 1048576; the listed package-level variables hold what the program's text lays.
-/
import Derived.Test.YtlmcipnogodnfaaDoorDoE
import Derived.Test.YtlmcipnogodnfaaDoorDoW
namespace Go.Proofs.YtlmcipnogodnfaaDoor
open Go.RowKit Go.ChangeShapes Go.WideShapes Go.ChangeAt

set_option maxHeartbeats 400000 in
theorem graphRead_walk (s : ByteArray) (w : World) (_ : s.size ≤ maxLen) (hz : s.size ≤ 1048576) (hE : Env w) :
    Calls Tryd.prog 5 #[.string s] w fun e w' => e = .returned (.bool true) ∧ Below w.heap.size w w' := by
  have HE := Go.Lib.hid hE
  have hs : s.size < 4294967281 := by omega
  clear hE hz
  go_enter Tryd.func5, Tryd.ntmps5
  go_wp2_with (first
    | (go_at_call 14; refine (readPrefs_any s _ hs HE.out).mono ?_; rintro e w1 ⟨v1, rfl, hv1, hb1⟩; have HV1 := Go.Lib.hid hv1; have HB1 := Go.Lib.hid hb1; clear hv1 hb1)
    | (go_at_call 15; refine (prefsOf_any s _ hs (HE.out.below HB1.out)).mono ?_; rintro e w2 ⟨v2, rfl, hv2, hb2⟩; have HV2 := Go.Lib.hid hv2; have HB2 := Go.Lib.hid hb2; clear hv2 hb2)
    | (go_at_call 16; refine (samePrefixes_eqA _ _ _ _ (HV1.out.below HB2.out) HV2.out).mono ?_; rintro e w3 ⟨rfl, hb3⟩))
  go_ret
  exact ⟨rfl, (HB1.out.trans (HB2.out.mono HB1.out.size)).trans (hb3.mono (by have := HB1.out.size; have := HB2.out.size; omega))⟩

set_option maxRecDepth 100000 in
theorem graphRead_contract (H : Type) (enc : TypeId × Value → H) (W : World) (base : Nat) (args : Array Value) (ds gs : List (DataW H)) (before : List MemPlace)
    (hval0 : ∀ (j : Nat) t v, Tryd.f5.params[j]? = some t → args[j]? = some v → Value.okWide Tryd.prog W .any base t v)
    (hW : DataW.Whole enc Tryd.prog Tryd.f5.params.toList Rows.graphReadSpec.vars false W args.toList ds gs before) (hsmall : Rows.uptoSmall H (ds ++ gs) = true) (hE : Env W) :
    Calls Tryd.prog 5 args W fun e W' => ∃ v, e = .returned v ∧ Rows.graphReadSpec.post enc Tryd.prog Tryd.f5 false true false false W args v W' := by
  have hval : ∀ (j : Nat) t v, Tryd.f5.params[j]? = some t → args[j]? = some v → Value.okWide Tryd.prog W .any base t v := hval0
  have hW' := hW
  obtain ⟨p, q, hA0, hV, rfl, hfz, _⟩ := hW
  have hA : DataW.TrodAll enc Tryd.prog W 0 (fun _ => true) true Tryd.f5.params.toList args.toList ds p := hA0
  rw [Tryd.params5] at hA hval
  obtain ⟨rfl, rfl⟩ := trodVars_none hV
  obtain ⟨v0, d0, rfl, rfl, h0⟩ := trodAll_one hA
  obtain ⟨x0, rfl, rfl, rfl, hx0⟩ := Go.ChangeMaps.open_string Tryd.underlying9 (hval 0 9 v0 rfl rfl) h0
  have hsm := hsmall
  simp only [Rows.uptoSmall, decide_eq_true_eq, List.append_nil, Rows.uptoBulkAll, Rows.uptoBulk] at hsm
  have hz0 : x0.size ≤ 1048576 := by rw [← size_toList]; omega
  refine (graphRead_walk x0 W hx0 hz0 hE).mono fun e W' ⟨he, hb⟩ => ?_
  subst he
  exact ⟨_, rfl, law_post hW' laidOut (by rw [Tryd.params5]; intro t ht; simp at ht; subst ht; exact ⟨by kernel_rfl, of_decide_eq_true (by kernel_rfl)⟩) rfl rfl Tryd.underlying4 rfl rfl rfl hb⟩

theorem graphRead_reads (os : Os) {H : Type} (enc : TypeId × Value → H) : ∃ places, DataW.whole enc Tryd.prog ((laidW7 os).forCall (fun _ _ => 0) ⟨#[], #[.string ⟨#[]⟩], []⟩).memory Tryd.f5.params.toList Rows.graphReadSpec.vars false (#[.string ⟨#[]⟩] : Array Value).toList 8 = some ([.lit (.string [])], [], places) :=
  ⟨[], by kernel_rfl⟩
set_option maxRecDepth 100000 in
theorem graphRead_lifted (os : Os) (started : os.Started) (H : Type) (enc : TypeId × Value → H) (F : Stop.Interp) :
    ReturnsInHanded {} Tryd.checked os 5 .any ((Rows.OpenSpec.upto Rows.graphReadSpec).preRow enc Tryd.prog Tryd.f5 Rows.graphReadUptoRow.domain false Rows.graphReadUptoRow.laid) (((Rows.OpenSpec.upto Rows.graphReadSpec).at F).post enc Tryd.prog Tryd.f5 false true false false) := by
  obtain ⟨places, hx⟩ := graphRead_reads os enc
  refine returnsInHanded_of_row (C := Tryd.checked) (s := Rows.OpenSpec.upto Rows.graphReadSpec) own started (by kernel_rfl) Tryd.func5
    (witness_row_at (enc := enc) (C := Tryd.checked) false (laidW7 os) #[.string ⟨#[]⟩] rfl (by kernel_rfl) (by kernel_rfl) (by kernel_rfl)
      (OpenSpec.preRow_of_cond 8 hx (by kernel_rfl) (fun k hk => by cases hk; kernel_rfl) (by kernel_rfl) (laid_met7 os _))) ?_
  intro W base args ds gs before hval hW _ hcond _ hL hsh _
  exact graphRead_contract H enc W base args ds gs before hval hW (hcond _ rfl) (env_of hL hsh)
theorem graphRead_said : Rows.GraphReadUptoSaid :=
  OpenClaim.holds_of_cond 5 Tryd.f5 rfl rfl rfl rfl rfl rfl rfl ⟨rfl, rfl, rfl, rfl, rfl⟩ rfl rfl rfl rfl rfl (by kernel_rfl) Tryd.func5 (by kernel_rfl)
    (of_decide_eq_true (by kernel_rfl)) (by unfold Func.isWrapper; first | (rw [if_pos (by decide +kernel)]; kernel_rfl) | (rw [if_neg (by decide +kernel)]; exact ⟨rfl, rfl⟩))
    (fun os started H enc _ F => by rw [OpenClaim.pre_eq_preRow]; exact graphRead_lifted os started H enc F)
theorem graphRead_plain (f : FuncId) (fn : Func) (hf : Tryd.pinned.checked.prog.funcNamed "tollbar/tollbarlaw.GraphRead" = some f) (hfn : Tryd.pinned.checked.prog.funcs[f]? = some fn) :
    true = Tryd.pinned.checked.prog.looks [] ∧ ∀ (j : Nat) t, fn.params[j]? = some t → Tryd.pinned.checked.prog.wantsStandIn t = false := by
  obtain rfl : f = 5 := Option.some.inj ((show Tryd.prog.funcNamed "tollbar/tollbarlaw.GraphRead" = some 5 by kernel_rfl).symm.trans hf) |>.symm
  obtain rfl : fn = Tryd.f5 := (Option.some.inj (Tryd.func5.symm.trans hfn)).symm
  refine ⟨by kernel_rfl, fun j t ht => ?_⟩
  rw [Tryd.params5] at ht
  have hm := Array.mem_of_getElem? ht
  simp at hm
  subst hm
  exact (show Tryd.prog.wantsStandIn 9 = false by kernel_rfl)
theorem graphRead_holds : Rows.GraphReadUptoCardSaid :=
  Claim7.holds_tied_plain_at .later [] _ _ _ _ graphRead_said (fun _ h => by cases h) (by kernel_rfl) (fun _ h => by cases h) graphReadUpto_row_tie rfl ⟨rfl, rfl⟩ (by kernel_rfl) rfl graphRead_plain (by kernel_rfl)
#print axioms graphRead_holds
end Go.Proofs.YtlmcipnogodnfaaDoor
