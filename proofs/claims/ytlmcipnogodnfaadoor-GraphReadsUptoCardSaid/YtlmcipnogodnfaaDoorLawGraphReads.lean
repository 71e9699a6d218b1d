/-
  Proved here: the law GraphReads returns true for every string, where what it reads is of bulk at most 1048576; the listed package-level variables hold what the program's text lays.
-/
import Derived.Test.YtlmcipnogodnfaaDoorDoF
import Derived.Test.YtlmcipnogodnfaaDoorDoW
namespace Go.Proofs.YtlmcipnogodnfaaDoor
open Go.RowKit Go.ChangeShapes Go.WideShapes Go.ChangeAt

set_option maxRecDepth 50000 in
set_option maxHeartbeats 1000000 in
theorem sameAdj_eqA (d : Bool) (v1 v2 : Value) (xs : List Side) (w : World) (h1 : Sl sideR w v1 xs) (h2 : Sl sideR w v2 xs) :
    Calls Tryd.prog 19 #[.agg #[.bool d, v1], .agg #[.bool d, v2]] w fun e w' => e = .returned (.bool true) ∧ Below w.heap.size w w' := by
  have hl := h1.len_le
  have q2 := fun a b => guard_sideA .neq a b
  obtain ⟨A1, c1, rfl⟩ := h1.form
  obtain ⟨A2, c2, rfl⟩ := h2.form
  have H1 := Go.Lib.hid h1
  have H2 := Go.Lib.hid h2
  clear h1 h2
  go_enter Tryd.func19, Tryd.ntmps19
  go_wp2_with fail
  go_loopw [5] (fun s5 wr => ∃ k : Nat, k ≤ xs.length ∧ s5 = .int .i64 k ∧ Below w.heap.size w wr ∧ wr.cell? ⟨w.heap.size, 1, none⟩ = some (.slice A1 xs.length c1) ∧ wr.cell? ⟨w.heap.size + 1, 1, none⟩ = some (.slice A2 xs.length c2)) (fun s5 _ => xs.length - (intOf s5).toNat)
  case atStart =>
    refine ⟨0, Nat.zero_le _, rfl, ((Below.refl _ _).alloc (Nat.le_refl _) _).alloc (by simp) _, ?_, ?_⟩
    · rw [World.cell?_alloc_lt _ _ _ (by simp), World.cell?_alloc_at _ _ _ _ rfl]; rfl
    · rw [World.cell?_alloc_at _ _ _ _ (by simp)]; rfl
  case round =>
    obtain ⟨k, hk, rfl, hB, x1, x2⟩ := hrel
    have HB := Go.Lib.hid hB
    by_cases hlt : k < xs.length
    · obtain ⟨b1, o1, rfl, hb1⟩ := H1.out.at_ hlt
      obtain ⟨b2, o2, rfl, hb2⟩ := H2.out.at_ hlt
      obtain ⟨f1, f2, _⟩ := (H1.out.below hB).side hlt
      obtain ⟨g1, g2, _⟩ := (H2.out.below hB).side hlt
      have r0 : (0 : Int) ≤ (k : Int) := Int.natCast_nonneg _
      have r1 : (k : Int) < (xs.length : Int) := by omega
      have q3 := neq_sideA xs[k].node xs[k].cost xs[k].node xs[k].cost
      simp only [beq_self_eq_true, Bool.and_self, Bool.not_true] at q3
      clear hB
      go_wp2_with fail
      go_quiet (fail)
      go_wp2_with fail
      go_roundw
      case rel => exact ⟨k + 1, by omega, by go_num, bDrewN HB.out _, x1, x2⟩
      case measure => simp [intOf]; omega
    · clear hB
      go_wp2_with fail
      go_ret
      exact ⟨rfl, HB.out⟩

set_option maxRecDepth 50000 in
set_option maxHeartbeats 400000 in
theorem graphReads_walk (s : ByteArray) (w : World) (_ : s.size ≤ maxLen) (hz : s.size ≤ 1048576) (hE : Env w) :
    Calls Tryd.prog 6 #[.string s] w fun e w' => e = .returned (.bool true) ∧ Below w.heap.size w w' := by
  have HE := Go.Lib.hid hE
  have hs : s.size < 4294967281 := by omega
  clear hE hz
  go_enter Tryd.func6, Tryd.ntmps6
  go_wp2_with (first
    | (go_at_call 17; refine (readAdj_any s _ hs HE.out).mono ?_; rintro e w1 ⟨v1, rfl, hv1, hb1⟩; obtain ⟨A1, c1, rfl⟩ := hv1.form; have HV1 := Go.Lib.hid hv1; have HB1 := Go.Lib.hid hb1; clear hv1 hb1)
    | (go_at_call 18; refine (adjOf_any s _ hs (HE.out.below (HB1.out.alloc HB1.out.size _))).mono ?_; rintro e w2 ⟨v2, rfl, hv2, hb2⟩; obtain ⟨A2, c2, rfl⟩ := hv2.form; obtain ⟨hA, hN, _, hS⟩ := pastAlloc hb2; have n0 : w2.cell? ⟨w1.heap.size, 0, none⟩ = some (.bool (readAdj s.data.toList).1) := hN 0; have n1 : w2.cell? ⟨w1.heap.size, 1, none⟩ = some (.slice A1 (readAdj s.data.toList).2.1.length c1) := hN 1; have HV2 := Go.Lib.hid hv2; have HB2 := Go.Lib.hid hA; clear hv2 hb2 hA hN)
    | (go_at_call 19; refine (sameAdj_eqA _ _ _ _ _ ((HV1.out.below HB2.out).below ((Below.refl _ _).alloc (Nat.le_refl _) _)) (HV2.out.below ((Below.refl _ _).alloc (Nat.le_refl _) _))).mono ?_; rintro e w3 ⟨rfl, hb3⟩))
  all_goals
    go_ret
    have hz1 := HB1.out.size
    have hz2 := HB2.out.size
    exact ⟨rfl, (((HB1.out.trans (HB2.out.mono hz1)).alloc (by omega) _).trans (hb3.mono (by simp; omega)))⟩

set_option maxRecDepth 100000 in
theorem graphReads_contract (H : Type) (enc : TypeId × Value → H) (W : World) (base : Nat) (args : Array Value) (ds gs : List (DataW H)) (before : List MemPlace)
    (hval0 : ∀ (j : Nat) t v, Tryd.f6.params[j]? = some t → args[j]? = some v → Value.okWide Tryd.prog W .any base t v)
    (hW : DataW.Whole enc Tryd.prog Tryd.f6.params.toList Rows.graphReadsSpec.vars false W args.toList ds gs before) (hsmall : Rows.uptoSmall H (ds ++ gs) = true) (hE : Env W) :
    Calls Tryd.prog 6 args W fun e W' => ∃ v, e = .returned v ∧ Rows.graphReadsSpec.post enc Tryd.prog Tryd.f6 false true false false W args v W' := by
  have hval : ∀ (j : Nat) t v, Tryd.f6.params[j]? = some t → args[j]? = some v → Value.okWide Tryd.prog W .any base t v := hval0
  have hW' := hW
  obtain ⟨p, q, hA0, hV, rfl, hfz, _⟩ := hW
  have hA : DataW.TrodAll enc Tryd.prog W 0 (fun _ => true) true Tryd.f6.params.toList args.toList ds p := hA0
  rw [Tryd.params6] at hA hval
  obtain ⟨rfl, rfl⟩ := trodVars_none hV
  obtain ⟨v0, d0, rfl, rfl, h0⟩ := trodAll_one hA
  obtain ⟨x0, rfl, rfl, rfl, hx0⟩ := Go.ChangeMaps.open_string Tryd.underlying9 (hval 0 9 v0 rfl rfl) h0
  have hsm := hsmall
  simp only [Rows.uptoSmall, decide_eq_true_eq, List.append_nil, Rows.uptoBulkAll, Rows.uptoBulk] at hsm
  have hz0 : x0.size ≤ 1048576 := by rw [← size_toList]; omega
  refine (graphReads_walk x0 W hx0 hz0 hE).mono fun e W' ⟨he, hb⟩ => ?_
  subst he
  exact ⟨_, rfl, law_post hW' laidOut (by rw [Tryd.params6]; intro t ht; simp at ht; subst ht; exact ⟨by kernel_rfl, of_decide_eq_true (by kernel_rfl)⟩) rfl rfl Tryd.underlying4 rfl rfl rfl hb⟩

theorem graphReads_reads (os : Os) {H : Type} (enc : TypeId × Value → H) : ∃ places, DataW.whole enc Tryd.prog ((laidW7 os).forCall (fun _ _ => 0) ⟨#[], #[.string ⟨#[]⟩], []⟩).memory Tryd.f6.params.toList Rows.graphReadsSpec.vars false (#[.string ⟨#[]⟩] : Array Value).toList 8 = some ([.lit (.string [])], [], places) :=
  ⟨[], by kernel_rfl⟩
set_option maxRecDepth 100000 in
theorem graphReads_lifted (os : Os) (started : os.Started) (H : Type) (enc : TypeId × Value → H) (F : Stop.Interp) :
    ReturnsInHanded {} Tryd.checked os 6 .any ((Rows.OpenSpec.upto Rows.graphReadsSpec).preRow enc Tryd.prog Tryd.f6 Rows.graphReadsUptoRow.domain false Rows.graphReadsUptoRow.laid) (((Rows.OpenSpec.upto Rows.graphReadsSpec).at F).post enc Tryd.prog Tryd.f6 false true false false) := by
  obtain ⟨places, hx⟩ := graphReads_reads os enc
  refine returnsInHanded_of_row (C := Tryd.checked) (s := Rows.OpenSpec.upto Rows.graphReadsSpec) own started (by kernel_rfl) Tryd.func6
    (witness_row_at (enc := enc) (C := Tryd.checked) false (laidW7 os) #[.string ⟨#[]⟩] rfl (by kernel_rfl) (by kernel_rfl) (by kernel_rfl)
      (OpenSpec.preRow_of_cond 8 hx (by kernel_rfl) (fun k hk => by cases hk; kernel_rfl) (by kernel_rfl) (laid_met7 os _))) ?_
  intro W base args ds gs before hval hW _ hcond _ hL hsh _
  exact graphReads_contract H enc W base args ds gs before hval hW (hcond _ rfl) (env_of hL hsh)
theorem graphReads_said : Rows.GraphReadsUptoSaid :=
  OpenClaim.holds_of_cond 6 Tryd.f6 rfl rfl rfl rfl rfl rfl rfl ⟨rfl, rfl, rfl, rfl, rfl⟩ rfl rfl rfl rfl rfl (by kernel_rfl) Tryd.func6 (by kernel_rfl)
    (of_decide_eq_true (by kernel_rfl)) (by unfold Func.isWrapper; first | (rw [if_pos (by decide +kernel)]; kernel_rfl) | (rw [if_neg (by decide +kernel)]; exact ⟨rfl, rfl⟩))
    (fun os started H enc _ F => by rw [OpenClaim.pre_eq_preRow]; exact graphReads_lifted os started H enc F)
theorem graphReads_plain (f : FuncId) (fn : Func) (hf : Tryd.pinned.checked.prog.funcNamed "tollbar/tollbarlaw.GraphReads" = some f) (hfn : Tryd.pinned.checked.prog.funcs[f]? = some fn) :
    true = Tryd.pinned.checked.prog.looks [] ∧ ∀ (j : Nat) t, fn.params[j]? = some t → Tryd.pinned.checked.prog.wantsStandIn t = false := by
  obtain rfl : f = 6 := Option.some.inj ((show Tryd.prog.funcNamed "tollbar/tollbarlaw.GraphReads" = some 6 by kernel_rfl).symm.trans hf) |>.symm
  obtain rfl : fn = Tryd.f6 := (Option.some.inj (Tryd.func6.symm.trans hfn)).symm
  refine ⟨by kernel_rfl, fun j t ht => ?_⟩
  rw [Tryd.params6] at ht
  have hm := Array.mem_of_getElem? ht
  simp at hm
  subst hm
  exact (show Tryd.prog.wantsStandIn 9 = false by kernel_rfl)
theorem graphReads_holds : Rows.GraphReadsUptoCardSaid :=
  Claim7.holds_tied_plain_at .later [] _ _ _ _ graphReads_said (fun _ h => by cases h) (by kernel_rfl) (fun _ h => by cases h) graphReadsUpto_row_tie rfl ⟨rfl, rfl⟩ (by kernel_rfl) rfl graphReads_plain (by kernel_rfl)
#print axioms graphReads_holds
end Go.Proofs.YtlmcipnogodnfaaDoor
