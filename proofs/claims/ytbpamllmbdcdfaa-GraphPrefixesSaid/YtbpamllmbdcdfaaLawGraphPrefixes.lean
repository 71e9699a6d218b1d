/-
  Proved here: the law GraphPrefixes returns true for every list of prefixes, with no condition.
-/
import Derived.Test.YtbpamllmbdcdfaaGrB
namespace Go.Proofs.Ytbpamllmbdcdfaa
open Go.RowKit Go.ChangeShapes Go.WideShapes Go.ChangeAt

theorem opens_pref : Opens Try.prog prefR 52 :=
  ⟨by kernel_rfl, fun H enc W fuel cs x h => by
    obtain ⟨hlen, hf⟩ := trod_fields Try.underlying52 h
    obtain ⟨a0, h0⟩ := hf _ intR 0 _ rfl (opens_int Try.underlying3 (by kernel_rfl))
    obtain ⟨a1, h1⟩ := hf _ intR 1 _ rfl (opens_int Try.underlying3 (by kernel_rfl))
    have hl : cs.length = 2 := hlen.trans (by kernel_rfl)
    match cs, hl with
    | [c0, c1], _ =>
      obtain ⟨e0, w0⟩ := h0
      obtain ⟨e1, w1⟩ := h1
      simp [intR, flatR] at e0 e1
      subst e0 e1
      exact ⟨⟨a0, a1⟩, rfl, w0, w1⟩⟩
theorem opens_prefs : Opens Try.prog (slR prefR) 32 := opens_slice Try.underlying32 (by kernel_rfl) (by decide) opens_pref

set_option maxHeartbeats 400000 in
theorem graphPrefixes_walk (v : Value) (xs : List Prefix) (w : World) (h : Sl prefR w v xs) :
    Calls Try.prog 6 #[v] w fun e w' => e = .returned (.bool true) ∧ Below w.heap.size w w' := by
  have H := Go.Lib.hid h
  clear h
  go_enter Try.func6, Try.ntmps6
  go_wp2_with fail
  refine (checkPrefs_any _ _ _ H.out).mono ?_
  rintro e w1 ⟨rfl, hb1⟩
  go_wp2_with fail
  refine (prefsFault_any _ _ _ (H.out.below hb1)).mono ?_
  rintro e w2 ⟨rfl, hb2⟩
  go_wp2_with fail
  go_ret
  exact ⟨eb (by simp), hb1.trans (hb2.mono hb1.size)⟩

set_option maxRecDepth 100000 in
theorem graphPrefixes_lifted (os : Os) (started : os.Started) (H : Type) (enc : TypeId × Value → H) :
    ReturnsInHanded {} Try.checked os 6 .any (Rows.graphPrefixesSpec.pre6 enc Try.prog Try.f6 Rows.graphPrefixesRow.domain false) (Rows.graphPrefixesSpec.post enc Try.prog Try.f6 false true false false) := by
  refine returnsInHanded_of_change (C := Try.checked) own started (by kernel_rfl) Try.func6
    (ChangeSpec.witness6 (enc := enc) (C := Try.checked) false ⟨#[], #[.slice none 0 0], []⟩ 8 (by kernel_rfl) (by kernel_rfl) (by kernel_rfl) (by kernel_rfl)) ?_
  intro W base args ds gs before hval0 hW _ _
  have hval : ∀ (j : Nat) t v, Try.f6.params[j]? = some t → args[j]? = some v → Value.okWide Try.prog W .any base t v := hval0
  have hW' := hW
  obtain ⟨p, q, hA0, hV, rfl, hfz, _⟩ := hW
  have hA : DataW.TrodAll enc Try.prog W 0 (fun _ => true) true Try.f6.params.toList args.toList ds p := hA0
  rw [Try.params6] at hA hval
  obtain ⟨rfl, rfl⟩ := trodVars_none hV
  obtain ⟨v0, d0, rfl, rfl, h0⟩ := trodAll_one hA
  obtain ⟨x0, hx0⟩ := open_sl Try.underlying32 opens_prefs (hval 0 32 v0 rfl rfl) h0
  refine (graphPrefixes_walk v0 x0 W hx0).mono fun e W' ⟨he, hb⟩ => ?_
  subst he
  exact ⟨_, rfl, law_post hW' laidOut (by rw [Try.params6]; intro t ht; simp at ht; subst ht; exact ⟨by kernel_rfl, of_decide_eq_true (by kernel_rfl)⟩) rfl rfl Try.underlying4 rfl rfl rfl hb⟩

theorem graphPrefixes_holds : Rows.GraphPrefixesSaid :=
  OpenClaim.holds_of_wide 6 Try.f6 rfl rfl rfl rfl rfl rfl rfl ⟨rfl, rfl, rfl, rfl, rfl⟩ rfl rfl rfl rfl rfl (by kernel_rfl) Try.func6 (by kernel_rfl)
    (of_decide_eq_true (by kernel_rfl)) (by unfold Func.isWrapper; rw [if_neg (of_decide_eq_false (by kernel_rfl))]; exact ⟨rfl, rfl⟩)
    (fun os started H enc _ => graphPrefixes_lifted os started H enc)
#print axioms graphPrefixes_holds
end Go.Proofs.Ytbpamllmbdcdfaa
