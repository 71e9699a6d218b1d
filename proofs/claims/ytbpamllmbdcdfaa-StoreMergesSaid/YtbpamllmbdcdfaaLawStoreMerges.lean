/-
  Proved here: the law StoreMerges returns true for every two lists of entries, with no condition.
-/
import Derived.Test.YtbpamllmbdcdfaaStN
import Derived.Test.YtbpamllmbdcdfaaRow2
namespace Go.Proofs.Ytbpamllmbdcdfaa
open Go.RowKit Go.ChangeShapes Go.WideShapes Go.ChangeAt Go.Deep

set_option maxRecDepth 100000 in
set_option maxHeartbeats 1000000 in
theorem storeMerges_walk (v : Value) (xs : List Entry) (u : Value) (ys : List Entry) (w : World) (h : Sl entR w v xs) (hz : xs.length * 48 ≤ 140737488351232) (h2 : Sl entR w u ys) (_ : ys.length * 48 ≤ 140737488351232) :
    Calls Try.prog 17 #[v, u] w fun e w' => e = .returned (.bool true) ∧ Below w.heap.size w w' := by
  have hwfy := h2.wfs
  have hwfx := h.wfs
  have HWF := Go.Lib.hid (And.intro hwfy hwfx)
  obtain ⟨A, c, rfl⟩ := h.form
  have H := Go.Lib.hid h
  have H2 := Go.Lib.hid h2
  have HN := Go.Lib.hid (OwR.nil (w := w) entR 39 (Nat.le_refl _))
  have hb0 : ([] : List Entry).length + xs.length ≤ maxLen := by unfold maxLen; simp; omega
  have hb1 : (([] : List Entry).length + xs.length) * 48 ≤ 140737488355328 := by simp; omega
  have HB0 := Go.Lib.hid (And.intro hb0 hb1)
  clear h h2 hb0 hb1 hwfy hwfx
  go_enter Try.func17, Try.ntmps17
  go_wp2_with (at_builtin; refine wpList_own_append (base := w.heap.size) rfl _ _ rfl elt_ent HN.out H.out rfl rfl (fun _ _ h => h) HB0.out.1 HB0.out.2 ?_; intro v1 w1 ho1 hg1 hb1)
  rw [List.nil_append] at ho1
  have HB1 := Go.Lib.hid (HN.out.below_grown (Below.refl _ _) hg1)
  clear hg1 hb1
  refine (merge_any _ _ xs ys _ (ho1.sl (by decide)) (H2.out.below HB1.out) HWF.out.1 HWF.out.2).mono ?_
  rintro e w2 ⟨v2, u2, rfl, ht2, hb2⟩
  have HB2 := Go.Lib.hid (HB1.out.trans (hb2.mono HB1.out.size))
  have HS2 := Go.Lib.hid (ht2.out.sl (by decide))
  have HK2 := Go.Lib.hid (ht2.keys.sl (by decide))
  have HPO := Go.Lib.hid (mergedOf_any _ _ xs ys _ (H.out.below HB2.out) (H2.out.below HB2.out))
  clear hb2 ht2 ho1
  obtain ⟨r, hr⟩ : ∃ r, mergeS aboveE xs ys = r := ⟨_, rfl⟩
  rw [hr] at HS2 HK2 HPO ⊢
  clear hr
  go_wp2_with fail
  refine HPO.out.mono ?_
  rintro e w3 ⟨v3, u3, rfl, ht3, hb3⟩
  have HB3 := Go.Lib.hid (HB2.out.trans (hb3.mono HB2.out.size))
  have HK3 := Go.Lib.hid (ht3.keys.sl (by decide))
  have HK2' := Go.Lib.hid (HK2.out.below hb3)
  have HSM := Go.Lib.hid (sameEntries_eq _ _ _ _ (HS2.out.below hb3) (ht3.out.sl (by decide)))
  clear hb3 ht3
  go_wp2_with fail
  refine HSM.out.mono ?_
  rintro e w4 ⟨rfl, hb4⟩
  have HST := Go.Lib.hid (sameTexts_eq _ _ _ _ (HK2'.out.below hb4) (HK3.out.below hb4))
  have HB4 := Go.Lib.hid (HB3.out.trans (hb4.mono HB3.out.size))
  clear hb4
  go_wp2_with fail
  refine HST.out.mono ?_
  rintro e w5 ⟨rfl, hb5⟩
  have HB5 := Go.Lib.hid (HB4.out.trans (hb5.mono HB4.out.size))
  clear hb5
  go_wp2_with fail
  go_ret
  exact ⟨rfl, HB5.out⟩

set_option maxRecDepth 100000 in
theorem storeMerges_lifted (os : Os) (started : os.Started) (H : Type) (enc : TypeId × Value → H) :
    ReturnsInHanded {} Try.checked os 17 .any (Rows.storeMergesSpec.pre6 enc Try.prog Try.f17 Rows.storeMergesRow.domain false) (Rows.storeMergesSpec.post enc Try.prog Try.f17 false true false false) := by
  refine returnsInHanded_of_change_sized (C := Try.checked) own started (by kernel_rfl) Try.func17
    (ChangeSpec.witness6 (enc := enc) (C := Try.checked) false ⟨#[], #[.slice none 0 0, .slice none 0 0], []⟩ 8 (by kernel_rfl) (by kernel_rfl) (by kernel_rfl) (by kernel_rfl)) ?_
  intro W base args ds gs before hval0 hW _ hz0 _
  have hval : ∀ (j : Nat) t v, Try.f17.params[j]? = some t → args[j]? = some v → Value.okWide Try.prog W .any base t v := hval0
  have hW' := hW
  obtain ⟨p, q, hA0, hV, rfl, hfz, _⟩ := hW
  have hA : DataW.TrodAll enc Try.prog W 0 (fun _ => true) true Try.f17.params.toList args.toList ds p := hA0
  rw [Try.params17] at hA hval
  obtain ⟨rfl, rfl⟩ := trodVars_none hV
  obtain ⟨v0, v1, d0, d1, p0, p1, rfl, rfl, rfl, h0, h1⟩ := trodAll_two hA
  obtain ⟨x0, hx0, hs0⟩ := open_sl_sized Try.underlying35 opens_ents (hval 0 35 v0 rfl rfl) h0 (j := 0) hz0 (by rw [Try.params17]; rfl) rfl (m := 48) (by kernel_rfl)
  obtain ⟨x1, hx1, hs1⟩ := open_sl_sized Try.underlying35 opens_ents (hval 1 35 v1 rfl rfl) h1 (j := 1) hz0 (by rw [Try.params17]; rfl) rfl (m := 48) (by kernel_rfl)
  refine (storeMerges_walk v0 x0 v1 x1 W hx0 hs0 hx1 hs1).mono fun e W' ⟨he, hb⟩ => ?_
  subst he
  exact ⟨_, rfl, law_post hW' laidOut (by rw [Try.params17]; intro t ht; simp at ht; subst ht; exact ⟨by kernel_rfl, of_decide_eq_true (by kernel_rfl)⟩) rfl rfl Try.underlying4 rfl rfl rfl hb⟩

theorem storeMerges_holds : Rows.StoreMergesSaid :=
  OpenClaim.holds_of_wide 17 Try.f17 rfl rfl rfl rfl rfl rfl rfl ⟨rfl, rfl, rfl, rfl, rfl⟩ rfl rfl rfl rfl rfl (by kernel_rfl) Try.func17 (by kernel_rfl)
    (of_decide_eq_true (by kernel_rfl)) (by unfold Func.isWrapper; rw [if_neg (of_decide_eq_false (by kernel_rfl))]; exact ⟨rfl, rfl⟩)
    (fun os started H enc _ => storeMerges_lifted os started H enc)
#print axioms storeMerges_holds
end Go.Proofs.Ytbpamllmbdcdfaa
