/-
  Proved here: the law StoreDecodes returns true for every slice of bytes, with no condition.
-/
import Derived.Test.YtbpamllmbdcdfaaDeH
import Derived.Test.YtbpamllmbdcdfaaStR
import Derived.Test.YtbpamllmbdcdfaaRow2
namespace Go.Proofs.Ytbpamllmbdcdfaa
open Go.RowKit Go.ChangeShapes Go.WideShapes Go.ChangeAt Go.Deep

set_option maxRecDepth 100000 in
set_option maxHeartbeats 1000000 in
theorem storeDecodes_walk (v : Value) (xs : List UInt8) (w : World) (h : Sl byteR w v xs) (hz : xs.length * 1 ≤ 140737488351232) :
    Calls Try.prog 14 #[v] w fun e w' => e = .returned (.bool true) ∧ Below w.heap.size w w' := by
  obtain ⟨A, c, rfl⟩ := h.form
  have H := Go.Lib.hid h
  have HN := Go.Lib.hid (OwR.nil (w := w) byteR 5 (Nat.le_refl _))
  have HZ := Go.Lib.hid (show ([] : List UInt8).length + xs.length ≤ 140737488355328 by simp; omega)
  clear h
  go_enter Try.func14, Try.ntmps14
  go_wp2_with (at_builtin; refine wpList_bytes (base := w.heap.size) rfl _ _ rfl HN.out H.out rfl rfl HZ.out ?_; intro v1 w1 ho1 hg1)
  rw [List.nil_append] at ho1
  have HB1 := Go.Lib.hid (hg1.below (Nat.le_refl _) (fun k e => by cases e))
  clear hg1
  refine (decode_any _ _ _ (ho1.sl (by decide))).mono ?_
  rintro e w2 ⟨v2, rfl, ho2, hb2⟩
  have HB2 := Go.Lib.hid (HB1.out.trans (hb2.mono HB1.out.size))
  have HS2 := Go.Lib.hid (ho2.sl (by decide))
  have HPO := Go.Lib.hid (storeOf_any _ xs _ (H.out.below HB2.out))
  clear hb2 ho2 ho1
  obtain ⟨r, hr⟩ : ∃ r, decS xs = r := ⟨_, rfl⟩
  rw [hr] at HS2 ⊢
  unfold DecPost at HPO
  rw [hr] at HPO
  clear hr
  go_wp2_with fail
  refine HPO.out.mono ?_
  rintro e w3 ⟨v3, rfl, ho3, hb3⟩
  have HB3 := Go.Lib.hid (HB2.out.trans (hb3.mono HB2.out.size))
  have HSM := Go.Lib.hid (sameEntries_eq _ _ _ _ (HS2.out.below hb3) (ho3.sl (by decide)))
  clear hb3 ho3
  go_wp2_with fail
  refine HSM.out.mono ?_
  rintro e w4 ⟨rfl, hb4⟩
  have HB4 := Go.Lib.hid (HB3.out.trans (hb4.mono HB3.out.size))
  clear hb4
  go_wp2_with fail
  go_ret
  exact ⟨rfl, HB4.out⟩

set_option maxRecDepth 100000 in
theorem storeDecodes_lifted (os : Os) (started : os.Started) (H : Type) (enc : TypeId × Value → H) :
    ReturnsInHanded {} Try.checked os 14 .any (Rows.storeDecodesSpec.pre6 enc Try.prog Try.f14 Rows.storeDecodesRow.domain false) (Rows.storeDecodesSpec.post enc Try.prog Try.f14 false true false false) := by
  refine returnsInHanded_of_change_sized (C := Try.checked) own started (by kernel_rfl) Try.func14
    (ChangeSpec.witness6 (enc := enc) (C := Try.checked) false ⟨#[], #[.slice none 0 0], []⟩ 8 (by kernel_rfl) (by kernel_rfl) (by kernel_rfl) (by kernel_rfl)) ?_
  intro W base args ds gs before hval0 hW _ hz0 _
  have hval : ∀ (j : Nat) t v, Try.f14.params[j]? = some t → args[j]? = some v → Value.okWide Try.prog W .any base t v := hval0
  have hW' := hW
  obtain ⟨p, q, hA0, hV, rfl, hfz, _⟩ := hW
  have hA : DataW.TrodAll enc Try.prog W 0 (fun _ => true) true Try.f14.params.toList args.toList ds p := hA0
  rw [Try.params14] at hA hval
  obtain ⟨rfl, rfl⟩ := trodVars_none hV
  obtain ⟨v0, d0, rfl, rfl, h0⟩ := trodAll_one hA
  obtain ⟨x0, hx0, hs0⟩ := open_sl_sized Try.underlying45 opens_bytes (hval 0 45 v0 rfl rfl) h0 (j := 0) hz0 (by rw [Try.params14]; rfl) rfl (m := 1) (by kernel_rfl)
  refine (storeDecodes_walk v0 x0 W hx0 hs0).mono fun e W' ⟨he, hb⟩ => ?_
  subst he
  exact ⟨_, rfl, law_post hW' laidOut (by rw [Try.params14]; intro t ht; simp at ht; subst ht; exact ⟨by kernel_rfl, of_decide_eq_true (by kernel_rfl)⟩) rfl rfl Try.underlying4 rfl rfl rfl hb⟩

theorem storeDecodes_holds : Rows.StoreDecodesSaid :=
  OpenClaim.holds_of_wide 14 Try.f14 rfl rfl rfl rfl rfl rfl rfl ⟨rfl, rfl, rfl, rfl, rfl⟩ rfl rfl rfl rfl rfl (by kernel_rfl) Try.func14 (by kernel_rfl)
    (of_decide_eq_true (by kernel_rfl)) (by unfold Func.isWrapper; rw [if_neg (of_decide_eq_false (by kernel_rfl))]; exact ⟨rfl, rfl⟩)
    (fun os started H enc _ => storeDecodes_lifted os started H enc)
#print axioms storeDecodes_holds
end Go.Proofs.Ytbpamllmbdcdfaa
