/-
  Proved here: the law StorePuts returns true for every list of entries, every node, key and value, with no condition.
-/
import Derived.Test.YtbpamllmbdcdfaaStS
import Derived.Test.YtbpamllmbdcdfaaStR
import Derived.Test.YtbpamllmbdcdfaaRow2
namespace Go.Proofs.Ytbpamllmbdcdfaa
open Go.RowKit Go.ChangeShapes Go.WideShapes Go.ChangeAt Go.Deep

set_option maxRecDepth 100000 in
set_option maxHeartbeats 1000000 in
theorem storePuts_walk (v : Value) (xs : List Entry) (node : Int) (key value : ByteArray) (w : World) (h : Sl entR w v xs) (hz : xs.length * 48 ≤ 140737488351232) (hn : inR node) (hk : key.size ≤ maxLen) (hv : value.size ≤ maxLen) :
    Calls Try.prog 16 #[v, .int .i64 node, .string key, .string value] w fun e w' => e = .returned (.bool true) ∧ Below w.heap.size w w' := by
  obtain ⟨A, c, rfl⟩ := h.form
  have H := Go.Lib.hid h
  have HN := Go.Lib.hid (OwR.nil (w := w) entR 39 (Nat.le_refl _))
  have hb0 : ([] : List Entry).length + xs.length ≤ maxLen := by unfold maxLen; simp; omega
  have hb1 : (([] : List Entry).length + xs.length) * 48 ≤ 140737488355328 := by simp; omega
  have HB0 := Go.Lib.hid (And.intro hb0 hb1)
  clear h hb0 hb1
  go_enter Try.func16, Try.ntmps16
  go_wp2_with (at_builtin; refine wpList_own_append (base := w.heap.size) rfl _ _ rfl elt_ent HN.out H.out rfl rfl (fun _ _ h => h) HB0.out.1 HB0.out.2 ?_; intro v1 w1 ho1 hg1 hb1)
  rw [List.nil_append] at ho1
  have HB1 := Go.Lib.hid (HN.out.below_grown (Below.refl _ _) hg1)
  clear hg1 hb1
  refine (put_any _ _ node key value _ (ho1.sl (by decide)) hn hk hv).mono ?_
  rintro e w2 ⟨v2, rfl, ho2, hb2⟩
  have HB2 := Go.Lib.hid (HB1.out.trans (hb2.mono HB1.out.size))
  have HS2 := Go.Lib.hid (ho2.sl (by decide))
  have HPO := Go.Lib.hid (putOf_any _ xs node key value _ (H.out.below HB2.out) hn hk hv)
  clear hb2 ho2 ho1
  obtain ⟨r, hr⟩ : ∃ r, putS xs node key value = r := ⟨_, rfl⟩
  have HR := Go.Lib.hid hr
  rw [hr] at HS2 ⊢
  unfold PutPost at HPO
  rw [hr] at HPO
  clear hr
  go_wp2_with fail
  refine HPO.out.mono ?_
  rintro e w3 ⟨v3, rfl, ho3, hb3⟩
  have HB3 := Go.Lib.hid (HB2.out.trans (hb3.mono HB2.out.size))
  have HSM := Go.Lib.hid (sameEntries_eq _ _ _ _ (HS2.out.below hb3) (ho3.sl (by decide)))
  clear hb3 ho3
  go_wp2_with fail
  refine HSM.out.mono ?_
  rintro e w4 ⟨rfl, hb4⟩
  have HB4 := Go.Lib.hid (HB3.out.trans (hb4.mono HB3.out.size))
  clear hb4
  go_wp2_with fail
  go_ret
  exact ⟨rfl, HB4.out⟩

set_option maxRecDepth 100000 in
theorem storePuts_lifted (os : Os) (started : os.Started) (H : Type) (enc : TypeId × Value → H) :
    ReturnsInHanded {} Try.checked os 16 .any (Rows.storePutsSpec.pre6 enc Try.prog Try.f16 Rows.storePutsRow.domain false) (Rows.storePutsSpec.post enc Try.prog Try.f16 false true false false) := by
  refine returnsInHanded_of_change_sized (C := Try.checked) own started (by kernel_rfl) Try.func16
    (ChangeSpec.witness6 (enc := enc) (C := Try.checked) false ⟨#[], #[.slice none 0 0, .int .i64 0, .string ⟨#[]⟩, .string ⟨#[]⟩], []⟩ 8 (by kernel_rfl) (by kernel_rfl) (by kernel_rfl) (by kernel_rfl)) ?_
  intro W base args ds gs before hval0 hW _ hz0 _
  have hval : ∀ (j : Nat) t v, Try.f16.params[j]? = some t → args[j]? = some v → Value.okWide Try.prog W .any base t v := hval0
  have hW' := hW
  obtain ⟨p, q, hA0, hV, rfl, hfz, _⟩ := hW
  have hA : DataW.TrodAll enc Try.prog W 0 (fun _ => true) true Try.f16.params.toList args.toList ds p := hA0
  rw [Try.params16] at hA hval
  obtain ⟨rfl, rfl⟩ := trodVars_none hV
  obtain ⟨v0, v1, v2, v3, d0, d1, d2, d3, p0, p1, p2, p3, rfl, rfl, rfl, h0, h1, h2, h3⟩ := trodAll_four hA
  obtain ⟨x0, hx0, hs0⟩ := open_sl_sized Try.underlying35 opens_ents (hval 0 35 v0 rfl rfl) h0 (j := 0) hz0 (by rw [Try.params16]; rfl) rfl (m := 48) (by kernel_rfl)
  obtain ⟨x1, rfl, rfl, rfl, wx1⟩ := open_int Try.underlying3 (hval 1 3 v1 rfl rfl) h1
  have hx1 : inR x1 := inR_of wx1
  obtain ⟨x2, rfl, rfl, rfl, hx2⟩ := Go.ChangeMaps.open_string Try.underlying9 (hval 2 9 v2 rfl rfl) h2
  obtain ⟨x3, rfl, rfl, rfl, hx3⟩ := Go.ChangeMaps.open_string Try.underlying9 (hval 3 9 v3 rfl rfl) h3
  refine (storePuts_walk v0 x0 x1 x2 x3 W hx0 hs0 hx1 hx2 hx3).mono fun e W' ⟨he, hb⟩ => ?_
  subst he
  exact ⟨_, rfl, law_post hW' laidOut (by rw [Try.params16]; intro t ht; simp at ht; rcases ht with rfl | rfl | rfl <;> exact ⟨by kernel_rfl, of_decide_eq_true (by kernel_rfl)⟩) rfl rfl Try.underlying4 rfl rfl rfl hb⟩

theorem storePuts_holds : Rows.StorePutsSaid :=
  OpenClaim.holds_of_wide 16 Try.f16 rfl rfl rfl rfl rfl rfl rfl ⟨rfl, rfl, rfl, rfl, rfl⟩ rfl rfl rfl rfl rfl (by kernel_rfl) Try.func16 (by kernel_rfl)
    (of_decide_eq_true (by kernel_rfl)) (by unfold Func.isWrapper; rw [if_neg (of_decide_eq_false (by kernel_rfl))]; exact ⟨rfl, rfl⟩)
    (fun os started H enc _ => storePuts_lifted os started H enc)
#print axioms storePuts_holds
end Go.Proofs.Ytbpamllmbdcdfaa
