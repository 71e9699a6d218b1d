/-
  Proved here: the law StoreGets returns true for every list of entries and every key, with no condition.
-/
import Derived.Test.YtbpamllmbdcdfaaStE
import Derived.Test.YtbpamllmbdcdfaaEq
namespace Go.Proofs.Ytbpamllmbdcdfaa
open Go.RowKit Go.ChangeShapes Go.WideShapes Go.ChangeAt

set_option maxHeartbeats 1000000 in
theorem storeGets_walk (v : Value) (xs : List Entry) (k : ByteArray) (w : World) (h : Sl entR w v xs) (_ : k.size ≤ maxLen) :
    Calls Try.prog 11 #[v, .string k] w fun e w' => e = .returned (.bool true) ∧ Below w.heap.size w w' := by
  have H := Go.Lib.hid h
  have hc1 := get_any v xs k w h
  obtain ⟨A, c, rfl⟩ := h.form
  obtain ⟨g, hg⟩ : ∃ g, getS xs k = g := ⟨_, rfl⟩
  rw [hg] at hc1
  have HG := Go.Lib.hid hg
  have HC1 := Go.Lib.hid hc1
  have q1 := eql_ent g.1 g.1
  have q2 := fun a b => guard_ent .eql a b
  clear h hg hc1
  simp only [sameE_refl] at q1
  go_enter Try.func11, Try.ntmps11
  go_wp2_with fail
  refine HC1.out.mono ?_
  rintro e w1 ⟨rfl, hb1⟩
  have HB1 := Go.Lib.hid hb1
  have hz1 := hb1.size
  clear hb1
  unfold Entry.val
  go_wp2_with fail
  have H2 := (H.out.below HB1.out).below ((Below.refl w1.heap.size w1).alloc (Nat.le_refl _) (.cells #[.string g.1.key, .int .i64 g.1.version, .int .i64 g.1.origin, .string g.1.value] 39))
  have hc2 := got_any _ xs k _ H2
  rw [HG.out] at hc2
  unfold Entry.val at hc2
  refine hc2.mono ?_
  rintro e w2 ⟨rfl, hb2⟩
  clear hc2 H2
  obtain ⟨hA, hN, hM, hS⟩ := pastAlloc hb2
  have HA2 := Go.Lib.hid (HB1.out.trans (hA.mono HB1.out.size))
  clear hA hb2
  go_wp2_with fail
  go_ret
  exact ⟨eb (by simp), HA2.out.alloc HA2.out.size _⟩

set_option maxRecDepth 100000 in
theorem storeGets_lifted (os : Os) (started : os.Started) (H : Type) (enc : TypeId × Value → H) :
    ReturnsInHanded {} Try.checked os 11 .any (Rows.storeGetsSpec.pre6 enc Try.prog Try.f11 Rows.storeGetsRow.domain false) (Rows.storeGetsSpec.post enc Try.prog Try.f11 false true false false) := by
  refine returnsInHanded_of_change (C := Try.checked) own started (by kernel_rfl) Try.func11
    (ChangeSpec.witness6 (enc := enc) (C := Try.checked) false ⟨#[], #[.slice none 0 0, .string ⟨#[]⟩], []⟩ 8 (by kernel_rfl) (by kernel_rfl) (by kernel_rfl) (by kernel_rfl)) ?_
  intro W base args ds gs before hval0 hW _ _
  have hval : ∀ (j : Nat) t v, Try.f11.params[j]? = some t → args[j]? = some v → Value.okWide Try.prog W .any base t v := hval0
  have hW' := hW
  obtain ⟨p, q, hA0, hV, rfl, hfz, _⟩ := hW
  have hA : DataW.TrodAll enc Try.prog W 0 (fun _ => true) true Try.f11.params.toList args.toList ds p := hA0
  rw [Try.params11] at hA hval
  obtain ⟨rfl, rfl⟩ := trodVars_none hV
  obtain ⟨v0, v1, d0, d1, p0, p1, rfl, rfl, rfl, h0, h1⟩ := trodAll_two hA
  obtain ⟨x0, hx0⟩ := open_sl Try.underlying35 opens_ents (hval 0 35 v0 rfl rfl) h0
  obtain ⟨x1, rfl, rfl, rfl, hx1⟩ := Go.ChangeMaps.open_string Try.underlying9 (hval 1 9 v1 rfl rfl) h1
  refine (storeGets_walk v0 x0 x1 W hx0 hx1).mono fun e W' ⟨he, hb⟩ => ?_
  subst he
  exact ⟨_, rfl, law_post hW' laidOut (by rw [Try.params11]; intro t ht; simp at ht; rcases ht with rfl | rfl <;> exact ⟨by kernel_rfl, of_decide_eq_true (by kernel_rfl)⟩) rfl rfl Try.underlying4 rfl rfl rfl hb⟩

theorem storeGets_holds : Rows.StoreGetsSaid :=
  OpenClaim.holds_of_wide 11 Try.f11 rfl rfl rfl rfl rfl rfl rfl ⟨rfl, rfl, rfl, rfl, rfl⟩ rfl rfl rfl rfl rfl (by kernel_rfl) Try.func11 (by kernel_rfl)
    (of_decide_eq_true (by kernel_rfl)) (by unfold Func.isWrapper; rw [if_neg (of_decide_eq_false (by kernel_rfl))]; exact ⟨rfl, rfl⟩)
    (fun os started H enc _ => storeGets_lifted os started H enc)
#print axioms storeGets_holds
end Go.Proofs.Ytbpamllmbdcdfaa
