/-
  Proved here: the law StoreCompares returns true for every two entries, with no condition.
-/
import Derived.Test.YtbpamllmbdcdfaaStC
namespace Go.Proofs.Ytbpamllmbdcdfaa
open Go.RowKit Go.ChangeShapes Go.WideShapes Go.ChangeAt

set_option maxRecDepth 100000 in
theorem open_ent {H : Type} {enc : TypeId × Value → H} {W : World} {b : Nat} {q : Reach} {v : Value} {d : DataW H} {p : List MemPlace}
    (hv : Value.okWide Try.prog W q b 39 v) (hr : DataW.Trod enc Try.prog W 0 (fun _ => true) true 39 v d p) : ∃ x : Entry, v = x.val ∧ x.wf := by
  obtain ⟨cs, rfl, hsz⟩ := okWide_struct Try.underlying39 hv
  obtain ⟨fuel, hf⟩ := hr
  obtain ⟨x, hx, hw⟩ := opens_ent.2 H enc W fuel _ _ hf
  refine ⟨x, ?_, hw⟩
  obtain ⟨l⟩ := cs
  have hx' : l = x.cells := by simpa [Value.cells] using hx
  rw [hx']; rfl

set_option maxHeartbeats 400000 in
theorem storeCompares_walk (a b : Entry) (w : World) (ha : a.wf) (hb : b.wf) :
    Calls Try.prog 8 #[a.val, b.val] w fun e w' => e = .returned (.bool true) ∧ Below w.heap.size w w' := by
  have ca := fun w => compare_any a b w ha hb
  have cb := fun w => compared_any a b w
  have HA := Go.Lib.hid ca
  have HB := Go.Lib.hid cb
  clear ca cb ha hb
  unfold Entry.val at *
  go_enter Try.func8, Try.ntmps8
  go_wp2_with fail
  refine (HA.out _).mono ?_
  rintro e w1 ⟨rfl, hb1⟩
  obtain ⟨hA, hN, hM, hS⟩ := pastAlloc2 hb1
  have HA1 := Go.Lib.hid hA
  clear hA hb1
  go_wp2_with fail
  refine (HB.out _).mono ?_
  rintro e w2 ⟨rfl, hb2⟩
  have HA2 := Go.Lib.hid (HA1.out.trans (hb2.mono HA1.out.size))
  clear hb2
  go_wp2_with fail
  go_ret
  exact ⟨eb (by simp), HA2.out⟩

set_option maxRecDepth 100000 in
theorem storeCompares_lifted (os : Os) (started : os.Started) (H : Type) (enc : TypeId × Value → H) :
    ReturnsInHanded {} Try.checked os 8 .any (Rows.storeComparesSpec.pre6 enc Try.prog Try.f8 Rows.storeComparesRow.domain false) (Rows.storeComparesSpec.post enc Try.prog Try.f8 false true false false) := by
  refine returnsInHanded_of_change (C := Try.checked) own started (by kernel_rfl) Try.func8
    (ChangeSpec.witness6 (enc := enc) (C := Try.checked) false ⟨#[], #[.agg #[.string ⟨#[]⟩, .int .i64 0, .int .i64 0, .string ⟨#[]⟩], .agg #[.string ⟨#[]⟩, .int .i64 0, .int .i64 0, .string ⟨#[]⟩]], []⟩ 8 (by kernel_rfl) (by kernel_rfl) (by kernel_rfl) (by kernel_rfl)) ?_
  intro W base args ds gs before hval0 hW _ _
  have hval : ∀ (j : Nat) t v, Try.f8.params[j]? = some t → args[j]? = some v → Value.okWide Try.prog W .any base t v := hval0
  have hW' := hW
  obtain ⟨p, q, hA0, hV, rfl, hfz, _⟩ := hW
  have hA : DataW.TrodAll enc Try.prog W 0 (fun _ => true) true Try.f8.params.toList args.toList ds p := hA0
  rw [Try.params8] at hA hval
  obtain ⟨rfl, rfl⟩ := trodVars_none hV
  obtain ⟨v0, v1, d0, d1, p0, p1, rfl, rfl, rfl, h0, h1⟩ := trodAll_two hA
  obtain ⟨x0, rfl, hx0⟩ := open_ent (hval 0 39 v0 rfl rfl) h0
  obtain ⟨x1, rfl, hx1⟩ := open_ent (hval 1 39 v1 rfl rfl) h1
  refine (storeCompares_walk x0 x1 W hx0 hx1).mono fun e W' ⟨he, hb⟩ => ?_
  subst he
  exact ⟨_, rfl, law_post hW' laidOut (by rw [Try.params8]; intro t ht; simp at ht; subst ht; exact ⟨by kernel_rfl, of_decide_eq_true (by kernel_rfl)⟩) rfl rfl Try.underlying4 rfl rfl rfl hb⟩

theorem storeCompares_holds : Rows.StoreComparesSaid :=
  OpenClaim.holds_of_wide 8 Try.f8 rfl rfl rfl rfl rfl rfl rfl ⟨rfl, rfl, rfl, rfl, rfl⟩ rfl rfl rfl rfl rfl (by kernel_rfl) Try.func8 (by kernel_rfl)
    (of_decide_eq_true (by kernel_rfl)) (by unfold Func.isWrapper; rw [if_neg (of_decide_eq_false (by kernel_rfl))]; exact ⟨rfl, rfl⟩)
    (fun os started H enc _ => storeCompares_lifted os started H enc)
#print axioms storeCompares_holds
end Go.Proofs.Ytbpamllmbdcdfaa
