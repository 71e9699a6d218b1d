/-
  Proved here: the law GraphAdjs returns true for every Adj, with no condition.
-/
import Derived.Test.YtbpamllmbdcdfaaGrA
namespace Go.Proofs.Ytbpamllmbdcdfaa
open Go.RowKit Go.ChangeShapes Go.WideShapes Go.ChangeAt

structure AdjV where
  drain : Bool
  v : Value
  sides : List Side

theorem opens_side : Opens Try.prog sideR 90 :=
  ⟨by kernel_rfl, fun H enc W fuel cs x h => by
    obtain ⟨hlen, hf⟩ := trod_fields Try.underlying90 h
    obtain ⟨a0, h0⟩ := hf _ intR 0 _ rfl (opens_int Try.underlying3 (by kernel_rfl))
    obtain ⟨a1, h1⟩ := hf _ intR 1 _ rfl (opens_int Try.underlying3 (by kernel_rfl))
    have hl : cs.length = 2 := hlen.trans (by kernel_rfl)
    match cs, hl with
    | [c0, c1], _ =>
      obtain ⟨e0, w0⟩ := h0
      obtain ⟨e1, w1⟩ := h1
      simp [intR, flatR] at e0 e1
      subst e0 e1
      exact ⟨⟨a0, a1⟩, rfl, w0, w1⟩⟩
theorem opens_sides : Opens Try.prog (slR sideR) 26 := opens_slice Try.underlying26 (by kernel_rfl) (by decide) opens_side

set_option maxRecDepth 100000 in
theorem open_adj {H : Type} {enc : TypeId × Value → H} {W : World} {b : Nat} {q : Reach} {v : Value} {d : DataW H} {p : List MemPlace}
    (hv : Value.okWide Try.prog W q b 28 v) (hr : DataW.Trod enc Try.prog W 0 (fun _ => true) true 28 v d p) : ∃ x : AdjV, v = .agg #[.bool x.drain, x.v] ∧ Sl sideR W x.v x.sides := by
  obtain ⟨cs, rfl, hsz⟩ := okWide_struct Try.underlying28 hv
  obtain ⟨fuel, hf⟩ := hr
  obtain ⟨hlen, hf⟩ := trod_fields Try.underlying28 hf
  obtain ⟨a0, h0⟩ := hf _ boolR 0 _ rfl (opens_bool Try.underlying4 (by kernel_rfl))
  obtain ⟨a1, h1⟩ := hf _ (slR sideR) 1 _ rfl opens_sides
  have hl : cs.toList.length = 2 := hlen.trans (by kernel_rfl)
  obtain ⟨l⟩ := cs
  match l, hl with
  | [c0, c1], _ =>
    obtain ⟨e0, _⟩ := h0
    obtain ⟨v1, e1, w1⟩ := h1
    simp [Value.cells, boolR, flatR] at e0
    simp [Value.cells, slR] at e1
    subst e0 e1
    exact ⟨⟨a0, c1, a1⟩, rfl, w1⟩

set_option maxHeartbeats 400000 in
theorem graphAdjs_walk (x : AdjV) (w : World) (h : Sl sideR w x.v x.sides) :
    Calls Try.prog 4 #[.agg #[.bool x.drain, x.v]] w fun e w' => e = .returned (.bool true) ∧ Below w.heap.size w w' := by
  obtain ⟨d, v, xs⟩ := x
  obtain ⟨A, c, hv⟩ := h.form
  simp only at hv
  subst hv
  have hb0 := (Below.refl w.heap.size w).alloc (Nat.le_refl _) (.cells #[.bool d, .slice A xs.length c] 28)
  have H := Go.Lib.hid h
  have HB := Go.Lib.hid hb0
  clear h hb0
  go_enter Try.func4, Try.ntmps4
  go_wp2_with fail
  refine (checkAdj_any _ _ _ _ (H.out.below HB.out)).mono ?_
  rintro e w1 ⟨rfl, hb1⟩
  obtain ⟨hA, hN, hF, hS⟩ := pastAlloc hb1
  have HA := Go.Lib.hid hA
  clear hA hb1 hF
  go_wp2_with fail
  refine (adjFault_any _ _ _ _ (H.out.below HA.out)).mono ?_
  rintro e w2 ⟨rfl, hb2⟩
  go_wp2_with fail
  go_ret
  exact ⟨eb (by simp), HA.out.trans (hb2.mono HA.out.size)⟩

set_option maxRecDepth 100000 in
theorem graphAdjs_lifted (os : Os) (started : os.Started) (H : Type) (enc : TypeId × Value → H) :
    ReturnsInHanded {} Try.checked os 4 .any (Rows.graphAdjsSpec.pre6 enc Try.prog Try.f4 Rows.graphAdjsRow.domain false) (Rows.graphAdjsSpec.post enc Try.prog Try.f4 false true false false) := by
  refine returnsInHanded_of_change (C := Try.checked) own started (by kernel_rfl) Try.func4
    (ChangeSpec.witness6 (enc := enc) (C := Try.checked) false ⟨#[], #[.agg #[.bool false, .slice none 0 0]], []⟩ 8 (by kernel_rfl) (by kernel_rfl) (by kernel_rfl) (by kernel_rfl)) ?_
  intro W base args ds gs before hval0 hW _ _
  have hval : ∀ (j : Nat) t v, Try.f4.params[j]? = some t → args[j]? = some v → Value.okWide Try.prog W .any base t v := hval0
  have hW' := hW
  obtain ⟨p, q, hA0, hV, rfl, hfz, _⟩ := hW
  have hA : DataW.TrodAll enc Try.prog W 0 (fun _ => true) true Try.f4.params.toList args.toList ds p := hA0
  rw [Try.params4] at hA hval
  obtain ⟨rfl, rfl⟩ := trodVars_none hV
  obtain ⟨v0, d0, rfl, rfl, h0⟩ := trodAll_one hA
  obtain ⟨x0, rfl, hx0⟩ := open_adj (hval 0 28 v0 rfl rfl) h0
  refine (graphAdjs_walk x0 W hx0).mono fun e W' ⟨he, hb⟩ => ?_
  subst he
  exact ⟨_, rfl, law_post hW' laidOut (by rw [Try.params4]; intro t ht; simp at ht; subst ht; exact ⟨by kernel_rfl, of_decide_eq_true (by kernel_rfl)⟩) rfl rfl Try.underlying4 rfl rfl rfl hb⟩

theorem graphAdjs_holds : Rows.GraphAdjsSaid :=
  OpenClaim.holds_of_wide 4 Try.f4 rfl rfl rfl rfl rfl rfl rfl ⟨rfl, rfl, rfl, rfl, rfl⟩ rfl rfl rfl rfl rfl (by kernel_rfl) Try.func4 (by kernel_rfl)
    (of_decide_eq_true (by kernel_rfl)) (by unfold Func.isWrapper; rw [if_neg (of_decide_eq_false (by kernel_rfl))]; exact ⟨rfl, rfl⟩)
    (fun os started H enc _ => graphAdjs_lifted os started H enc)
#print axioms graphAdjs_holds
end Go.Proofs.Ytbpamllmbdcdfaa
