/-
  Proved here: the law RibLooks returns true for every list of routes and every address, with no condition.
-/
import Derived.Test.YtbpamllmbdcdfaaSame
import Derived.Test.YtbpamllmbdcdfaaRibO
namespace Go.Proofs.Ytbpamllmbdcdfaa
open Go.RowKit Go.ChangeShapes Go.WideShapes Go.ChangeAt

set_option maxRecDepth 100000 in
set_option maxHeartbeats 1000000 in
theorem ribLooks_walk (v : Value) (xs : List Route) (addr : Int) (w : World) (h : Sl routeR w v xs) (_ : inR addr) :
    Calls Try.prog 12 #[v, .int .i64 addr] w fun e w' => e = .returned (.bool true) ∧ Below w.heap.size w w' := by
  have H := Go.Lib.hid h
  have hc1 := lookup_any v xs addr w h
  have hc2 := fun w' (hb : Below w.heap.size w w') => foundOf_any v xs addr w' (h.below hb)
  unfold LookPost at hc1 hc2
  obtain ⟨g, hg⟩ : ∃ g, lookS xs addr = g := ⟨_, rfl⟩
  rw [hg] at hc1
  simp only [hg] at hc2
  obtain ⟨r, n⟩ := g
  have HC1 := Go.Lib.hid hc1
  have HC2 := Go.Lib.hid hc2
  clear h hc1 hc2 hg
  go_enter Try.func12, Try.ntmps12
  go_wp2_with fail
  refine HC1.out.mono ?_
  rintro e w1 ⟨v1, rfl, hs1, hb1⟩
  obtain ⟨A1, c1, rfl⟩ := hs1.form
  have HB1 := Go.Lib.hid hb1
  have HS1 := Go.Lib.hid hs1
  have hz1 := hb1.size
  clear hb1 hs1
  obtain ⟨hs, hhs⟩ : ∃ hs, r.hops = hs := ⟨_, rfl⟩
  have HHS := Go.Lib.hid hhs
  rw [hhs]
  clear hhs
  go_wp2_with fail
  have hba : Below w.heap.size w (w1.alloc (.cells #[.int .i64 r.pre.addr, .int .i64 r.pre.bits, .bool r.here, .int .i64 r.cost, .slice A1 hs.length c1] 54)) := HB1.out.alloc hz1 _
  refine (HC2.out _ hba).mono ?_
  rintro e w2 ⟨v2, rfl, hs2, hb2⟩
  obtain ⟨A2, c2, rfl⟩ := hs2.form
  obtain ⟨hA, hN, hM, hS⟩ := pastAlloc hb2
  have HA2 := Go.Lib.hid (HB1.out.trans (hA.mono HB1.out.size))
  have HS1' := Go.Lib.hid (HS1.out.below hA)
  have HS2 := Go.Lib.hid hs2
  have hb3 : Below w2.heap.size w2 (w2.alloc (.cells #[.int .i64 r.pre.addr, .int .i64 r.pre.bits, .bool r.here, .int .i64 r.cost, .slice A2 r.hops.length c2] 54)) := (Below.refl _ _).alloc (Nat.le_refl _) _
  have hc3 := sameRoute_eq r _ _ _ ((HS1.out.below hA).below hb3) (hs2.below hb3)
  unfold Route.agg at hc3
  rw [HHS.out] at hc3 ⊢
  have HC3 := Go.Lib.hid hc3
  clear hA hb2 hs2 hb3 hba hc3
  go_wp2_with fail
  refine HC3.out.mono ?_
  rintro e w3 ⟨rfl, hb3⟩
  have HB3 := Go.Lib.hid ((HA2.out.alloc HA2.out.size (.cells #[.int .i64 r.pre.addr, .int .i64 r.pre.bits, .bool r.here, .int .i64 r.cost, .slice A2 hs.length c2] 54)).trans (hb3.mono (by have := HA2.out.size; simp; omega)))
  clear hb3
  go_wp2_with fail
  go_ret
  exact ⟨rfl, HB3.out⟩

set_option maxRecDepth 100000 in
theorem ribLooks_lifted (os : Os) (started : os.Started) (H : Type) (enc : TypeId × Value → H) :
    ReturnsInHanded {} Try.checked os 12 .any (Rows.ribLooksSpec.pre6 enc Try.prog Try.f12 Rows.ribLooksRow.domain false) (Rows.ribLooksSpec.post enc Try.prog Try.f12 false true false false) := by
  refine returnsInHanded_of_change (C := Try.checked) own started (by kernel_rfl) Try.func12
    (ChangeSpec.witness6 (enc := enc) (C := Try.checked) false ⟨#[], #[.slice none 0 0, .int .i64 0], []⟩ 8 (by kernel_rfl) (by kernel_rfl) (by kernel_rfl) (by kernel_rfl)) ?_
  intro W base args ds gs before hval0 hW _ _
  have hval : ∀ (j : Nat) t v, Try.f12.params[j]? = some t → args[j]? = some v → Value.okWide Try.prog W .any base t v := hval0
  have hW' := hW
  obtain ⟨p, q, hA0, hV, rfl, hfz, _⟩ := hW
  have hA : DataW.TrodAll enc Try.prog W 0 (fun _ => true) true Try.f12.params.toList args.toList ds p := hA0
  rw [Try.params12] at hA hval
  obtain ⟨rfl, rfl⟩ := trodVars_none hV
  obtain ⟨v0, v1, d0, d1, p0, p1, rfl, rfl, rfl, h0, h1⟩ := trodAll_two hA
  obtain ⟨x0, hx0⟩ := open_sl Try.underlying42 opens_routes (hval 0 42 v0 rfl rfl) h0
  obtain ⟨x1, rfl, rfl, rfl, wx1⟩ := open_int Try.underlying3 (hval 1 3 v1 rfl rfl) h1
  have hx1 : inR x1 := inR_of wx1
  refine (ribLooks_walk v0 x0 x1 W hx0 hx1).mono fun e W' ⟨he, hb⟩ => ?_
  subst he
  exact ⟨_, rfl, law_post hW' laidOut (by rw [Try.params12]; intro t ht; simp at ht; rcases ht with rfl | rfl <;> exact ⟨by kernel_rfl, of_decide_eq_true (by kernel_rfl)⟩) rfl rfl Try.underlying4 rfl rfl rfl hb⟩

theorem ribLooks_holds : Rows.RibLooksSaid :=
  OpenClaim.holds_of_wide 12 Try.f12 rfl rfl rfl rfl rfl rfl rfl ⟨rfl, rfl, rfl, rfl, rfl⟩ rfl rfl rfl rfl rfl (by kernel_rfl) Try.func12 (by kernel_rfl)
    (of_decide_eq_true (by kernel_rfl)) (by unfold Func.isWrapper; rw [if_neg (of_decide_eq_false (by kernel_rfl))]; exact ⟨rfl, rfl⟩)
    (fun os started H enc _ => ribLooks_lifted os started H enc)
#print axioms ribLooks_holds
end Go.Proofs.Ytbpamllmbdcdfaa
