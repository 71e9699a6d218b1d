/-
  Proved here: the law RibDiffs returns true for every two lists of routes, with no condition.
-/
import Derived.Test.YtbpamllmbdcdfaaRibT
import Derived.Test.YtbpamllmbdcdfaaRibO
namespace Go.Proofs.Ytbpamllmbdcdfaa
open Go.RowKit Go.ChangeShapes Go.WideShapes Go.ChangeAt Go.Deep

set_option maxHeartbeats 1000000 in
theorem samePrefixes_eq (v1 v2 : Value) (xs : List Prefix) (w : World) (h1 : Sl prefR w v1 xs) (h2 : Sl prefR w v2 xs) :
    Calls Try.prog 44 #[v1, v2] w fun e w' => e = .returned (.bool true) ∧ Below w.heap.size w w' := by
  have hl := h1.len_le
  have q2 := fun a b => guard_pref .neq a b
  obtain ⟨A1, c1, rfl⟩ := h1.form
  obtain ⟨A2, c2, rfl⟩ := h2.form
  have H1 := Go.Lib.hid h1
  have H2 := Go.Lib.hid h2
  clear h1 h2
  go_enter Try.func44, Try.ntmps44
  go_wp2_with fail
  go_loopw [5] (fun s5 wr => ∃ k : Nat, k ≤ xs.length ∧ s5 = .int .i64 k ∧ Below w.heap.size w wr) (fun s5 _ => xs.length - (intOf s5).toNat)
  case atStart => exact ⟨0, Nat.zero_le _, rfl, Below.refl _ _⟩
  case round =>
    obtain ⟨k, hk, rfl, hB⟩ := hrel
    have HB := Go.Lib.hid hB
    by_cases hlt : k < xs.length
    · obtain ⟨b1, o1, rfl, hb1⟩ := H1.out.at_ hlt
      obtain ⟨b2, o2, rfl, hb2⟩ := H2.out.at_ hlt
      obtain ⟨f1, f2, _⟩ := (H1.out.below hB).pref hlt
      obtain ⟨g1, g2, _⟩ := (H2.out.below hB).pref hlt
      have r0 : (0 : Int) ≤ (k : Int) := Int.natCast_nonneg _
      have r1 : (k : Int) < (xs.length : Int) := by omega
      have q3 := neq_pref xs[k].addr xs[k].bits xs[k].addr xs[k].bits
      simp only [beq_self_eq_true, Bool.and_self, Bool.not_true] at q3
      clear hB
      go_wp2_with fail
      go_quiet (fail)
      go_wp2_with fail
      go_roundw
      case rel => exact ⟨k + 1, by omega, by go_num, bDrewN HB.out _⟩
      case measure => simp [intOf]; omega
    · clear hB
      go_wp2_with fail
      go_ret
      exact ⟨rfl, HB.out⟩

set_option maxRecDepth 100000 in
set_option maxHeartbeats 1000000 in
theorem sameTable_eq (v1 v2 : Value) (xs : List Route) (w : World) (h1 : Sl routeR w v1 xs) (h2 : Sl routeR w v2 xs) :
    Calls Try.prog 43 #[v1, v2] w fun e w' => e = .returned (.bool true) ∧ Below w.heap.size w w' := by
  have hl := h1.len_le
  obtain ⟨A1, c1, rfl⟩ := h1.form
  obtain ⟨A2, c2, rfl⟩ := h2.form
  have H1 := Go.Lib.hid h1
  have H2 := Go.Lib.hid h2
  clear h1 h2
  go_enter Try.func43, Try.ntmps43
  go_wp2_with fail
  go_loopw [5] (fun s5 wr => ∃ k : Nat, k ≤ xs.length ∧ s5 = .int .i64 k ∧ Below w.heap.size w wr) (fun s5 _ => xs.length - (intOf s5).toNat)
  case atStart => exact ⟨0, Nat.zero_le _, rfl, Below.refl _ _⟩
  case round =>
    obtain ⟨k, hk, rfl, hB⟩ := hrel
    have HB := Go.Lib.hid hB
    by_cases hlt : k < xs.length
    · obtain ⟨b1, o1, rfl, hb1⟩ := H1.out.at_ hlt
      obtain ⟨b2, o2, rfl, hb2⟩ := H2.out.at_ hlt
      obtain ⟨va, hea, hsa, _⟩ := route_keep H1.out hb1 hlt
      obtain ⟨vb, heb, hsb, _⟩ := route_keep H2.out hb2 hlt
      obtain ⟨y, hy⟩ : ∃ y, xs[k] = y := ⟨_, rfl⟩
      rw [hy] at hsa hsb
      simp only [hy] at hea heb
      have HEA := Go.Lib.hid hea
      have HEB := Go.Lib.hid heb
      have HSA := Go.Lib.hid hsa
      have HSB := Go.Lib.hid hsb
      obtain ⟨Aa, ca, hva⟩ := hsa.form
      subst hva
      obtain ⟨Ab, cb, hvb⟩ := hsb.form
      subst hvb
      obtain ⟨hh, hhe⟩ : ∃ l, y.hops = l := ⟨_, rfl⟩
      rw [hhe] at HEA HEB HSA HSB
      have HHE := Go.Lib.hid hhe
      have r0 : (0 : Int) ≤ (k : Int) := Int.natCast_nonneg _
      have r1 : (k : Int) < (xs.length : Int) := by omega
      clear hB hy hea heb hsa hsb hhe
      go_wp2_with fail
      refine still_tail 8 (by kernel_rfl) (by kernel_rfl) ?_
      intro wd hwd
      have hBd : Below w.heap.size w wd := by rw [hwd]; exact HB.out.drew
      have HBD := Go.Lib.hid hBd
      obtain ⟨f1, f2, f3, f4, f5⟩ := HEA.out wd hBd
      obtain ⟨g1, g2, g3, g4, g5⟩ := HEB.out wd hBd
      have hcal := sameRoute_eq y (.slice Aa hh.length ca) (.slice Ab hh.length cb) wd (by rw [HHE.out]; exact HSA.out.below hBd) (by rw [HHE.out]; exact HSB.out.below hBd)
      unfold Route.agg at hcal
      have HCAL := Go.Lib.hid hcal
      clear hwd hBd hcal
      simp only [List.take_succ_cons, List.take_zero, List.drop_succ_cons, List.drop_zero]
      iterate 8 still_step
      refine wpStill_nil ?_
      clear f1 f2 f3 f4 f5 g1 g2 g3 g4 g5
      go_wp2_with fail
      refine HCAL.out.mono ?_
      rintro e w1 ⟨rfl, hb1'⟩
      have HB1 := Go.Lib.hid (HBD.out.trans (hb1'.mono HBD.out.size))
      clear hb1'
      go_wp2_with fail
      go_roundw
      case rel => exact ⟨k + 1, by omega, by go_num, HB1.out⟩
      case measure => simp [intOf]; omega
    · clear hB
      go_wp2_with fail
      go_ret
      exact ⟨rfl, HB.out⟩

set_option maxRecDepth 100000 in
set_option maxHeartbeats 1000000 in
theorem ribDiffs_walk (v : Value) (xs : List Route) (u : Value) (ys : List Route) (w : World) (h : Sl routeR w v xs) (h2 : Sl routeR w u ys) :
    Calls Try.prog 13 #[v, u] w fun e w' => e = .returned (.bool true) ∧ Below w.heap.size w w' := by
  have H := Go.Lib.hid h
  have H2 := Go.Lib.hid h2
  clear h h2
  go_enter Try.func13, Try.ntmps13
  go_wp2_with fail
  refine (diff_any _ _ xs ys w H.out H2.out).mono ?_
  rintro e w1 ⟨v1, u1, rfl, hs1, hp1, hb1⟩
  have HB1 := Go.Lib.hid hb1
  have HS1 := Go.Lib.hid hs1
  have HP1 := Go.Lib.hid hp1
  have HD := Go.Lib.hid (diffOf_any _ _ xs ys w1 (H.out.below hb1) (H2.out.below hb1))
  obtain ⟨r, hr⟩ : ∃ r, diffS xs ys = r := ⟨_, rfl⟩
  rw [hr] at HS1 HP1 HD ⊢
  clear hb1 hs1 hp1 hr
  go_wp2_with fail
  refine HD.out.mono ?_
  rintro e w2 ⟨v2, u2, rfl, hs2, hp2, hb2⟩
  have HB2 := Go.Lib.hid (HB1.out.trans (hb2.mono HB1.out.size))
  have HP12 := Go.Lib.hid (HP1.out.below hb2)
  have HP2 := Go.Lib.hid hp2
  have HSM := Go.Lib.hid (sameTable_eq _ _ _ w2 (HS1.out.below hb2) hs2)
  clear hb2 hs2 hp2
  go_wp2_with fail
  refine HSM.out.mono ?_
  rintro e w3 ⟨rfl, hb3⟩
  have HB3 := Go.Lib.hid (HB2.out.trans (hb3.mono HB2.out.size))
  have HSP := Go.Lib.hid (samePrefixes_eq _ _ _ w3 (HP12.out.below hb3) (HP2.out.below hb3))
  clear hb3
  go_wp2_with fail
  refine HSP.out.mono ?_
  rintro e w4 ⟨rfl, hb4⟩
  have HB4 := Go.Lib.hid (HB3.out.trans (hb4.mono HB3.out.size))
  clear hb4
  go_wp2_with fail
  go_ret
  exact ⟨rfl, HB4.out⟩

set_option maxRecDepth 100000 in
theorem ribDiffs_lifted (os : Os) (started : os.Started) (H : Type) (enc : TypeId × Value → H) :
    ReturnsInHanded {} Try.checked os 13 .any (Rows.ribDiffsSpec.pre6 enc Try.prog Try.f13 Rows.ribDiffsRow.domain false) (Rows.ribDiffsSpec.post enc Try.prog Try.f13 false true false false) := by
  refine returnsInHanded_of_change (C := Try.checked) own started (by kernel_rfl) Try.func13
    (ChangeSpec.witness6 (enc := enc) (C := Try.checked) false ⟨#[], #[.slice none 0 0, .slice none 0 0], []⟩ 8 (by kernel_rfl) (by kernel_rfl) (by kernel_rfl) (by kernel_rfl)) ?_
  intro W base args ds gs before hval0 hW _ _
  have hval : ∀ (j : Nat) t v, Try.f13.params[j]? = some t → args[j]? = some v → Value.okWide Try.prog W .any base t v := hval0
  have hW' := hW
  obtain ⟨p, q, hA0, hV, rfl, hfz, _⟩ := hW
  have hA : DataW.TrodAll enc Try.prog W 0 (fun _ => true) true Try.f13.params.toList args.toList ds p := hA0
  rw [Try.params13] at hA hval
  obtain ⟨rfl, rfl⟩ := trodVars_none hV
  obtain ⟨v0, v1, d0, d1, p0, p1, rfl, rfl, rfl, h0, h1⟩ := trodAll_two hA
  obtain ⟨x0, hx0⟩ := open_sl Try.underlying42 opens_routes (hval 0 42 v0 rfl rfl) h0
  obtain ⟨x1, hx1⟩ := open_sl Try.underlying42 opens_routes (hval 1 42 v1 rfl rfl) h1
  refine (ribDiffs_walk v0 x0 v1 x1 W hx0 hx1).mono fun e W' ⟨he, hb⟩ => ?_
  subst he
  exact ⟨_, rfl, law_post hW' laidOut (by rw [Try.params13]; intro t ht; simp at ht; subst ht; exact ⟨by kernel_rfl, of_decide_eq_true (by kernel_rfl)⟩) rfl rfl Try.underlying4 rfl rfl rfl hb⟩

theorem ribDiffs_holds : Rows.RibDiffsSaid :=
  OpenClaim.holds_of_wide 13 Try.f13 rfl rfl rfl rfl rfl rfl rfl ⟨rfl, rfl, rfl, rfl, rfl⟩ rfl rfl rfl rfl rfl (by kernel_rfl) Try.func13 (by kernel_rfl)
    (of_decide_eq_true (by kernel_rfl)) (by unfold Func.isWrapper; rw [if_neg (of_decide_eq_false (by kernel_rfl))]; exact ⟨rfl, rfl⟩)
    (fun os started H enc _ => ribDiffs_lifted os started H enc)
#print axioms ribDiffs_holds
end Go.Proofs.Ytbpamllmbdcdfaa
