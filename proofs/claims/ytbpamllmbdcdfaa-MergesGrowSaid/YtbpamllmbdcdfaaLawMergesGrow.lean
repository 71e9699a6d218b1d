/-
  Proved here: the law MergesGrow returns true for every two lists of raw things, with no condition.
-/
import Derived.Test.YtbpamllmbdcdfaaKeC
import Derived.Test.YtbpamllmbdcdfaaKeP
import Derived.Test.YtbpamllmbdcdfaaKeO
namespace Go.Proofs.Ytbpamllmbdcdfaa
open Go.RowKit Go.ChangeShapes Go.WideShapes Go.ChangeAt Go.Deep

set_option maxRecDepth 100000 in
set_option maxHeartbeats 2000000 in
theorem mergesGrow_walk (v : Value) (xs : List Raw) (u : Value) (ys : List Raw) (w : World) (h : Sl rawR w v xs) (h2 : Sl rawR w u ys) :
    Calls Try.prog 18 #[v, u] w fun e w' => e = .returned (.bool true) ∧ Below w.heap.size w w' := by
  have H := Go.Lib.hid h
  have H2 := Go.Lib.hid h2
  clear h h2
  go_enter Try.func18, Try.ntmps18
  go_wp2_with fail
  refine (tells_any w).mono ?_
  rintro e w1 ⟨rfl, hb1⟩
  have HB1 := Go.Lib.hid hb1
  have HS1 := Go.Lib.hid (store_any v xs 20 w1 (H.out.below hb1) (by omega))
  clear hb1
  go_wp2_with fail
  refine HS1.out.mono ?_
  rintro e w2 ⟨v2, rfl, hs2, hb2⟩
  have HB2 := Go.Lib.hid (HB1.out.trans (hb2.mono HB1.out.size))
  have HS2 := Go.Lib.hid hs2
  have HS3 := Go.Lib.hid (store_any u ys 20 w2 (H2.out.below HB2.out) (by omega))
  clear hb2 hs2
  go_wp2_with fail
  refine HS3.out.mono ?_
  rintro e w3 ⟨v3, rfl, hs3, hb3⟩
  have HB3 := Go.Lib.hid (HB2.out.trans (hb3.mono HB2.out.size))
  have HM := Go.Lib.hid (merged_any v2 v3 _ _ w3 (HS2.out.below hb3) hs3)
  have HX3 := Go.Lib.hid (HS2.out.below hb3)
  have hgr := merge_grow (stoS_ok (xs.take 20)) (stoS_ok (ys.take 20))
  obtain ⟨s, hs⟩ : ∃ s, stoS (xs.take 20) = s := ⟨_, rfl⟩
  obtain ⟨m, hm⟩ : ∃ m, (mergeS aboveE s (stoS (ys.take 20))).1 = m := ⟨_, rfl⟩
  rw [hs] at HM HX3 hgr
  rw [hm] at HM hgr
  have HGR := Go.Lib.hid hgr
  clear hb3 hs3 hs hm hgr
  go_wp2_with fail
  refine HM.out.mono ?_
  rintro e w4 ⟨v4, rfl, hs4, hb4⟩
  have HB4 := Go.Lib.hid (HB3.out.trans (hb4.mono HB3.out.size))
  have HX4 := Go.Lib.hid (HX3.out.below hb4)
  have HM4 := Go.Lib.hid hs4
  obtain ⟨A4, c4, hv4⟩ := hs4.form
  subst hv4
  obtain ⟨A2, c2, hv2⟩ := HX4.out.form
  subst hv2
  have hsl := HX4.out.len_le
  obtain ⟨ns, hns⟩ : ∃ n, s.length = n := ⟨_, rfl⟩
  obtain ⟨nm, hnm⟩ : ∃ n, m.length = n := ⟨_, rfl⟩
  have HNS := Go.Lib.hid hns
  have hge : ¬ (nm : Int) < (ns : Int) := by have := HGR.out.2.2; omega
  have hge2 : (ns : Int) ≤ (nm : Int) := by omega
  rw [hns] at hsl HX4 ⊢
  rw [hnm] at HM4 ⊢
  clear hs4 hb4 hns hnm
  go_wp2_with fail
  go_loopw [8, 9, 10, 21] (fun _ _ _ s21 wr => ∃ k : Nat, k ≤ ns ∧ s21 = .int .i64 k ∧ Below w4.heap.size w4 wr) (fun _ _ _ s21 _ => ns - (intOf s21).toNat)
  case atStart => exact ⟨0, Nat.zero_le _, rfl, Below.refl _ _⟩
  case round =>
    obtain ⟨k, hk, rfl, hB⟩ := hrel
    have HB := Go.Lib.hid hB
    by_cases hlt : k < ns
    · have hks : k < s.length := by rw [HNS.out]; exact hlt
      obtain ⟨b, off, rfl, hb⟩ := HX4.out.at_ hks
      obtain ⟨f1, f2, f3, f4, hyw⟩ := (HX4.out.below hB).ent hks
      have hg := HGR.out.2.1 s[k] (List.getElem_mem hks)
      obtain ⟨y, hy⟩ : ∃ y, s[k] = y := ⟨_, rfl⟩
      rw [hy] at f1 f2 f3 f4 hyw hg
      obtain ⟨g, hg1, hg2⟩ := hg
      have hgw : g.wf := by
        have hmem : g ∈ m := by
          have : findE m y.key = some g := by
            unfold getS at hg1
            rw [if_pos HGR.out.1.check] at hg1
            rcases hf : findE m y.key with _ | o
            · rw [hf] at hg1; simp at hg1
            · rw [hf] at hg1; simp only [Prod.mk.injEq, and_true] at hg1; rw [hg1]
          exact (findE_key this).2
        exact HM4.out.wfs g hmem
      have HYW := Go.Lib.hid hyw
      have HGW := Go.Lib.hid hgw
      have HG1 := Go.Lib.hid hg1
      have hba : Below wr.heap.size wr (wr.alloc (.cells #[.string y.key, .int .i64 y.version, .int .i64 y.origin, .string y.value] 39)) := (Below.refl _ _).alloc (Nat.le_refl _) _
      have HGET := Go.Lib.hid (get_any _ m y.key _ ((HM4.out.below hB).below hba))
      have r0 : (0 : Int) ≤ (k : Int) := Int.natCast_nonneg _
      have r1 : (k : Int) < (ns : Int) := by omega
      have hez := hB.size
      clear hB hy hyw hgw hg1 hba hks
      go_wp2_with fail
      refine HGET.out.mono ?_
      rintro e w5 ⟨rfl, hb5⟩
      rw [HG1.out]
      unfold Entry.val
      simp only
      obtain ⟨hA, hN, hM, hS⟩ := pastAlloc hb5
      have HB5 := Go.Lib.hid (HB.out.trans (hA.mono hez))
      have HCM := Go.Lib.hid (fun w' => compare_any g y w' HGW.out HYW.out)
      unfold Entry.val at HCM
      clear hb5 hA f1 f2 f3 f4
      go_wp2_with fail
      refine (HCM.out _).mono ?_
      rintro e w6 ⟨rfl, hb6⟩
      have HB6 := Go.Lib.hid ((HB5.out.alloc HB5.out.size (.cells #[.string g.key, .int .i64 g.version, .int .i64 g.origin, .string g.value] 39)).trans (hb6.mono (by have := HB5.out.size; simp; omega)))
      clear hb6 hN hM
      go_wp2_with fail
      go_roundw
      case rel => exact ⟨k + 1, by omega, by go_num, HB6.out⟩
      case measure => simp [intOf]; omega
    · clear hB
      go_wp2_with fail
      go_ret
      exact ⟨rfl, HB4.out.trans (HB.out.mono HB4.out.size)⟩

set_option maxRecDepth 100000 in
theorem mergesGrow_lifted (os : Os) (started : os.Started) (H : Type) (enc : TypeId × Value → H) :
    ReturnsInHanded {} Try.checked os 18 .any (Rows.mergesGrowSpec.pre6 enc Try.prog Try.f18 Rows.mergesGrowRow.domain false) (Rows.mergesGrowSpec.post enc Try.prog Try.f18 false true false false) := by
  refine returnsInHanded_of_change (C := Try.checked) own started (by kernel_rfl) Try.func18
    (ChangeSpec.witness6 (enc := enc) (C := Try.checked) false ⟨#[], #[.slice none 0 0, .slice none 0 0], []⟩ 8 (by kernel_rfl) (by kernel_rfl) (by kernel_rfl) (by kernel_rfl)) ?_
  intro W base args ds gs before hval0 hW _ _
  have hval : ∀ (j : Nat) t v, Try.f18.params[j]? = some t → args[j]? = some v → Value.okWide Try.prog W .any base t v := hval0
  have hW' := hW
  obtain ⟨p, q, hA0, hV, rfl, hfz, _⟩ := hW
  have hA : DataW.TrodAll enc Try.prog W 0 (fun _ => true) true Try.f18.params.toList args.toList ds p := hA0
  rw [Try.params18] at hA hval
  obtain ⟨rfl, rfl⟩ := trodVars_none hV
  obtain ⟨v0, v1, d0, d1, p0, p1, rfl, rfl, rfl, h0, h1⟩ := trodAll_two hA
  obtain ⟨x0, hx0⟩ := open_sl Try.underlying73 opens_raws (hval 0 73 v0 rfl rfl) h0
  obtain ⟨x1, hx1⟩ := open_sl Try.underlying73 opens_raws (hval 1 73 v1 rfl rfl) h1
  refine (mergesGrow_walk v0 x0 v1 x1 W hx0 hx1).mono fun e W' ⟨he, hb⟩ => ?_
  subst he
  exact ⟨_, rfl, law_post hW' laidOut (by rw [Try.params18]; intro t ht; simp at ht; subst ht; exact ⟨by kernel_rfl, of_decide_eq_true (by kernel_rfl)⟩) rfl rfl Try.underlying4 rfl rfl rfl hb⟩

theorem mergesGrow_holds : Rows.MergesGrowSaid :=
  OpenClaim.holds_of_wide 18 Try.f18 rfl rfl rfl rfl rfl rfl rfl ⟨rfl, rfl, rfl, rfl, rfl⟩ rfl rfl rfl rfl rfl (by kernel_rfl) Try.func18 (by kernel_rfl)
    (of_decide_eq_true (by kernel_rfl)) (by unfold Func.isWrapper; rw [if_neg (of_decide_eq_false (by kernel_rfl))]; exact ⟨rfl, rfl⟩)
    (fun os started H enc _ => mergesGrow_lifted os started H enc)
#print axioms mergesGrow_holds
end Go.Proofs.Ytbpamllmbdcdfaa
