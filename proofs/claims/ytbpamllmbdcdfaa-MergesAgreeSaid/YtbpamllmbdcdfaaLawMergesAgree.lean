/-
  Proved here: the law MergesAgree returns true for every three lists of raw things, with no condition.
-/
import Derived.Test.YtbpamllmbdcdfaaKeR
import Derived.Test.YtbpamllmbdcdfaaKeO
namespace Go.Proofs.Ytbpamllmbdcdfaa
open Go.RowKit Go.ChangeShapes Go.WideShapes Go.ChangeAt Go.Deep

set_option maxRecDepth 100000 in
set_option maxHeartbeats 4000000 in
theorem mergesAgree_walk (v : Value) (xs : List Raw) (u : Value) (ys : List Raw) (t : Value) (zs : List Raw) (w : World) (h : Sl rawR w v xs) (h2 : Sl rawR w u ys) (h3 : Sl rawR w t zs) :
    Calls Try.prog 19 #[v, u, t] w fun e w' => e = .returned (.bool true) ∧ Below w.heap.size w w' := by
  have H := Go.Lib.hid h
  have H2 := Go.Lib.hid h2
  have H3 := Go.Lib.hid h3
  clear h h2 h3
  go_enter Try.func19, Try.ntmps19
  go_wp2_with fail
  refine (tells_any w).mono ?_
  rintro e w1 ⟨rfl, hb1⟩
  have HB1 := Go.Lib.hid hb1
  have HS1 := Go.Lib.hid (store_any v xs 12 w1 (H.out.below hb1) (by omega))
  clear hb1
  go_wp2_with fail
  refine HS1.out.mono ?_
  rintro e w2 ⟨v2, rfl, hs2, hb2⟩
  have HB2 := Go.Lib.hid (HB1.out.trans (hb2.mono HB1.out.size))
  have HX2 := Go.Lib.hid hs2
  have HS2 := Go.Lib.hid (store_any u ys 12 w2 (H2.out.below HB2.out) (by omega))
  clear hb2 hs2
  go_wp2_with fail
  refine HS2.out.mono ?_
  rintro e w3 ⟨v3, rfl, hs3, hb3⟩
  have HB3 := Go.Lib.hid (HB2.out.trans (hb3.mono HB2.out.size))
  have HX3 := Go.Lib.hid (HX2.out.below hb3)
  have HY3 := Go.Lib.hid hs3
  have HS3 := Go.Lib.hid (store_any t zs 12 w3 (H3.out.below HB3.out) (by omega))
  clear hb3 hs3
  go_wp2_with fail
  refine HS3.out.mono ?_
  rintro e w4 ⟨v4, rfl, hs4, hb4⟩
  have HB4 := Go.Lib.hid (HB3.out.trans (hb4.mono HB3.out.size))
  have hx4 := HX3.out.below hb4
  have hy4 := HY3.out.below hb4
  have hz4 := hs4
  have okx := stoS_ok (xs.take 12)
  have oky := stoS_ok (ys.take 12)
  have okz := stoS_ok (zs.take 12)
  have lx := stoS_take_len xs 12
  have ly := stoS_take_len ys 12
  have lz := stoS_take_len zs 12
  obtain ⟨x, hx⟩ : ∃ s, stoS (xs.take 12) = s := ⟨_, rfl⟩
  obtain ⟨y, hy⟩ : ∃ s, stoS (ys.take 12) = s := ⟨_, rfl⟩
  obtain ⟨z, hz⟩ : ∃ s, stoS (zs.take 12) = s := ⟨_, rfl⟩
  rw [hx] at hx4 okx lx
  rw [hy] at hy4 oky ly
  rw [hz] at hz4 okz lz
  have HX4 := Go.Lib.hid hx4
  have HY4 := Go.Lib.hid hy4
  have HZ4 := Go.Lib.hid hz4
  have p1 := merge_comm okx oky (by omega)
  have p2 := merge_assoc okx oky okz (by omega)
  have p3 := merge_idem okx (by omega)
  have p4 := merge_again okx oky (by omega)
  have p5 := merge_keys okx oky
  have p6 := merge_okS okx oky
  have hmo : (mergeS aboveE x y).2.2 = 0 := by rw [merge_ok okx.check oky.check]
  obtain ⟨M, hM⟩ : ∃ M, mergeS aboveE x y = M := ⟨_, rfl⟩
  obtain ⟨m, ks, em⟩ := M
  have HM := Go.Lib.hid (merge_any v2 v3 x y w4 hx4 hy4 hy4.wfs hx4.wfs)
  rw [hM] at HM p1 p2 p4 p5 p6 hmo
  simp only at p1 p2 p4 p5 p6 hmo
  subst hmo
  have P1 := Go.Lib.hid p1
  have P2 := Go.Lib.hid p2
  have P3 := Go.Lib.hid p3
  have P4 := Go.Lib.hid p4
  have P5 := Go.Lib.hid p5
  have P6 := Go.Lib.hid p6
  clear hb4 hs4 hx4 hy4 hz4 okx oky okz lx ly lz hx hy hz p1 p2 p3 p4 p5 p6 hM
  go_wp2_with fail
  refine HM.out.mono ?_
  rintro e w5 ⟨v5, u5, rfl, ht5, hb5⟩
  have HB5 := Go.Lib.hid (HB4.out.trans (hb5.mono HB4.out.size))
  have HX5 := Go.Lib.hid (HX4.out.below hb5)
  have HY5 := Go.Lib.hid (HY4.out.below hb5)
  have HZ5 := Go.Lib.hid (HZ4.out.below hb5)
  have HM5 := Go.Lib.hid (ht5.out.sl (by decide))
  have hk5 := ht5.keys.sl (by decide)
  obtain ⟨A5, c5, hu5⟩ := hk5.form
  subst hu5
  have hkl := hk5.len_le
  obtain ⟨nk, hnk⟩ : ∃ n, ks.length = n := ⟨_, rfl⟩
  have HNK := Go.Lib.hid hnk
  rw [hnk] at hkl hk5 ⊢
  have HK5 := Go.Lib.hid hk5
  clear ht5 hb5 hk5 hnk
  simp only
  go_wp2_with fail
  go_loopw [14, 15, 16, 37] (fun _ _ _ s37 wr => ∃ k : Nat, k ≤ nk ∧ s37 = .int .i64 k ∧ Below w5.heap.size w5 wr) (fun _ _ _ s37 _ => nk - (intOf s37).toNat)
  case atStart => exact ⟨0, Nat.zero_le _, rfl, Below.refl _ _⟩
  case round =>
    obtain ⟨k, hk, rfl, hB⟩ := hrel
    have HB := Go.Lib.hid hB
    by_cases hlt : k < nk
    · have hks : k < ks.length := by rw [HNK.out]; exact hlt
      obtain ⟨b, off, rfl, hb⟩ := HK5.out.at_ hks
      have f1 := (HK5.out.below hB).str hks
      obtain ⟨p, hp1, hp2⟩ := P5.out ks[k] (List.getElem_mem hks)
      obtain ⟨ke, hke⟩ : ∃ e, ks[k] = e := ⟨_, rfl⟩
      rw [hke] at f1 hp1
      have HGET := Go.Lib.hid (get_any v5 m ke wr (HM5.out.below hB))
      rw [hp1] at HGET
      have HP2 := Go.Lib.hid hp2
      have HXR := Go.Lib.hid (HX5.out.below hB)
      have r0 : (0 : Int) ≤ (k : Int) := Int.natCast_nonneg _
      have r1 : (k : Int) < (nk : Int) := by omega
      have hez := hB.size
      clear hB hke hp1 hp2 hks
      go_wp2_with fail
      refine HGET.out.mono ?_
      rintro e w6 ⟨rfl, hb6⟩
      have hal : Below w6.heap.size w6 (w6.alloc (.cells #[.string p.key, .int .i64 p.version, .int .i64 p.origin, .string p.value] 39)) := (Below.refl _ _).alloc (Nat.le_refl _) _
      have HCN := Go.Lib.hid (contains_none v2 x p _ ((HXR.out.below hb6).below hal) HP2.out)
      have hB6 := HB.out.trans (hb6.mono hez)
      have HB7 := Go.Lib.hid (hB6.trans (hal.mono hB6.size))
      unfold Entry.val at HCN ⊢
      simp only
      clear hb6 hal hB6
      go_wp2_with fail
      refine HCN.out.mono ?_
      rintro e w8 ⟨rfl, hb8⟩
      have HB8 := Go.Lib.hid (HB7.out.trans (hb8.mono HB7.out.size))
      clear hb8
      go_wp2_with fail
      go_roundw
      case rel => exact ⟨k + 1, by omega, by go_num, HB8.out⟩
      case measure => simp [intOf]; omega
    · have HB6 := Go.Lib.hid (HB5.out.trans (hB.mono HB5.out.size))
      have HX6 := Go.Lib.hid (HX5.out.below hB)
      have HY6 := Go.Lib.hid (HY5.out.below hB)
      have HZ6 := Go.Lib.hid (HZ5.out.below hB)
      have HM6 := Go.Lib.hid (HM5.out.below hB)
      have HMG := Go.Lib.hid (merge_any v5 v3 m y wr (HM5.out.below hB) (HY5.out.below hB) HY6.out.wfs HM6.out.wfs)
      rw [P4.out] at HMG
      clear hB HB
      go_wp2_with fail
      refine HMG.out.mono ?_
      rintro e w7 ⟨v7, u7, rfl, ht7, hb7⟩
      have HB7 := Go.Lib.hid (HB6.out.trans (hb7.mono HB6.out.size))
      have HX7 := Go.Lib.hid (HX6.out.below hb7)
      have HY7 := Go.Lib.hid (HY6.out.below hb7)
      have HZ7 := Go.Lib.hid (HZ6.out.below hb7)
      have HM7 := Go.Lib.hid (HM6.out.below hb7)
      have HA7 := Go.Lib.hid (ht7.out.sl (by decide))
      obtain ⟨A7, c7, hu7⟩ := (ht7.keys.sl (by decide)).form
      subst hu7
      have HC1 := Go.Lib.hid (merged_any v3 v2 y x w7 HY7.out HX7.out)
      rw [P1.out.symm] at HC1
      simp only [List.length_nil]
      clear ht7 hb7
      go_wp2_with fail
      refine HC1.out.mono ?_
      rintro e w8 ⟨v8, rfl, hs8, hb8⟩
      have HB8 := Go.Lib.hid (HB7.out.trans (hb8.mono HB7.out.size))
      have HX8 := Go.Lib.hid (HX7.out.below hb8)
      have HY8 := Go.Lib.hid (HY7.out.below hb8)
      have HZ8 := Go.Lib.hid (HZ7.out.below hb8)
      have HM8 := Go.Lib.hid (HM7.out.below hb8)
      have HA8 := Go.Lib.hid (HA7.out.below hb8)
      have HE1 := Go.Lib.hid (equalE_eq v5 v8 m w8 HM8.out hs8)
      clear hs8 hb8
      go_wp2_with fail
      refine HE1.out.mono ?_
      rintro e w9 ⟨rfl, hb9⟩
      have HB9 := Go.Lib.hid (HB8.out.trans (hb9.mono HB8.out.size))
      have HX9 := Go.Lib.hid (HX8.out.below hb9)
      have HY9 := Go.Lib.hid (HY8.out.below hb9)
      have HZ9 := Go.Lib.hid (HZ8.out.below hb9)
      have HM9 := Go.Lib.hid (HM8.out.below hb9)
      have HA9 := Go.Lib.hid (HA8.out.below hb9)
      have HC2 := Go.Lib.hid (merged_any v5 v4 m z w9 HM9.out HZ9.out)
      clear hb9
      go_wp2_with fail
      refine HC2.out.mono ?_
      rintro e w10 ⟨v10, rfl, hs10, hb10⟩
      have HB10 := Go.Lib.hid (HB9.out.trans (hb10.mono HB9.out.size))
      have HX10 := Go.Lib.hid (HX9.out.below hb10)
      have HM10 := Go.Lib.hid (HM9.out.below hb10)
      have HA10 := Go.Lib.hid (HA9.out.below hb10)
      have HV10 := Go.Lib.hid hs10
      have HC3 := Go.Lib.hid (merged_any v3 v4 y z w10 (HY9.out.below hb10) (HZ9.out.below hb10))
      clear hs10 hb10
      go_wp2_with fail
      refine HC3.out.mono ?_
      rintro e w11 ⟨v11, rfl, hs11, hb11⟩
      have HB11 := Go.Lib.hid (HB10.out.trans (hb11.mono HB10.out.size))
      have HX11 := Go.Lib.hid (HX10.out.below hb11)
      have HM11 := Go.Lib.hid (HM10.out.below hb11)
      have HA11 := Go.Lib.hid (HA10.out.below hb11)
      have HV11 := Go.Lib.hid (HV10.out.below hb11)
      have HC4 := Go.Lib.hid (merged_any v2 v11 x _ w11 HX11.out hs11)
      clear hs11 hb11
      go_wp2_with fail
      refine HC4.out.mono ?_
      rintro e w12 ⟨v12, rfl, hs12, hb12⟩
      rw [← P2.out] at hs12
      have HB12 := Go.Lib.hid (HB11.out.trans (hb12.mono HB11.out.size))
      have HX12 := Go.Lib.hid (HX11.out.below hb12)
      have HM12 := Go.Lib.hid (HM11.out.below hb12)
      have HA12 := Go.Lib.hid (HA11.out.below hb12)
      have HE2 := Go.Lib.hid (equalE_eq v10 v12 _ w12 (HV11.out.below hb12) hs12)
      clear hs12 hb12
      go_wp2_with fail
      refine HE2.out.mono ?_
      rintro e w13 ⟨rfl, hb13⟩
      have HB13 := Go.Lib.hid (HB12.out.trans (hb13.mono HB12.out.size))
      have HX13 := Go.Lib.hid (HX12.out.below hb13)
      have HM13 := Go.Lib.hid (HM12.out.below hb13)
      have HE3 := Go.Lib.hid (equalE_eq v7 v5 m w13 (HA12.out.below hb13) HM13.out)
      clear hb13
      go_wp2_with fail
      refine HE3.out.mono ?_
      rintro e w14 ⟨rfl, hb14⟩
      have HB14 := Go.Lib.hid (HB13.out.trans (hb14.mono HB13.out.size))
      have HX14 := Go.Lib.hid (HX13.out.below hb14)
      have HM14 := Go.Lib.hid (HM13.out.below hb14)
      have HC5 := Go.Lib.hid (merged_any v2 v2 x x w14 HX14.out HX14.out)
      rw [P3.out] at HC5
      clear hb14
      go_wp2_with fail
      refine HC5.out.mono ?_
      rintro e w15 ⟨v15, rfl, hs15, hb15⟩
      have HB15 := Go.Lib.hid (HB14.out.trans (hb15.mono HB14.out.size))
      have HM15 := Go.Lib.hid (HM14.out.below hb15)
      have HE4 := Go.Lib.hid (equalE_eq v15 v2 x w15 hs15 (HX14.out.below hb15))
      clear hs15 hb15
      go_wp2_with fail
      refine HE4.out.mono ?_
      rintro e w16 ⟨rfl, hb16⟩
      have HB16 := Go.Lib.hid (HB15.out.trans (hb16.mono HB15.out.size))
      have HCK := Go.Lib.hid (check_any v5 m w16 (HM15.out.below hb16))
      rw [P6.out.check] at HCK
      clear hb16
      go_wp2_with fail
      refine HCK.out.mono ?_
      rintro e w17 ⟨rfl, hb17⟩
      have HB17 := Go.Lib.hid (HB16.out.trans (hb17.mono HB16.out.size))
      clear hb17
      go_wp2_with fail
      go_ret
      exact ⟨rfl, HB17.out⟩

set_option maxRecDepth 100000 in
theorem mergesAgree_lifted (os : Os) (started : os.Started) (H : Type) (enc : TypeId × Value → H) :
    ReturnsInHanded {} Try.checked os 19 .any (Rows.mergesAgreeSpec.pre6 enc Try.prog Try.f19 Rows.mergesAgreeRow.domain false) (Rows.mergesAgreeSpec.post enc Try.prog Try.f19 false true false false) := by
  refine returnsInHanded_of_change (C := Try.checked) own started (by kernel_rfl) Try.func19
    (ChangeSpec.witness6 (enc := enc) (C := Try.checked) false ⟨#[], #[.slice none 0 0, .slice none 0 0, .slice none 0 0], []⟩ 8 (by kernel_rfl) (by kernel_rfl) (by kernel_rfl) (by kernel_rfl)) ?_
  intro W base args ds gs before hval0 hW _ _
  have hval : ∀ (j : Nat) t v, Try.f19.params[j]? = some t → args[j]? = some v → Value.okWide Try.prog W .any base t v := hval0
  have hW' := hW
  obtain ⟨p, q, hA0, hV, rfl, hfz, _⟩ := hW
  have hA : DataW.TrodAll enc Try.prog W 0 (fun _ => true) true Try.f19.params.toList args.toList ds p := hA0
  rw [Try.params19] at hA hval
  obtain ⟨rfl, rfl⟩ := trodVars_none hV
  obtain ⟨v0, v1, v2, d0, d1, d2, p0, p1, p2, rfl, rfl, rfl, h0, h1, h2⟩ := trodAll_three hA
  obtain ⟨x0, hx0⟩ := open_sl Try.underlying73 opens_raws (hval 0 73 v0 rfl rfl) h0
  obtain ⟨x1, hx1⟩ := open_sl Try.underlying73 opens_raws (hval 1 73 v1 rfl rfl) h1
  obtain ⟨x2, hx2⟩ := open_sl Try.underlying73 opens_raws (hval 2 73 v2 rfl rfl) h2
  refine (mergesAgree_walk v0 x0 v1 x1 v2 x2 W hx0 hx1 hx2).mono fun e W' ⟨he, hb⟩ => ?_
  subst he
  exact ⟨_, rfl, law_post hW' laidOut (by rw [Try.params19]; intro t ht; simp at ht; subst ht; exact ⟨by kernel_rfl, of_decide_eq_true (by kernel_rfl)⟩) rfl rfl Try.underlying4 rfl rfl rfl hb⟩

theorem mergesAgree_holds : Rows.MergesAgreeSaid :=
  OpenClaim.holds_of_wide 19 Try.f19 rfl rfl rfl rfl rfl rfl rfl ⟨rfl, rfl, rfl, rfl, rfl⟩ rfl rfl rfl rfl rfl (by kernel_rfl) Try.func19 (by kernel_rfl)
    (of_decide_eq_true (by kernel_rfl)) (by unfold Func.isWrapper; rw [if_neg (of_decide_eq_false (by kernel_rfl))]; exact ⟨rfl, rfl⟩)
    (fun os started H enc _ => mergesAgree_lifted os started H enc)
#print axioms mergesAgree_holds
end Go.Proofs.Ytbpamllmbdcdfaa
