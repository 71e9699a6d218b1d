/-
  Proved here: the law StoresBack returns true for every list of raw things, every place and every byte, with no condition.
-/
import Derived.Test.YtbpamllmbdcdfaaKeC
import Derived.Test.YtbpamllmbdcdfaaKeD
import Derived.Test.YtbpamllmbdcdfaaKeO
import Derived.Test.YtbpamllmbdcdfaaDeD
namespace Go.Proofs.Ytbpamllmbdcdfaa
open Go.RowKit Go.ChangeShapes Go.WideShapes Go.ChangeAt Go.Deep

set_option maxRecDepth 100000 in
set_option maxHeartbeats 2000000 in
theorem storesBack_walk (v : Value) (xs : List Raw) (at_ : Int) (by_ : UInt8) (w : World) (h : Sl rawR w v xs) (hat : inR at_) :
    Calls Try.prog 21 #[v, .int .i64 at_, .int .u8 by_.toNat] w fun e w' => e = .returned (.bool true) ∧ Below w.heap.size w w' := by
  have H := Go.Lib.hid h
  clear h
  go_enter Try.func21, Try.ntmps21
  go_wp2_with fail
  refine (tells_any w).mono ?_
  rintro e w1 ⟨rfl, hb1⟩
  have HB1 := Go.Lib.hid hb1
  have HS1 := Go.Lib.hid (store_any v xs 20 w1 (H.out.below hb1) (by omega))
  clear hb1
  go_wp2_with fail
  refine HS1.out.mono ?_
  rintro e w2 ⟨v2, rfl, hs2, hb2⟩
  have HB2 := Go.Lib.hid (HB1.out.trans (hb2.mono HB1.out.size))
  have hok := stoS_ok (xs.take 20)
  obtain ⟨s, hs⟩ : ∃ s, stoS (xs.take 20) = s := ⟨_, rfl⟩
  rw [hs] at hok hs2
  have HS2 := Go.Lib.hid hs2
  have hen := encode_any v2 s w2 hs2
  unfold EncPost at hen
  have hee : encR s = encS s := by unfold encR; rw [if_pos hok.check]
  rw [hok.check, hee] at hen
  have HEN := Go.Lib.hid hen
  obtain ⟨le1, le2, _⟩ := encS_len s hok
  have hd1 := decS_enc hok
  have hd2 := decS_more hok (b8 0)
  obtain ⟨B, hB⟩ : ∃ B, encS s = B := ⟨_, rfl⟩
  rw [hB] at le1 le2 hd1 hd2
  have hd3 : ∀ (i : Nat) (hi : i < B.length) (c : UInt8), c ≠ B[i] → (decS (B.set i c)).2 ≠ 0 := by subst hB; exact decS_spoilt hok
  rw [hB] at HEN
  have HD1 := Go.Lib.hid hd1
  have HD2 := Go.Lib.hid hd2
  have HD3 := Go.Lib.hid hd3
  obtain ⟨nB, hnB⟩ : ∃ n, B.length = n := ⟨_, rfl⟩
  have HNB := Go.Lib.hid hnB
  rw [hnB] at le1 le2
  clear hb2 hs hs2 hen hee hd1 hd2 hd3 hB hnB hok
  go_wp2_with fail
  refine HEN.out.mono ?_
  rintro e w3 ⟨v3, rfl, ho3, hb3⟩
  have HB3 := Go.Lib.hid (HB2.out.trans (hb3.mono HB2.out.size))
  have HX3 := Go.Lib.hid (HS2.out.below hb3)
  have HV3 := Go.Lib.hid (ho3.sl (by decide))
  have hde := decode_any v3 B w3 HV3.out
  unfold DecPost at hde
  rw [HD1.out] at hde
  have HDE := Go.Lib.hid hde
  clear ho3 hb3 hde
  go_wp2_with fail
  refine HDE.out.mono ?_
  rintro e w4 ⟨v4, rfl, ho4, hb4⟩
  have HB4 := Go.Lib.hid (HB3.out.trans (hb4.mono HB3.out.size))
  have HX4 := Go.Lib.hid (HX3.out.below hb4)
  have HV4 := Go.Lib.hid (HV3.out.below hb4)
  have HY4 := Go.Lib.hid (ho4.sl (by decide))
  have HCL := Go.Lib.hid (cloneB_any v3 B w4 HV4.out (by rw [HNB.out]; omega))
  clear ho4 hb4
  go_wp2_with fail
  refine HCL.out.mono ?_
  rintro e w5 ⟨v5, rfl, ho5, hb5⟩
  have HB45 := Go.Lib.hid hb5
  have HO5 := Go.Lib.hid ho5
  have HONE := Go.Lib.hid (one_byte (w := w5) (E := 5) (x := 0) (by omega) (by omega))
  have HLN := Go.Lib.hid (show B.length + [b8 0].length ≤ 140737488355328 by rw [HNB.out]; simp; omega)
  clear ho5 hb5
  go_wp2_with (at_builtin; refine wpList_bytes (base := w4.heap.size) rfl (.tmp 33) (.tmp 34) rfl (HO5.out.alloc1 _) HONE.out rfl rfl HLN.out ?_; intro v6 w6 ho6 hg6)
  have hb46 := (HB45.out.alloc HB45.out.size (.cells #[.int .u8 0] 5)).grown hg6.grown (by have := HB45.out.size; simp; omega) (fun k e => (HO5.out.base_le k e).1)
  have HX6 := Go.Lib.hid (HX4.out.below hb46)
  have HV6 := Go.Lib.hid (HV4.out.below hb46)
  have HY6 := Go.Lib.hid (HY4.out.below hb46)
  have HB6 := Go.Lib.hid (HB4.out.trans (hb46.mono HB4.out.size))
  have hde2 := decode_any v6 (B ++ [b8 0]) w6 (ho6.sl (by decide))
  obtain ⟨d2, hd2⟩ : ∃ d, decS (B ++ [b8 0]) = d := ⟨_, rfl⟩
  unfold DecPost at hde2
  rw [hd2] at hde2
  have HDE2 := Go.Lib.hid hde2
  have t2 : (d2.2 != 0) = true := by
    have := HD2.out
    rw [hd2] at this
    simpa using this
  clear ho6 hg6 hb46 hde2 hd2
  go_wp2_with fail
  refine HDE2.out.mono ?_
  rintro e w7 ⟨v7, rfl, ho7, hb7⟩
  have HB7 := Go.Lib.hid (HB6.out.trans (hb7.mono HB6.out.size))
  have HX7 := Go.Lib.hid (HX6.out.below hb7)
  have HY7 := Go.Lib.hid (HY6.out.below hb7)
  have HCL2 := Go.Lib.hid (cloneB_any v3 B w7 (HV6.out.below hb7) (by rw [HNB.out]; omega))
  clear ho7 hb7
  go_wp2_with fail
  refine HCL2.out.mono ?_
  rintro e w8 ⟨v8, rfl, ho8, hb8⟩
  have hpl := pickN_lt at_ nB (by omega)
  have HPK := Go.Lib.hid (picked_any at_ nB w8 hat (by omega) (by omega))
  obtain ⟨i, hi⟩ : ∃ i, pickN at_ nB = i := ⟨_, rfl⟩
  rw [hi] at hpl HPK
  obtain ⟨g, cap, hv8, hg1, hg2, hg3⟩ := ho8.atB (by rw [HNB.out]; omega)
  subst hv8
  have hiB : i < B.length := by rw [HNB.out]; exact hpl
  have fx := (ho8.sl (by decide)).byte hiB
  rw [Nat.zero_add] at fx
  have hset := ho8.setB rfl i (B[i] + by_)
  have hsp : B[i] + by_ ≠ B[i] → (decS (B.set i (B[i] + by_))).2 ≠ 0 := HD3.out i hiB (B[i] + by_)
  obtain ⟨y, hy⟩ : ∃ y, B[i] = y := ⟨_, rfl⟩
  rw [hy] at fx hset hsp
  have hab := add_byte y by_
  rw [IntKind.wrap_u8] at hab
  rw [← hab] at hset
  have hb79 : Below w7.heap.size w7 (w8.setCell ⟨g, i, none⟩ (.int .u8 (((y.toNat : Int) + (by_.toNat : Int)) % 256))) := hb8.setCell hg1 _
  have HX9 := Go.Lib.hid (HX7.out.below hb79)
  have HY9 := Go.Lib.hid (HY7.out.below hb79)
  have HB9 := Go.Lib.hid (HB7.out.trans (hb79.mono HB7.out.size))
  have hde3 := decode_any _ (B.set i (y + by_)) _ (hset.sl (by decide))
  obtain ⟨d3, hd3⟩ : ∃ d, decS (B.set i (y + by_)) = d := ⟨_, rfl⟩
  unfold DecPost at hde3
  rw [hd3] at hde3
  rw [HNB.out] at hde3 ⊢
  have HDE3 := Go.Lib.hid hde3
  have hby : ((by_.toNat : Int) == 0) = true ∨ ((by_.toNat : Int) == 0) = false ∧ (d3.2 != 0) = true := by
    by_cases hz : by_ = 0
    · left; rw [hz]; rfl
    · right
      refine ⟨?_, ?_⟩
      · simp only [beq_eq_false_iff_ne, ne_eq]
        intro e
        exact hz (UInt8.toNat_inj.1 (by show _ = 0; omega))
      · have := hsp (by
          intro e
          apply hz
          have h1 := congrArg UInt8.toNat e
          rw [UInt8.toNat_add] at h1
          have h2 := y.toNat_lt
          have h3 := by_.toNat_lt
          exact UInt8.toNat_inj.1 (by show _ = 0; omega))
        rw [hd3] at this
        simpa using this
  have HBY := Go.Lib.hid hby
  have i0 : (0 : Int) ≤ (i : Int) := Int.natCast_nonneg _
  have i1 : (i : Int) < (nB : Int) := by omega
  clear ho8 hb8 hi hset hsp hy hab hb79 hde3 hd3 hby hiB HCL HCL2
  go_wp2_with fail
  refine HPK.out.mono ?_
  rintro e w9 ⟨rfl, rfl⟩
  go_wp2_with fail
  refine HDE3.out.mono ?_
  rintro e w10 ⟨v10, rfl, ho10, hb10⟩
  have HB10 := Go.Lib.hid (HB9.out.trans (hb10.mono HB9.out.size))
  have HEQ := Go.Lib.hid (equalE_eq v2 v4 s w10 (HX9.out.below hb10) (HY9.out.below hb10))
  clear ho10 hb10 fx
  rcases HBY.out with hz | ⟨hz, hz2⟩
  · go_wp2_with fail
    refine HEQ.out.mono ?_
    rintro e w11 ⟨rfl, hb11⟩
    have HB11 := Go.Lib.hid (HB10.out.trans (hb11.mono HB10.out.size))
    clear hb11
    go_wp2_with fail
    go_ret
    exact ⟨rfl, HB11.out⟩
  · go_wp2_with fail
    refine HEQ.out.mono ?_
    rintro e w11 ⟨rfl, hb11⟩
    have HB11 := Go.Lib.hid (HB10.out.trans (hb11.mono HB10.out.size))
    clear hb11
    go_wp2_with fail
    go_ret
    exact ⟨rfl, HB11.out⟩

set_option maxRecDepth 100000 in
theorem storesBack_lifted (os : Os) (started : os.Started) (H : Type) (enc : TypeId × Value → H) :
    ReturnsInHanded {} Try.checked os 21 .any (Rows.storesBackSpec.pre6 enc Try.prog Try.f21 Rows.storesBackRow.domain false) (Rows.storesBackSpec.post enc Try.prog Try.f21 false true false false) := by
  refine returnsInHanded_of_change (C := Try.checked) own started (by kernel_rfl) Try.func21
    (ChangeSpec.witness6 (enc := enc) (C := Try.checked) false ⟨#[], #[.slice none 0 0, .int .i64 0, .int .u8 0], []⟩ 8 (by kernel_rfl) (by kernel_rfl) (by kernel_rfl) (by kernel_rfl)) ?_
  intro W base args ds gs before hval0 hW _ _
  have hval : ∀ (j : Nat) t v, Try.f21.params[j]? = some t → args[j]? = some v → Value.okWide Try.prog W .any base t v := hval0
  have hW' := hW
  obtain ⟨p, q, hA0, hV, rfl, hfz, _⟩ := hW
  have hA : DataW.TrodAll enc Try.prog W 0 (fun _ => true) true Try.f21.params.toList args.toList ds p := hA0
  rw [Try.params21] at hA hval
  obtain ⟨rfl, rfl⟩ := trodVars_none hV
  obtain ⟨v0, v1, v2, d0, d1, d2, p0, p1, p2, rfl, rfl, rfl, h0, h1, h2⟩ := trodAll_three hA
  obtain ⟨x0, hx0⟩ := open_sl Try.underlying73 opens_raws (hval 0 73 v0 rfl rfl) h0
  obtain ⟨x1, rfl, rfl, rfl, wx1⟩ := open_int Try.underlying3 (hval 1 3 v1 rfl rfl) h1
  have hx1 : inR x1 := inR_of wx1
  obtain ⟨y2, rfl, rfl, rfl, wx2⟩ := open_int Try.underlying5 (hval 2 5 v2 rfl rfl) h2
  obtain ⟨x2, rfl⟩ := byte_of wx2
  refine (storesBack_walk v0 x0 x1 x2 W hx0 hx1).mono fun e W' ⟨he, hb⟩ => ?_
  subst he
  exact ⟨_, rfl, law_post hW' laidOut (by rw [Try.params21]; intro t ht; simp at ht; rcases ht with rfl | rfl | rfl <;> exact ⟨by kernel_rfl, of_decide_eq_true (by kernel_rfl)⟩) rfl rfl Try.underlying4 rfl rfl rfl hb⟩

theorem storesBack_holds : Rows.StoresBackSaid :=
  OpenClaim.holds_of_wide 21 Try.f21 rfl rfl rfl rfl rfl rfl rfl ⟨rfl, rfl, rfl, rfl, rfl⟩ rfl rfl rfl rfl rfl (by kernel_rfl) Try.func21 (by kernel_rfl)
    (of_decide_eq_true (by kernel_rfl)) (by unfold Func.isWrapper; rw [if_neg (of_decide_eq_false (by kernel_rfl))]; exact ⟨rfl, rfl⟩)
    (fun os started H enc _ => storesBack_lifted os started H enc)
#print axioms storesBack_holds
end Go.Proofs.Ytbpamllmbdcdfaa
