/-
  Proved here: the law StoresOnce returns true for every slice of bytes, with no condition.
-/
import Derived.Test.YtbpamllmbdcdfaaDeD
import Derived.Test.YtbpamllmbdcdfaaRow2
import Derived.Test.YtbpamllmbdcdfaaCnv
namespace Go.Proofs.Ytbpamllmbdcdfaa
open Go.RowKit Go.ChangeShapes Go.WideShapes Go.ChangeAt Go.Deep

set_option maxRecDepth 100000 in
set_option maxHeartbeats 1000000 in
theorem storesOnce_walk (v : Value) (xs : List UInt8) (w : World) (h : Sl byteR w v xs) :
    Calls Try.prog 15 #[v] w fun e w' => e = .returned (.bool true) ∧ Below w.heap.size w w' := by
  have H := Go.Lib.hid h
  clear h
  go_enter Try.func15, Try.ntmps15
  go_wp2_with fail
  refine (decode_any _ xs _ H.out).mono ?_
  rintro e w1 ⟨v1, rfl, ho1, hb1⟩
  obtain ⟨ys, n, hr⟩ : ∃ ys n, decS xs = (ys, n) := ⟨_, _, rfl⟩
  rw [hr] at ho1 ⊢
  have HB1 := Go.Lib.hid hb1
  have HS1 := Go.Lib.hid (ho1.sl (by decide))
  have HR := Go.Lib.hid hr
  have H1 := Go.Lib.hid (H.out.below hb1)
  clear hb1 ho1 hr
  obtain ⟨A1, c1, rfl⟩ := HS1.out.form
  by_cases hn : n = 0
  · subst hn
    have hok := decS_ok HR.out
    have HEN := Go.Lib.hid (encode_any _ ys _ HS1.out)
    have hck := hok.1
    have hes : encR ys = xs := by unfold encR; rw [if_pos hok.1]; exact hok.2
    unfold EncPost at HEN
    rw [hck, hes] at HEN
    clear hok hck hes
    go_wp2_with fail
    refine HEN.out.mono ?_
    rintro e w2 ⟨v2, rfl, ho2, hb2⟩
    have q1 := conv_str (ho2.sl (by decide))
    have q2 := conv_str (H1.out.below hb2)
    have HB2 := Go.Lib.hid (HB1.out.trans (hb2.mono HB1.out.size))
    clear hb2 ho2
    go_wp2_with fail
    go_ret
    exact ⟨eb (by simp), HB2.out⟩
  · have hnil := decS_bad HR.out hn
    subst hnil
    have t1 : (n != 0) = true := by simpa using hn
    clear hn
    go_wp2_with fail
    go_ret
    exact ⟨rfl, HB1.out⟩

set_option maxRecDepth 100000 in
theorem storesOnce_lifted (os : Os) (started : os.Started) (H : Type) (enc : TypeId × Value → H) :
    ReturnsInHanded {} Try.checked os 15 .any (Rows.storesOnceSpec.pre6 enc Try.prog Try.f15 Rows.storesOnceRow.domain false) (Rows.storesOnceSpec.post enc Try.prog Try.f15 false true false false) := by
  refine returnsInHanded_of_change (C := Try.checked) own started (by kernel_rfl) Try.func15
    (ChangeSpec.witness6 (enc := enc) (C := Try.checked) false ⟨#[], #[.slice none 0 0], []⟩ 8 (by kernel_rfl) (by kernel_rfl) (by kernel_rfl) (by kernel_rfl)) ?_
  intro W base args ds gs before hval0 hW _ _
  have hval : ∀ (j : Nat) t v, Try.f15.params[j]? = some t → args[j]? = some v → Value.okWide Try.prog W .any base t v := hval0
  have hW' := hW
  obtain ⟨p, q, hA0, hV, rfl, hfz, _⟩ := hW
  have hA : DataW.TrodAll enc Try.prog W 0 (fun _ => true) true Try.f15.params.toList args.toList ds p := hA0
  rw [Try.params15] at hA hval
  obtain ⟨rfl, rfl⟩ := trodVars_none hV
  obtain ⟨v0, d0, rfl, rfl, h0⟩ := trodAll_one hA
  obtain ⟨x0, hx0⟩ := open_sl Try.underlying45 opens_bytes (hval 0 45 v0 rfl rfl) h0
  refine (storesOnce_walk v0 x0 W hx0).mono fun e W' ⟨he, hb⟩ => ?_
  subst he
  exact ⟨_, rfl, law_post hW' laidOut (by rw [Try.params15]; intro t ht; simp at ht; subst ht; exact ⟨by kernel_rfl, of_decide_eq_true (by kernel_rfl)⟩) rfl rfl Try.underlying4 rfl rfl rfl hb⟩

theorem storesOnce_holds : Rows.StoresOnceSaid :=
  OpenClaim.holds_of_wide 15 Try.f15 rfl rfl rfl rfl rfl rfl rfl ⟨rfl, rfl, rfl, rfl, rfl⟩ rfl rfl rfl rfl rfl (by kernel_rfl) Try.func15 (by kernel_rfl)
    (of_decide_eq_true (by kernel_rfl)) (by unfold Func.isWrapper; rw [if_neg (of_decide_eq_false (by kernel_rfl))]; exact ⟨rfl, rfl⟩)
    (fun os started H enc _ => storesOnce_lifted os started H enc)
#print axioms storesOnce_holds
end Go.Proofs.Ytbpamllmbdcdfaa
