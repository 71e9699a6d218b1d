/-
  Proved here: the law StoreEncodes returns true for every list of entries, with no condition.
-/
import Derived.Test.YtbpamllmbdcdfaaStI
import Derived.Laws.IdiomStrings
import Derived.Laws.BytesArg
namespace Go.Proofs.Ytbpamllmbdcdfaa
open Go.RowKit Go.ChangeShapes Go.WideShapes Go.ChangeAt

theorem conv_str {w : World} {v : Value} {xs : List UInt8} (h : Sl byteR w v xs) : (convert 45 9 v).run Try.prog w = .ok (.string ⟨xs.toArray⟩) w := by
  obtain ⟨A, c, rfl⟩ := h.form
  rcases A with _ | ad
  · have hx : xs = [] := by
      rcases Nat.eq_zero_or_pos xs.length with h0 | h0
      · exact List.eq_nil_of_length_eq_zero h0
      · obtain ⟨_, _, h, _⟩ := h.at_ h0; cases h
    subst hx
    exact run_convert_bytes_nil w 45 5 Try.underlying45 Try.underlying5 0 c _ Try.underlying9
  · refine run_convert_bytes_back w 45 9 5 ad c xs Try.underlying45 Try.underlying5 Try.underlying9 fun j hj => ?_
    obtain ⟨b, off, hA, _⟩ := h.at_ hj
    injection hA with hA
    subst hA
    obtain ⟨cs, ⟨rfl, _⟩, hc⟩ := h.cell hj
    have h1 := hc 0 _ rfl
    have e : ((⟨b, off, none⟩ : Addr).add j) = ⟨b, off + j * byteR.size + 0, none⟩ := by
      unfold Addr.add
      split
      · rename_i hz; simp [hz]
      · simp [byteR, flatR]
    rw [e]; exact h1

set_option maxHeartbeats 1000000 in
theorem storeEncodes_walk (v : Value) (xs : List Entry) (w : World) (h : Sl entR w v xs) :
    Calls Try.prog 10 #[v] w fun e w' => e = .returned (.bool true) ∧ Below w.heap.size w w' := by
  have H := Go.Lib.hid h
  clear h
  go_enter Try.func10, Try.ntmps10
  go_wp2_with fail
  refine (encode_any _ _ _ H.out).mono ?_
  rintro e w1 ⟨v1, rfl, ho1, hb1⟩
  have HB1 := Go.Lib.hid hb1
  have H1 := Go.Lib.hid (H.out.below hb1)
  have HO1 := Go.Lib.hid ho1
  clear hb1 ho1
  go_wp2_with fail
  refine (storeBytes_any _ _ _ H1.out).mono ?_
  rintro e w2 ⟨v2, rfl, ho2, hb2⟩
  have q1 := conv_str ((HO1.out.keep hb2).sl (by decide))
  have q2 := conv_str (ho2.sl (by decide))
  have HB2 := Go.Lib.hid (HB1.out.trans (hb2.mono HB1.out.size))
  clear hb2 ho2
  go_wp2_with fail
  go_ret
  exact ⟨eb (by simp), HB2.out⟩

set_option maxRecDepth 100000 in
theorem storeEncodes_lifted (os : Os) (started : os.Started) (H : Type) (enc : TypeId × Value → H) :
    ReturnsInHanded {} Try.checked os 10 .any (Rows.storeEncodesSpec.pre6 enc Try.prog Try.f10 Rows.storeEncodesRow.domain false) (Rows.storeEncodesSpec.post enc Try.prog Try.f10 false true false false) := by
  refine returnsInHanded_of_change (C := Try.checked) own started (by kernel_rfl) Try.func10
    (ChangeSpec.witness6 (enc := enc) (C := Try.checked) false ⟨#[], #[.slice none 0 0], []⟩ 8 (by kernel_rfl) (by kernel_rfl) (by kernel_rfl) (by kernel_rfl)) ?_
  intro W base args ds gs before hval0 hW _ _
  have hval : ∀ (j : Nat) t v, Try.f10.params[j]? = some t → args[j]? = some v → Value.okWide Try.prog W .any base t v := hval0
  have hW' := hW
  obtain ⟨p, q, hA0, hV, rfl, hfz, _⟩ := hW
  have hA : DataW.TrodAll enc Try.prog W 0 (fun _ => true) true Try.f10.params.toList args.toList ds p := hA0
  rw [Try.params10] at hA hval
  obtain ⟨rfl, rfl⟩ := trodVars_none hV
  obtain ⟨v0, d0, rfl, rfl, h0⟩ := trodAll_one hA
  obtain ⟨x0, hx0⟩ := open_sl Try.underlying35 opens_ents (hval 0 35 v0 rfl rfl) h0
  refine (storeEncodes_walk v0 x0 W hx0).mono fun e W' ⟨he, hb⟩ => ?_
  subst he
  exact ⟨_, rfl, law_post hW' laidOut (by rw [Try.params10]; intro t ht; simp at ht; subst ht; exact ⟨by kernel_rfl, of_decide_eq_true (by kernel_rfl)⟩) rfl rfl Try.underlying4 rfl rfl rfl hb⟩

theorem storeEncodes_holds : Rows.StoreEncodesSaid :=
  OpenClaim.holds_of_wide 10 Try.f10 rfl rfl rfl rfl rfl rfl rfl ⟨rfl, rfl, rfl, rfl, rfl⟩ rfl rfl rfl rfl rfl (by kernel_rfl) Try.func10 (by kernel_rfl)
    (of_decide_eq_true (by kernel_rfl)) (by unfold Func.isWrapper; rw [if_neg (of_decide_eq_false (by kernel_rfl))]; exact ⟨rfl, rfl⟩)
    (fun os started H enc _ => storeEncodes_lifted os started H enc)
#print axioms storeEncodes_holds
end Go.Proofs.Ytbpamllmbdcdfaa
