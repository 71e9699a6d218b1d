/-
  string(b), of bytes.
-/
import Derived.Test.YtlmcipnogodnfaaDoorOwn
import Derived.Laws.IdiomStrings
import Derived.Laws.BytesArg
namespace Go.Proofs.YtlmcipnogodnfaaDoor
open Go.RowKit Go.ChangeShapes Go.WideShapes Go.ChangeAt

theorem conv_str {w : World} {v : Value} {xs : List UInt8} (h : Sl byteR w v xs) : (convert 86 9 v).run Tryd.prog w = .ok (.string ⟨xs.toArray⟩) w := by
  obtain ⟨A, c, rfl⟩ := h.form
  rcases A with _ | ad
  · have hx : xs = [] := by
      rcases Nat.eq_zero_or_pos xs.length with h0 | h0
      · exact List.eq_nil_of_length_eq_zero h0
      · obtain ⟨_, _, h, _⟩ := h.at_ h0; cases h
    subst hx
    exact run_convert_bytes_nil w 86 5 Tryd.underlying86 Tryd.underlying5 0 c _ Tryd.underlying9
  · refine run_convert_bytes_back w 86 9 5 ad c xs Tryd.underlying86 Tryd.underlying5 Tryd.underlying9 fun j hj => ?_
    obtain ⟨b, off, hA, _⟩ := h.at_ hj
    injection hA with hA
    subst hA
    obtain ⟨cs, ⟨rfl, _⟩, hc⟩ := h.cell hj
    have h1 := hc 0 _ rfl
    have e : ((⟨b, off, none⟩ : Addr).add j) = ⟨b, off + j * byteR.size + 0, none⟩ := by
      unfold Addr.add
      split
      · rename_i hz; simp [hz]
      · simp [byteR, flatR]
    rw [e]; exact h1
end Go.Proofs.YtlmcipnogodnfaaDoor
