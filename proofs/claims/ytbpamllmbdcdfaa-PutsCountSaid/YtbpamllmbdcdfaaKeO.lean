/-
  Readings of raw things out of arguments.
-/
import Derived.Test.YtbpamllmbdcdfaaKeA
namespace Go.Proofs.Ytbpamllmbdcdfaa
open Go.RowKit Go.ChangeShapes Go.WideShapes Go.ChangeAt

theorem opens_raw : Opens Try.prog rawR 80 :=
  ⟨by kernel_rfl, fun H enc W fuel cs x h => by
    obtain ⟨hlen, hf⟩ := trod_fields Try.underlying80 h
    obtain ⟨a0, h0⟩ := hf _ intR 0 _ rfl (opens_int Try.underlying3 (by kernel_rfl))
    obtain ⟨a1, h1⟩ := hf _ intR 1 _ rfl (opens_int Try.underlying3 (by kernel_rfl))
    obtain ⟨a2, h2⟩ := hf _ intR 2 _ rfl (opens_int Try.underlying3 (by kernel_rfl))
    obtain ⟨a3, h3⟩ := hf _ intR 3 _ rfl (opens_int Try.underlying3 (by kernel_rfl))
    have hl : cs.length = 4 := by rw [hlen]; kernel_rfl
    match cs, hl with
    | [c0, c1, c2, c3], _ =>
      obtain ⟨e0, w0⟩ := h0
      obtain ⟨e1, w1⟩ := h1
      obtain ⟨e2, w2⟩ := h2
      obtain ⟨e3, w3⟩ := h3
      simp [intR, flatR] at e0 e1 e2 e3
      subst e0 e1 e2 e3
      exact ⟨⟨a0, a1, a2, a3⟩, rfl, w0, w1, w2, w3⟩⟩
theorem opens_raws : Opens Try.prog (slR rawR) 73 := opens_slice Try.underlying73 (by kernel_rfl) (by decide) opens_raw
end Go.Proofs.Ytbpamllmbdcdfaa
