/-
  Readings of prefixes and routes out of arguments.
-/
import Derived.Test.YtbpamllmbdcdfaaRibA
namespace Go.Proofs.Ytbpamllmbdcdfaa
open Go.RowKit Go.ChangeShapes Go.WideShapes Go.ChangeAt

theorem opens_pref : Opens Try.prog prefR 52 :=
  ⟨by kernel_rfl, fun H enc W fuel cs x h => by
    obtain ⟨hlen, hf⟩ := trod_fields Try.underlying52 h
    obtain ⟨a0, h0⟩ := hf _ intR 0 _ rfl (opens_int Try.underlying3 (by kernel_rfl))
    obtain ⟨a1, h1⟩ := hf _ intR 1 _ rfl (opens_int Try.underlying3 (by kernel_rfl))
    have hl : cs.length = 2 := hlen.trans (by kernel_rfl)
    match cs, hl with
    | [c0, c1], _ =>
      obtain ⟨e0, w0⟩ := h0
      obtain ⟨e1, w1⟩ := h1
      simp [intR, flatR] at e0 e1
      subst e0 e1
      exact ⟨⟨a0, a1⟩, rfl, w0, w1⟩⟩
theorem opens_prefs : Opens Try.prog (slR prefR) 32 := opens_slice Try.underlying32 (by kernel_rfl) (by decide) opens_pref
theorem opens_ints : Opens Try.prog (slR intR) 24 := opens_slice Try.underlying24 (by kernel_rfl) (by decide) (opens_int Try.underlying3 (by kernel_rfl))
theorem opens_route : Opens Try.prog routeR 54 :=
  ⟨by kernel_rfl, fun H enc W fuel cs x h => by
    obtain ⟨hlen, hf⟩ := trod_fields Try.underlying54 h
    obtain ⟨a0, h0⟩ := hf _ prefR 0 _ rfl opens_pref
    obtain ⟨a1, h1⟩ := hf _ boolR 1 _ rfl (opens_bool Try.underlying4 (by kernel_rfl))
    obtain ⟨a2, h2⟩ := hf _ intR 2 _ rfl (opens_int Try.underlying3 (by kernel_rfl))
    obtain ⟨a3, h3⟩ := hf _ (slR intR) 3 _ rfl opens_ints
    have hl : cs.length = 5 := hlen.trans (by kernel_rfl)
    match cs, hl with
    | [c0, c1, c2, c3, c4], _ =>
      obtain ⟨e0, w0⟩ := h0
      obtain ⟨e1, _⟩ := h1
      obtain ⟨e2, w2⟩ := h2
      obtain ⟨v, e3, w3⟩ := h3
      simp [prefR, boolR, intR, slR, flatR] at e0 e1 e2 e3
      obtain ⟨e0, e0'⟩ := e0
      subst e0 e0' e1 e2 e3
      exact ⟨⟨a0, a1, a2, a3⟩, c4, rfl, w3, w0.1, w0.2, w2⟩⟩
theorem opens_routes : Opens Try.prog (slR routeR) 42 := opens_slice Try.underlying42 (by kernel_rfl) (by decide) opens_route
end Go.Proofs.Ytbpamllmbdcdfaa
