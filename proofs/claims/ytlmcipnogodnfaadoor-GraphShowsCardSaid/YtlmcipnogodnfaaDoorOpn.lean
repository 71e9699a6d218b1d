/-
  Arguments of links and prefixes opened to plain data.
-/
import Derived.Test.YtlmcipnogodnfaaDoorGrB
namespace Go.Proofs.YtlmcipnogodnfaaDoor
open Go.RowKit Go.ChangeShapes Go.WideShapes Go.ChangeAt

theorem opens_pref : Opens Tryd.prog prefR 49 :=
  ⟨by kernel_rfl, fun H enc W fuel cs x h => by
    obtain ⟨hlen, hf⟩ := trod_fields Tryd.underlying49 h
    obtain ⟨a0, h0⟩ := hf _ intR 0 _ rfl (opens_int Tryd.underlying3 (by kernel_rfl))
    obtain ⟨a1, h1⟩ := hf _ intR 1 _ rfl (opens_int Tryd.underlying3 (by kernel_rfl))
    have hl : cs.length = 2 := hlen.trans (by kernel_rfl)
    match cs, hl with
    | [c0, c1], _ =>
      obtain ⟨e0, w0⟩ := h0
      obtain ⟨e1, w1⟩ := h1
      simp [intR, flatR] at e0 e1
      subst e0 e1
      exact ⟨⟨a0, a1⟩, rfl, w0, w1⟩⟩
theorem opens_prefs : Opens Tryd.prog (slR prefR) 29 := opens_slice Tryd.underlying29 (by kernel_rfl) (by decide) opens_pref

structure AdjV where
  drain : Bool
  v : Value
  sides : List Side

theorem opens_side : Opens Tryd.prog sideR 47 :=
  ⟨by kernel_rfl, fun H enc W fuel cs x h => by
    obtain ⟨hlen, hf⟩ := trod_fields Tryd.underlying47 h
    obtain ⟨a0, h0⟩ := hf _ intR 0 _ rfl (opens_int Tryd.underlying3 (by kernel_rfl))
    obtain ⟨a1, h1⟩ := hf _ intR 1 _ rfl (opens_int Tryd.underlying3 (by kernel_rfl))
    have hl : cs.length = 2 := hlen.trans (by kernel_rfl)
    match cs, hl with
    | [c0, c1], _ =>
      obtain ⟨e0, w0⟩ := h0
      obtain ⟨e1, w1⟩ := h1
      simp [intR, flatR] at e0 e1
      subst e0 e1
      exact ⟨⟨a0, a1⟩, rfl, w0, w1⟩⟩
theorem opens_sides : Opens Tryd.prog (slR sideR) 22 := opens_slice Tryd.underlying22 (by kernel_rfl) (by decide) opens_side

set_option maxRecDepth 100000 in
theorem open_adj {H : Type} {enc : TypeId × Value → H} {W : World} {b : Nat} {q : Reach} {v : Value} {d : DataW H} {p : List MemPlace}
    (hv : Value.okWide Tryd.prog W q b 24 v) (hr : DataW.Trod enc Tryd.prog W 0 (fun _ => true) true 24 v d p) : ∃ x : AdjV, v = .agg #[.bool x.drain, x.v] ∧ Sl sideR W x.v x.sides := by
  obtain ⟨cs, rfl, hsz⟩ := okWide_struct Tryd.underlying24 hv
  obtain ⟨fuel, hf⟩ := hr
  obtain ⟨hlen, hf⟩ := trod_fields Tryd.underlying24 hf
  obtain ⟨a0, h0⟩ := hf _ boolR 0 _ rfl (opens_bool Tryd.underlying4 (by kernel_rfl))
  obtain ⟨a1, h1⟩ := hf _ (slR sideR) 1 _ rfl opens_sides
  have hl : cs.toList.length = 2 := hlen.trans (by kernel_rfl)
  obtain ⟨l⟩ := cs
  match l, hl with
  | [c0, c1], _ =>
    obtain ⟨e0, _⟩ := h0
    obtain ⟨v1, e1, w1⟩ := h1
    simp [Value.cells, boolR, flatR] at e0
    simp [Value.cells, slR] at e1
    subst e0 e1
    exact ⟨⟨a0, c1, a1⟩, rfl, w1⟩

end Go.Proofs.YtlmcipnogodnfaaDoor
