/-
  copied, Lookup, FoundOf, walked.
-/
import Derived.Test.YtbpamllmbdcdfaaRibF
namespace Go.Proofs.Ytbpamllmbdcdfaa
open Go.RowKit Go.Sort

theorem OwR.lower {α : Type} {r : Rep α} {E base base' : Nat} {w : World} {v : Value} {xs : List α} (h : OwR r E base w v xs) (hb : base' ≤ base) : OwR r E base' w v xs := by
  obtain ⟨css, g1, g2, g3, g4⟩ := h
  refine ⟨css, g1, g2, ⟨g3.1, ?_⟩, by omega⟩
  rcases g3.2 with h | ⟨g, cap, cur, a1, a2, a3⟩
  · exact .inl h
  · exact .inr ⟨g, cap, cur, a1, by omega, a3⟩

theorem OwR.form {α : Type} {r : Rep α} {E base : Nat} {w : World} {v : Value} {xs : List α} (h : OwR r E base w v xs) : ∃ A c, v = .slice A xs.length c := by
  obtain ⟨css, g1, g2, g3, g4⟩ := h
  rcases g3.2 with ⟨rfl, h⟩ | ⟨g, cap, cur, rfl, _⟩
  · exact ⟨none, 0, by rw [h]⟩
  · exact ⟨_, _, rfl⟩
theorem pastAlloc2F {wr w1 : World} {cs ds : Array Value} {t u : TypeId} (h : Below ((wr.alloc (.cells cs t)).alloc (.cells ds u)).heap.size ((wr.alloc (.cells cs t)).alloc (.cells ds u)) w1) :
    (∀ i, w1.frozen? ⟨wr.heap.size, i, none⟩ = false) ∧ (∀ i, w1.frozen? ⟨wr.heap.size + 1, i, none⟩ = false) := by
  obtain ⟨h1, h2, h3, h4⟩ := pastAlloc h
  rw [World.size_alloc] at h1 h2 h3 h4
  obtain ⟨g1, g2, g3, _⟩ := pastAlloc (wr := wr) (w1 := w1) (cs := cs) (t := t) (by rw [World.size_alloc]; exact h1)
  exact ⟨g3, h3⟩
theorem grown_setCell (w : World) (p : Addr) (u : Value) : w.grownBy (w.setCell p u) (some p.block) :=
  ⟨rfl, rfl, rfl, by simp [World.setCell], fun k _ hne => Below.heap_setCell _ _ _ _ (fun e => hne (by rw [e]))⟩
theorem OwR.setCellI {E base : Nat} {w : World} {v : Value} {xs : List Int} (h : OwR intR E base w v xs) {p : Addr} (hp : p.block < base) (u : Value) : OwR intR E base (w.setCell p u) v xs :=
  h.kept (grown_setCell w p u) (.inr (fun e => by have := (h.base_le _ e).1; omega))
/-- a call has made a copy of a route -/
def CopPost (w : World) (r : Route) (e : Ending) (w' : World) : Prop :=
  ∃ v', e = .returned (.agg #[.int .i64 r.pre.addr, .int .i64 r.pre.bits, .bool r.here, .int .i64 r.cost, v']) ∧ OwR intR 3 w.heap.size w' v' r.hops ∧ Below w.heap.size w w'

set_option maxHeartbeats 1000000 in
theorem copied_any (r : Route) (v : Value) (w : World) (h : Sl intR w v r.hops) (hl : r.hops.length ≤ 1000) :
    Calls Try.prog 83 #[.agg #[.int .i64 r.pre.addr, .int .i64 r.pre.bits, .bool r.here, .int .i64 r.cost, v]] w (CopPost w r) := by
  obtain ⟨A, c, rfl⟩ := h.form
  obtain ⟨hs, hhs⟩ : ∃ hs, r.hops = hs := ⟨_, rfl⟩
  rw [hhs] at h hl ⊢
  have HHS := Go.Lib.hid hhs
  have hb : Below w.heap.size w ((w.alloc (.cells #[.int .i64 r.pre.addr, .int .i64 r.pre.bits, .bool r.here, .int .i64 r.cost, .slice A hs.length c] 54)).alloc (.cells #[.int .i64 0, .int .i64 0, .bool false, .int .i64 0, .slice none 0 0] 54)) := ((Below.refl _ _).alloc (Nat.le_refl _) _).alloc (by simp) _
  have hcl := cloneI_any _ hs _ (h.below hb) (by omega)
  have HCL := Go.Lib.hid hcl
  clear h hb hcl hhs
  go_enter Try.func83, Try.ntmps83
  go_wp2_with fail
  refine HCL.out.mono ?_
  rintro e w1 ⟨v1, rfl, ho1, hb1⟩
  obtain ⟨A1, c1, rfl⟩ := ho1.form
  obtain ⟨hA, hN, hM, hS⟩ := pastAlloc2 hb1
  obtain ⟨hF1, hF2⟩ := pastAlloc2F hb1
  have HA := Go.Lib.hid hA
  have HO := Go.Lib.hid ho1
  clear hA hb1 ho1 HCL
  go_wp2_with fail
  refine bodyPost_ret (v := .agg #[.int .i64 r.pre.addr, .int .i64 r.pre.bits, .bool r.here, .int .i64 r.cost, .slice A1 hs.length c1]) (by simp [results, Try.results83, go_sem, *]) rfl ⟨_, rfl, ?_, ?_⟩
  · have h0 : OwR intR 3 (w.heap.size + 1 + 1) w1 (.slice A1 hs.length c1) hs := by
      have := HO.out
      rw [World.size_alloc, World.size_alloc] at this
      exact this
    rw [HHS.out]
    refine OwR.lower (base := w.heap.size + 1 + 1) ?_ (by omega)
    iterate 6 refine OwR.setCellI ?_ (by dsimp only; omega) _
    exact h0
  · iterate 6 refine Below.setCell ?_ (by dsimp only; omega) _
    exact HA.out
end Go.Proofs.Ytbpamllmbdcdfaa
