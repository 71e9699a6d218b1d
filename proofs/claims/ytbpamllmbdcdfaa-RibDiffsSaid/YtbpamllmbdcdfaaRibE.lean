/-
  Walks of the rib layer, part E: Clone of hops, copied, Lookup, FoundOf.
-/
import Derived.Test.YtbpamllmbdcdfaaRibC
import Derived.Test.YtbpamllmbdcdfaaRibD
import Derived.WalkSpells
import Derived.Lib.SliceRun
namespace Go.Proofs.Ytbpamllmbdcdfaa
open Go.RowKit Go.Sort

/-- a route's value that reads as r -/
def RouteAt (w : World) (r : Route) (u : Value) : Prop := ∃ v, u = .agg #[.int .i64 r.pre.addr, .int .i64 r.pre.bits, .bool r.here, .int .i64 r.cost, v] ∧ Sl intR w v r.hops ∧ r.wf

set_option maxHeartbeats 1000000 in
theorem cloneI_any (v : Value) (xs : List Int) (w : World) (h : Sl intR w v xs) (hl : xs.length ≤ 1000000) :
    Calls Try.prog 106 #[v] w fun e w' => ∃ v', e = .returned v' ∧ OwR intR 3 w.heap.size w' v' xs ∧ Below w.heap.size w w' := by
  have q1 := fun (wx : World) (a : Option Addr) (n c : Nat) => Lib.run_eql_slice_nil (P := Try.prog) wx 24 3 a n c 0 0 Try.underlying24
  obtain ⟨A, c, rfl⟩ := h.form
  have H := Go.Lib.hid h
  clear h
  rcases A with _ | ad
  · have hx : xs = [] := by
      rcases Nat.eq_zero_or_pos xs.length with h0 | h0
      · exact List.eq_nil_of_length_eq_zero h0
      · obtain ⟨_, _, h, _⟩ := H.out.at_ h0; cases h
    subst hx
    go_enter Try.func106, Try.ntmps106
    go_wp2_with fail
    go_ret
    exact ⟨_, rfl, OwR.nil _ _ (Nat.le_refl _), Below.refl _ _⟩
  · have hB0 : Below w.heap.size w (w.alloc (.cells #[] 3)) := (Below.refl _ _).alloc (Nat.le_refl _) _
    have hown : OwR intR 3 w.heap.size (w.alloc (.cells #[] 3)) (.slice (some ⟨w.heap.size, 0, none⟩) 0 0) [] := ⟨[], rfl, fun i cs x h => by simp at h, World.ownsRow_made w #[] 0 (Nat.le_refl _) (Nat.zero_le _) (by simp), by simp⟩
    have H1 := Go.Lib.hid (H.out.below hB0)
    have HB0 := Go.Lib.hid hB0
    have HO := Go.Lib.hid hown
    clear hB0 hown
    go_enter Try.func106, Try.ntmps106
    go_wp2_with (at_builtin; refine wpList_own_append (base := w.heap.size) rfl _ _ rfl elt_int HO.out H1.out rfl rfl (fun _ _ h => h) (by simp; unfold maxLen; omega) (by simp; omega) ?_; intro v1 w1 ho1 hg1 hb1)
    go_ret
    exact ⟨v1, rfl, ho1, HO.out.below_grown HB0.out hg1⟩
end Go.Proofs.Ytbpamllmbdcdfaa
