/-
  copied, Lookup, FoundOf, walked.
  sameInts, at what is the same.
  sameInts, sameRoute, at what is the same.
-/
import Derived.Test.YtcbkimbeljhbhaaGreatDoorGRibF
import Derived.Test.YtcbkimbeljhbhaaGreatDoorGOwn
import Derived.Laws.StructEq
set_option linter.unusedVariables false
set_option linter.unusedSimpArgs false
namespace Go.Proofs.YtcbkimbeljhbhaaGreatDoor
open Go.RowKit Go.Sort

theorem OwR.lower {α : Type} {r : Rep α} {E base base' : Nat} {w : World} {v : Value} {xs : List α} (h : OwR r E base w v xs) (hb : base' ≤ base) : OwR r E base' w v xs := by
  obtain ⟨css, g1, g2, g3, g4⟩ := h
  refine ⟨css, g1, g2, ⟨g3.1, ?_⟩, by omega⟩
  rcases g3.2 with h | ⟨g, cap, cur, a1, a2, a3⟩
  · exact .inl h
  · exact .inr ⟨g, cap, cur, a1, by omega, a3⟩

theorem OwR.form {α : Type} {r : Rep α} {E base : Nat} {w : World} {v : Value} {xs : List α} (h : OwR r E base w v xs) : ∃ A c, v = .slice A xs.length c := by
  obtain ⟨css, g1, g2, g3, g4⟩ := h
  rcases g3.2 with ⟨rfl, h⟩ | ⟨g, cap, cur, rfl, _⟩
  · exact ⟨none, 0, by rw [h]⟩
  · exact ⟨_, _, rfl⟩
theorem pastAlloc2F {wr w1 : World} {cs ds : Array Value} {t u : TypeId} (h : Below ((wr.alloc (.cells cs t)).alloc (.cells ds u)).heap.size ((wr.alloc (.cells cs t)).alloc (.cells ds u)) w1) :
    (∀ i, w1.frozen? ⟨wr.heap.size, i, none⟩ = false) ∧ (∀ i, w1.frozen? ⟨wr.heap.size + 1, i, none⟩ = false) := by
  obtain ⟨h1, h2, h3, h4⟩ := pastAlloc h
  rw [World.size_alloc] at h1 h2 h3 h4
  obtain ⟨g1, g2, g3, _⟩ := pastAlloc (wr := wr) (w1 := w1) (cs := cs) (t := t) (by rw [World.size_alloc]; exact h1)
  exact ⟨g3, h3⟩
theorem grown_setCell (w : World) (p : Addr) (u : Value) : w.grownBy (w.setCell p u) (some p.block) :=
  ⟨rfl, rfl, rfl, by simp [World.setCell], fun k _ hne => Below.heap_setCell _ _ _ _ (fun e => hne (by rw [e]))⟩
theorem OwR.setCellI {E base : Nat} {w : World} {v : Value} {xs : List Int} (h : OwR intR E base w v xs) {p : Addr} (hp : p.block < base) (u : Value) : OwR intR E base (w.setCell p u) v xs :=
  h.kept (grown_setCell w p u) (.inr (fun e => by have := (h.base_le _ e).1; omega))
/-- a call has made a copy of a route -/
def CopPost (w : World) (r : Route) (e : Ending) (w' : World) : Prop :=
  ∃ v', e = .returned (.agg #[.int .i64 r.pre.addr, .int .i64 r.pre.bits, .bool r.here, .int .i64 r.cost, v']) ∧ OwR intR 3 w.heap.size w' v' r.hops ∧ Below w.heap.size w w'

set_option maxHeartbeats 1000000 in
theorem copied_any (r : Route) (v : Value) (w : World) (h : Sl intR w v r.hops) (hl : r.hops.length ≤ 1000) :
    Calls Tryz.prog 48 #[.agg #[.int .i64 r.pre.addr, .int .i64 r.pre.bits, .bool r.here, .int .i64 r.cost, v]] w (CopPost w r) := by
  obtain ⟨A, c, rfl⟩ := h.form
  obtain ⟨hs, hhs⟩ : ∃ hs, r.hops = hs := ⟨_, rfl⟩
  rw [hhs] at h hl ⊢
  have HHS := Go.Lib.hid hhs
  have hb : Below w.heap.size w ((w.alloc (.cells #[.int .i64 r.pre.addr, .int .i64 r.pre.bits, .bool r.here, .int .i64 r.cost, .slice A hs.length c] 64)).alloc (.cells #[.int .i64 0, .int .i64 0, .bool false, .int .i64 0, .slice none 0 0] 64)) := ((Below.refl _ _).alloc (Nat.le_refl _) _).alloc (by simp) _
  have hcl := cloneI_any _ hs _ (h.below hb) (by omega)
  have HCL := Go.Lib.hid hcl
  clear h hb hcl hhs
  go_enter Tryz.func48, Tryz.ntmps48
  go_wp2_with fail
  refine HCL.out.mono ?_
  rintro e w1 ⟨v1, rfl, ho1, hb1⟩
  obtain ⟨A1, c1, rfl⟩ := ho1.form
  obtain ⟨hA, hN, hM, hS⟩ := pastAlloc2 hb1
  obtain ⟨hF1, hF2⟩ := pastAlloc2F hb1
  have HA := Go.Lib.hid hA
  have HO := Go.Lib.hid ho1
  clear hA hb1 ho1 HCL
  go_wp2_with fail
  refine bodyPost_ret (v := .agg #[.int .i64 r.pre.addr, .int .i64 r.pre.bits, .bool r.here, .int .i64 r.cost, .slice A1 hs.length c1]) (by simp [results, Tryz.results48, go_sem, *]) rfl ⟨_, rfl, ?_, ?_⟩
  · have h0 : OwR intR 3 (w.heap.size + 1 + 1) w1 (.slice A1 hs.length c1) hs := by
      have := HO.out
      rw [World.size_alloc, World.size_alloc] at this
      exact this
    rw [HHS.out]
    refine OwR.lower (base := w.heap.size + 1 + 1) ?_ (by omega)
    iterate 6 refine OwR.setCellI ?_ (by dsimp only; omega) _
    exact h0
  · iterate 6 refine Below.setCell ?_ (by dsimp only; omega) _
    exact HA.out
end Go.Proofs.YtcbkimbeljhbhaaGreatDoor

namespace Go.Proofs.YtcbkimbeljhbhaaGreatDoor
open Go.RowKit

set_option maxHeartbeats 1000000 in
theorem sameInts_eq (v1 v2 : Value) (xs : List Int) (w : World) (h1 : Sl intR w v1 xs) (h2 : Sl intR w v2 xs) :
    Calls Tryz.prog 72 #[v1, v2] w fun e w' => e = .returned (.bool true) ∧ Below w.heap.size w w' := by
  have hl := h1.len_le
  obtain ⟨A1, c1, rfl⟩ := h1.form
  obtain ⟨A2, c2, rfl⟩ := h2.form
  have H1 := Go.Lib.hid h1
  have H2 := Go.Lib.hid h2
  clear h1 h2
  go_enter Tryz.func72, Tryz.ntmps72
  go_wp2_with fail
  go_loopw [5] (fun s5 wr => ∃ k : Nat, k ≤ xs.length ∧ s5 = .int .i64 k ∧ Below w.heap.size w wr) (fun s5 _ => xs.length - (intOf s5).toNat)
  case atStart => exact ⟨0, Nat.zero_le _, rfl, Below.refl _ _⟩
  case round =>
    obtain ⟨k, hk, rfl, hB⟩ := hrel
    have HB := Go.Lib.hid hB
    by_cases hlt : k < xs.length
    · obtain ⟨b1, o1, rfl, hb1⟩ := H1.out.at_ hlt
      obtain ⟨b2, o2, rfl, hb2⟩ := H2.out.at_ hlt
      obtain ⟨f1, _⟩ := (H1.out.below hB).int hlt
      obtain ⟨g1, _⟩ := (H2.out.below hB).int hlt
      have r0 : (0 : Int) ≤ (k : Int) := Int.natCast_nonneg _
      have r1 : (k : Int) < (xs.length : Int) := by omega
      clear hB
      go_wp2_with fail
      go_quiet (fail)
      go_wp2_with fail
      go_roundw
      case rel => exact ⟨k + 1, by omega, by go_num, bDrewN HB.out _⟩
      case measure => simp [intOf]; omega
    · clear hB
      go_wp2_with fail
      go_ret
      exact ⟨rfl, HB.out⟩
end Go.Proofs.YtcbkimbeljhbhaaGreatDoor

namespace Go.Proofs.YtcbkimbeljhbhaaGreatDoor
open Go.RowKit

theorem eql_pref (a b c d : Int) (w : World) :
    (binOp .eql 62 (.agg #[.int .i64 a, .int .i64 b]) (.agg #[.int .i64 c, .int .i64 d])).run Tryz.prog w = .ok (.bool (a == c && b == d)) w := by
  have hS : Tryz.prog.underlying 62 = some (.struct (Tryz.prog.fieldsOf 62)) := by kernel_rfl
  have hp : Tryz.prog.stoodInHeld 62 = false := by kernel_rfl
  have u3 := Tryz.underlying3
  have a3 := Tryz.isAgg3
  have z3 := Tryz.sizeOf3
  rw [run_eql_struct, show (10000 : Nat) = 9999 + 1 from rfl, run_equalIn_agg w 9999 62 _ _ hS hp]
  simp only [Program.fieldsOf, Tryz.underlying62]
  go_simp
  by_cases h1 : a = c <;> by_cases h2 : b = d <;> simp [h1, h2]
theorem neq_pref (a b c d : Int) (w : World) :
    (binOp .neq 62 (.agg #[.int .i64 a, .int .i64 b]) (.agg #[.int .i64 c, .int .i64 d])).run Tryz.prog w = .ok (.bool (!(a == c && b == d))) w := by
  have hS : Tryz.prog.underlying 62 = some (.struct (Tryz.prog.fieldsOf 62)) := by kernel_rfl
  have hp : Tryz.prog.stoodInHeld 62 = false := by kernel_rfl
  have u3 := Tryz.underlying3
  have a3 := Tryz.isAgg3
  have z3 := Tryz.sizeOf3
  rw [run_neq_struct, show (10000 : Nat) = 9999 + 1 from rfl, run_equalIn_agg w 9999 62 _ _ hS hp]
  simp only [Program.fieldsOf, Tryz.underlying62]
  go_simp
  by_cases h1 : a = c <;> by_cases h2 : b = d <;> simp [h1, h2]
theorem guard_pref (op : BinOp) (a b : Operand) (x y : Array Value) (w : World) : (eqGuard op 62 a b (.agg x) (.agg y)).run Tryz.prog w = .ok () w :=
  run_eqGuard_agg w op _ a b x y (by kernel_rfl)

def Route.agg (r : Route) (v : Value) : Value := .agg #[.int .i64 r.pre.addr, .int .i64 r.pre.bits, .bool r.here, .int .i64 r.cost, v]

set_option maxRecDepth 100000 in
set_option maxHeartbeats 1000000 in
theorem sameRoute_eq (r : Route) (v1 v2 : Value) (w : World) (h1 : Sl intR w v1 r.hops) (h2 : Sl intR w v2 r.hops) :
    Calls Tryz.prog 33 #[r.agg v1, r.agg v2] w fun e w' => e = .returned (.bool true) ∧ Below w.heap.size w w' := by
  obtain ⟨A1, c1, rfl⟩ := h1.form
  obtain ⟨A2, c2, rfl⟩ := h2.form
  obtain ⟨hs, hhs⟩ : ∃ hs, r.hops = hs := ⟨_, rfl⟩
  unfold Route.agg
  rw [hhs] at h1 h2 ⊢
  have hb : Below w.heap.size w ((w.alloc (.cells #[.int .i64 r.pre.addr, .int .i64 r.pre.bits, .bool r.here, .int .i64 r.cost, .slice A1 hs.length c1] 64)).alloc (.cells #[.int .i64 r.pre.addr, .int .i64 r.pre.bits, .bool r.here, .int .i64 r.cost, .slice A2 hs.length c2] 64)) := ((Below.refl _ _).alloc (Nat.le_refl _) _).alloc (by simp) _
  have HC := Go.Lib.hid (sameInts_eq _ _ hs _ (h1.below hb) (h2.below hb))
  have HB := Go.Lib.hid hb
  have q1 := eql_pref r.pre.addr r.pre.bits r.pre.addr r.pre.bits
  have q2 := fun a b => guard_pref .eql a b
  clear h1 h2 hb hhs
  simp only [beq_self_eq_true, Bool.and_self] at q1
  go_enter Tryz.func33, Tryz.ntmps33
  go_wp2_with fail
  refine HC.out.mono ?_
  rintro e w1 ⟨rfl, hb1⟩
  have HB1 := Go.Lib.hid (HB.out.trans (hb1.mono HB.out.size))
  clear hb1
  go_wp2_with fail
  go_ret
  exact ⟨rfl, HB1.out⟩
end Go.Proofs.YtcbkimbeljhbhaaGreatDoor
