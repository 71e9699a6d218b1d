/-
  sameInts, sameRoute, at what is the same.
-/
import Derived.Test.YtbpamllmbdcdfaaRibG
import Derived.Laws.StructEq
namespace Go.Proofs.Ytbpamllmbdcdfaa
open Go.RowKit

theorem eql_pref (a b c d : Int) (w : World) :
    (binOp .eql 52 (.agg #[.int .i64 a, .int .i64 b]) (.agg #[.int .i64 c, .int .i64 d])).run Try.prog w = .ok (.bool (a == c && b == d)) w := by
  have hS : Try.prog.underlying 52 = some (.struct (Try.prog.fieldsOf 52)) := by kernel_rfl
  have hp : Try.prog.stoodInHeld 52 = false := by kernel_rfl
  have u3 := Try.underlying3
  have a3 := Try.isAgg3
  have z3 := Try.sizeOf3
  rw [run_eql_struct, show (10000 : Nat) = 9999 + 1 from rfl, run_equalIn_agg w 9999 52 _ _ hS hp]
  simp only [Program.fieldsOf, Try.underlying52]
  go_simp
  by_cases h1 : a = c <;> by_cases h2 : b = d <;> simp [h1, h2]
theorem neq_pref (a b c d : Int) (w : World) :
    (binOp .neq 52 (.agg #[.int .i64 a, .int .i64 b]) (.agg #[.int .i64 c, .int .i64 d])).run Try.prog w = .ok (.bool (!(a == c && b == d))) w := by
  have hS : Try.prog.underlying 52 = some (.struct (Try.prog.fieldsOf 52)) := by kernel_rfl
  have hp : Try.prog.stoodInHeld 52 = false := by kernel_rfl
  have u3 := Try.underlying3
  have a3 := Try.isAgg3
  have z3 := Try.sizeOf3
  rw [run_neq_struct, show (10000 : Nat) = 9999 + 1 from rfl, run_equalIn_agg w 9999 52 _ _ hS hp]
  simp only [Program.fieldsOf, Try.underlying52]
  go_simp
  by_cases h1 : a = c <;> by_cases h2 : b = d <;> simp [h1, h2]
theorem guard_pref (op : BinOp) (a b : Operand) (x y : Array Value) (w : World) : (eqGuard op 52 a b (.agg x) (.agg y)).run Try.prog w = .ok () w :=
  run_eqGuard_agg w op _ a b x y (by kernel_rfl)

set_option maxHeartbeats 1000000 in
theorem sameInts_eq (v1 v2 : Value) (xs : List Int) (w : World) (h1 : Sl intR w v1 xs) (h2 : Sl intR w v2 xs) :
    Calls Try.prog 84 #[v1, v2] w fun e w' => e = .returned (.bool true) ∧ Below w.heap.size w w' := by
  have hl := h1.len_le
  obtain ⟨A1, c1, rfl⟩ := h1.form
  obtain ⟨A2, c2, rfl⟩ := h2.form
  have H1 := Go.Lib.hid h1
  have H2 := Go.Lib.hid h2
  clear h1 h2
  go_enter Try.func84, Try.ntmps84
  go_wp2_with fail
  go_loopw [5] (fun s5 wr => ∃ k : Nat, k ≤ xs.length ∧ s5 = .int .i64 k ∧ Below w.heap.size w wr) (fun s5 _ => xs.length - (intOf s5).toNat)
  case atStart => exact ⟨0, Nat.zero_le _, rfl, Below.refl _ _⟩
  case round =>
    obtain ⟨k, hk, rfl, hB⟩ := hrel
    have HB := Go.Lib.hid hB
    by_cases hlt : k < xs.length
    · obtain ⟨b1, o1, rfl, hb1⟩ := H1.out.at_ hlt
      obtain ⟨b2, o2, rfl, hb2⟩ := H2.out.at_ hlt
      obtain ⟨f1, _⟩ := (H1.out.below hB).int hlt
      obtain ⟨g1, _⟩ := (H2.out.below hB).int hlt
      have r0 : (0 : Int) ≤ (k : Int) := Int.natCast_nonneg _
      have r1 : (k : Int) < (xs.length : Int) := by omega
      clear hB
      go_wp2_with fail
      go_quiet (fail)
      go_wp2_with fail
      go_roundw
      case rel => exact ⟨k + 1, by omega, by go_num, bDrewN HB.out _⟩
      case measure => simp [intOf]; omega
    · clear hB
      go_wp2_with fail
      go_ret
      exact ⟨rfl, HB.out⟩

def Route.agg (r : Route) (v : Value) : Value := .agg #[.int .i64 r.pre.addr, .int .i64 r.pre.bits, .bool r.here, .int .i64 r.cost, v]

set_option maxRecDepth 100000 in
set_option maxHeartbeats 1000000 in
theorem sameRoute_eq (r : Route) (v1 v2 : Value) (w : World) (h1 : Sl intR w v1 r.hops) (h2 : Sl intR w v2 r.hops) :
    Calls Try.prog 40 #[r.agg v1, r.agg v2] w fun e w' => e = .returned (.bool true) ∧ Below w.heap.size w w' := by
  obtain ⟨A1, c1, rfl⟩ := h1.form
  obtain ⟨A2, c2, rfl⟩ := h2.form
  obtain ⟨hs, hhs⟩ : ∃ hs, r.hops = hs := ⟨_, rfl⟩
  unfold Route.agg
  rw [hhs] at h1 h2 ⊢
  have hb : Below w.heap.size w ((w.alloc (.cells #[.int .i64 r.pre.addr, .int .i64 r.pre.bits, .bool r.here, .int .i64 r.cost, .slice A1 hs.length c1] 54)).alloc (.cells #[.int .i64 r.pre.addr, .int .i64 r.pre.bits, .bool r.here, .int .i64 r.cost, .slice A2 hs.length c2] 54)) := ((Below.refl _ _).alloc (Nat.le_refl _) _).alloc (by simp) _
  have HC := Go.Lib.hid (sameInts_eq _ _ hs _ (h1.below hb) (h2.below hb))
  have HB := Go.Lib.hid hb
  have q1 := eql_pref r.pre.addr r.pre.bits r.pre.addr r.pre.bits
  have q2 := fun a b => guard_pref .eql a b
  clear h1 h2 hb hhs
  simp only [beq_self_eq_true, Bool.and_self] at q1
  go_enter Try.func40, Try.ntmps40
  go_wp2_with fail
  refine HC.out.mono ?_
  rintro e w1 ⟨rfl, hb1⟩
  have HB1 := Go.Lib.hid (HB.out.trans (hb1.mono HB.out.size))
  clear hb1
  go_wp2_with fail
  go_ret
  exact ⟨rfl, HB1.out⟩
end Go.Proofs.Ytbpamllmbdcdfaa
