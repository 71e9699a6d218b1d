/-
  '==' of entries, of prefixes: what the model answers at them.
-/
import Derived.Test.YtcbkimbeljhbhaaGreatDoorGOwn
import Derived.Laws.StructEq
set_option linter.unusedVariables false
set_option linter.unusedSimpArgs false
namespace Go.Proofs.YtcbkimbeljhbhaaGreatDoor
open Go.RowKit

def sameE (x y : Entry) : Bool := x.key.toList == y.key.toList && (x.version == y.version && (x.origin == y.origin && x.value.toList == y.value.toList))
theorem sameE_refl (x : Entry) : sameE x x = true := by simp [sameE]
theorem toList_inj {a b : ByteArray} (h : a.toList = b.toList) : a = b := by
  rw [ByteArray.toList_eq, ByteArray.toList_eq] at h
  exact ByteArray.ext (Array.toList_inj.1 h)
theorem sameE_iff (x y : Entry) : sameE x y = true ↔ x = y := by
  constructor
  · intro h
    simp only [sameE, Bool.and_eq_true, beq_iff_eq] at h
    obtain ⟨h1, h2, h3, h4⟩ := h
    cases x; cases y
    simp only at h1 h2 h3 h4
    rw [toList_inj h1, h2, h3, toList_inj h4]
  · rintro rfl; exact sameE_refl x

theorem eql_ent (x y : Entry) (w : World) :
    (binOp .eql 50 (.agg #[.string x.key, .int .i64 x.version, .int .i64 x.origin, .string x.value]) (.agg #[.string y.key, .int .i64 y.version, .int .i64 y.origin, .string y.value])).run Tryz.prog w = .ok (.bool (sameE x y)) w := by
  have hS : Tryz.prog.underlying 50 = some (.struct (Tryz.prog.fieldsOf 50)) := by kernel_rfl
  have hp : Tryz.prog.stoodInHeld 50 = false := by kernel_rfl
  have u3 := Tryz.underlying3
  have a3 := Tryz.isAgg3
  have z3 := Tryz.sizeOf3
  have u9 := Tryz.underlying9
  have a9 := Tryz.isAgg9
  have z9 := Tryz.sizeOf9
  rw [run_eql_struct, show (10000 : Nat) = 9999 + 1 from rfl, run_equalIn_agg w 9999 50 _ _ hS hp]
  simp only [Program.fieldsOf, Tryz.underlying50]
  go_simp
  unfold sameE
  by_cases h1 : x.key.toList = y.key.toList <;> by_cases h2 : x.version = y.version <;> by_cases h3 : x.origin = y.origin <;> by_cases h4 : x.value.toList = y.value.toList <;> simp [h1, h2, h3, h4]
theorem neq_ent (x y : Entry) (w : World) :
    (binOp .neq 50 (.agg #[.string x.key, .int .i64 x.version, .int .i64 x.origin, .string x.value]) (.agg #[.string y.key, .int .i64 y.version, .int .i64 y.origin, .string y.value])).run Tryz.prog w = .ok (.bool (!sameE x y)) w := by
  have hS : Tryz.prog.underlying 50 = some (.struct (Tryz.prog.fieldsOf 50)) := by kernel_rfl
  have hp : Tryz.prog.stoodInHeld 50 = false := by kernel_rfl
  have u3 := Tryz.underlying3
  have a3 := Tryz.isAgg3
  have z3 := Tryz.sizeOf3
  have u9 := Tryz.underlying9
  have a9 := Tryz.isAgg9
  have z9 := Tryz.sizeOf9
  rw [run_neq_struct, show (10000 : Nat) = 9999 + 1 from rfl, run_equalIn_agg w 9999 50 _ _ hS hp]
  simp only [Program.fieldsOf, Tryz.underlying50]
  go_simp
  unfold sameE
  by_cases h1 : x.key.toList = y.key.toList <;> by_cases h2 : x.version = y.version <;> by_cases h3 : x.origin = y.origin <;> by_cases h4 : x.value.toList = y.value.toList <;> simp [h1, h2, h3, h4]
theorem guard_ent (op : BinOp) (a b : Operand) (x y : Array Value) (w : World) : (eqGuard op 50 a b (.agg x) (.agg y)).run Tryz.prog w = .ok () w :=
  run_eqGuard_agg w op _ a b x y (by kernel_rfl)
end Go.Proofs.YtcbkimbeljhbhaaGreatDoor
