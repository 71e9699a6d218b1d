/-
  
-/
import Derived.Test.YtojojpjldkpmoaaGreatDoorGOwn
import Derived.Laws.StructEq
import Derived.Test.YtojojpjldkpmoaaGreatDoorGDoG
import Derived.Test.YtojojpjldkpmoaaGreatDoorGDoF
import Derived.Test.YtojojpjldkpmoaaGreatDoorGSrt
set_option linter.unusedVariables false
set_option linter.unusedSimpArgs false
set_option maxHeartbeats 16000000
namespace Go.Proofs.YtojojpjldkpmoaaGreatDoor
section
open Go.RowKit
def sameE (x y : Entry) : Bool := x.key.toList == y.key.toList && (x.version == y.version && (x.origin == y.origin && x.value.toList == y.value.toList))
theorem sameE_refl (x : Entry) : sameE x x = true := by simp [sameE]
theorem toList_inj {a b : ByteArray} (h : a.toList = b.toList) : a = b := by
 rw [zbr, zbr] at h
 exact ByteArray.ext (Array.toList_inj.1 h)
theorem neq_ent (x y : Entry) (w : World) :
  (binOp .neq 44 (.agg #[.string x.key, .int .i64 x.version, .int .i64 x.origin, .string x.value]) (.agg #[.string y.key, .int .i64 y.version, .int .i64 y.origin, .string y.value])).run Tryz.prog w = .ok (.bool (!sameE x y)) w := by
 have hS : Tryz.prog.underlying 44 = some (.struct (Tryz.prog.fieldsOf 44)) := by kernel_rfl
 have hp : Tryz.prog.stoodInHeld 44 = false := by kernel_rfl
 have u3 := Tryz.underlying3
 have a3 := Tryz.isAgg3
 have z3 := Tryz.sizeOf3
 have u9 := Tryz.underlying9
 have a9 := Tryz.isAgg9
 have z9 := Tryz.sizeOf9
 rw [run_neq_struct, show (10000 : Nat) = 9999 + 1 from rfl, run_equalIn_agg w 9999 44 _ _ hS hp]
 simp only [Program.fieldsOf, Tryz.underlying44]
 go_simp
 unfold sameE
 by_cases h1 : x.key.toList = y.key.toList <;> by_cases h2 : x.version = y.version <;> by_cases h3 : x.origin = y.origin <;> by_cases h4 : x.value.toList = y.value.toList <;> simp [h1, h2, h3, h4]
theorem guard_ent (op : BinOp) (a b : Operand) (x y : Array Value) (w : World) : (eqGuard op 44 a b (.agg x) (.agg y)).run Tryz.prog w = .ok () w :=
 run_eqGuard_agg w op _ a b x y (by kernel_rfl)
end
section
open Go Go.RowKit
def keyA (n : Nat) : ByteArray := bOf (97 :: 58 :: Lib.decDigits n)
theorem key_run (n : Nat) (h : (Lib.decDigits n).length <= 20) (w : World) : (Op.stringOp .add ⟨#[97, 58]⟩ (bOf (Lib.decDigits n))).run Tryz.prog w = .ok (.string (keyA n)) w := add_run [97, 58] (Lib.decDigits n) (by show 2 + _ <= _; omega) w
def adjAt (l : List Entry) (n : Nat) : Bool × List Side := match findE l (keyA n) with
 | none => (false, [])
 | some e => ((readAdj e.value.data.toList).1, (readAdj e.value.data.toList).2.1)
theorem readAdj_chk (s : List UInt8) : chkSides (readAdj s).2.1 = 0 := by
 unfold readAdj
 split
 · rfl
 · split
   · assumption
   · rfl
theorem adjAt_chk (l : List Entry) (n : Nat) : chkSides (adjAt l n).2 = 0 := by
 unfold adjAt
 split
 · rfl
 · exact readAdj_chk _
def sideC (l : List Side) (tgt : Int) : Int := match l.find? fun x => decide (x.node = tgt) with
 | some x => x.cost
 | none => 0
theorem sideC_le {xs : List Side} (h : chkSides xs = 0) (tgt : Int) : 0 <= sideC xs tgt /\ sideC xs tgt <= 1000 := by
 unfold sideC
 split
 · rename_i x hx
   obtain ⟨i, hi, rfl⟩ := zaj (List.mem_of_find?_eq_some hx)
   obtain ⟨_, _, h3, h4⟩ := sides_all h i hi
   omega
 · omega
def linkC (l : List Entry) (a b : Nat) : Nat := if a = b ∨ sideC (adjAt l b).2 a = 0 then 0 else (sideC (adjAt l a).2 b).toNat
theorem linkC_le (l : List Entry) (a b : Nat) : linkC l a b <= 1000 := by
 unfold linkC
 split
 · omega
 · have := sideC_le (adjAt_chk l a) b; omega
end
section
structure Gph where
 C : Nat -> Nat -> Int
 D : Nat -> Bool
 P : Nat -> List Prefix
def kindE (e : Entry) : List UInt8 := (cutB 58 e.key.data.toList).1
def nodeE (e : Entry) : Int := numD 11 (cutB 58 e.key.data.toList).2.1
def updC (C : Nat -> Nat -> Int) (n m : Nat) (x : Int) : Nat -> Nat -> Int := fun a b => if a = n /\ b = m then x else C a b
def sideC1 (n : Nat) (C : Nat -> Nat -> Int) (x : Side) : Nat -> Nat -> Int := if x.node = n then C else updC C n x.node.toNat x.cost
def putSides (C : Nat -> Nat -> Int) (n : Nat) (l : List Side) : Nat -> Nat -> Int := l.foldl (sideC1 n) C
def stepA (g : Gph) (n : Nat) (v : List UInt8) : Gph := { C := putSides g.C n (readAdj v).2.1, D := fun a => if a = n then (readAdj v).1 else g.D a, P := g.P }
def stepP (g : Gph) (n : Nat) (v : List UInt8) : Gph := { g with P := fun a => if a = n then (readPrefs v).1 else g.P a }
def stepE (g : Gph) (e : Entry) : Gph :=
 if nodeE e < 0 then g else if kindE e = [97] then stepA g (nodeE e).toNat e.value.data.toList else if kindE e = [112] then stepP g (nodeE e).toNat e.value.data.toList else g
def gph0 : Gph := ⟨fun _ _ => 0, fun _ => false, fun _ => []⟩
def gphTo (xs : List Entry) (k : Nat) : Gph := (xs.take k).foldl stepE gph0
theorem gphTo_succ {xs : List Entry} {k : Nat} (hk : k < xs.length) : gphTo xs (k + 1) = stepE (gphTo xs k) xs[k] := by
 unfold gphTo
 rw [List.take_add_one, zac hk, zcc]
 rfl
theorem putSides_succ {C : Nat -> Nat -> Int} {n : Nat} {l : List Side} {k : Nat} (hk : k < l.length) : putSides C n (l.take (k + 1)) = sideC1 n (putSides C n (l.take k)) l[k] := by
 unfold putSides
 rw [List.take_add_one, zac hk, zcc]
 rfl
def symTo (C : Nat -> Nat -> Int) (i k : Nat) (a b : Nat) : Int :=
 if (max a b < i ∨ (max a b = i /\ min a b < k)) /\ a ≠ b /\ (C a b = 0 ∨ C b a = 0) then 0 else C a b
def symAll (C : Nat -> Nat -> Int) (a b : Nat) : Int := if a ≠ b /\ (C a b = 0 ∨ C b a = 0) then 0 else C a b
def graphS (xs : List Entry) : Gph := { C := symAll (gphTo xs xs.length).C, D := (gphTo xs xs.length).D, P := (gphTo xs xs.length).P }
theorem nodeE_cases (e : Entry) : nodeE e < 0 ∨ ∃ n : Nat, nodeE e = n /\ n < 12 := by
 have := num_le 11 (by omega) (cutB 58 e.key.data.toList).2.1
 unfold nodeE
 rcases Int.lt_or_le (numD 11 (cutB 58 e.key.data.toList).2.1) 0 with h | h
 · exact .inl h
 · exact .inr ⟨(numD 11 (cutB 58 e.key.data.toList).2.1).toNat, by omega, by omega⟩
theorem sym_same {C : Nat -> Nat -> Int} {i k a b : Nat} (h : ¬ (C i k = 0 ∨ C k i = 0)) (hk : k < i) : symTo C i (k + 1) a b = symTo C i k a b := by
 unfold symTo
 by_cases hd : max a b < i ∨ (max a b = i /\ min a b < k)
 · have : max a b < i ∨ (max a b = i /\ min a b < k + 1) := by omega
   simp only [hd, this]
 · by_cases hd2 : max a b < i ∨ (max a b = i /\ min a b < k + 1)
   · have h1 : (a = i /\ b = k) ∨ (a = k /\ b = i) := by omega
     rcases h1 with ⟨rfl, rfl⟩ | ⟨rfl, rfl⟩
     · rw [if_neg (fun e => h e.2.2), if_neg (fun e => h e.2.2)]
     · rw [if_neg (fun e => h (e.2.2.symm)), if_neg (fun e => h (e.2.2.symm))]
   · simp only [hd, hd2]
theorem sym_cut {C : Nat -> Nat -> Int} {i k a b : Nat} (h : C i k = 0 ∨ C k i = 0) (hk : k < i) : symTo C i (k + 1) a b = if (a = i /\ b = k) ∨ (a = k /\ b = i) then 0 else symTo C i k a b := by
 unfold symTo
 by_cases h1 : (a = i /\ b = k) ∨ (a = k /\ b = i)
 · rw [if_pos h1, if_pos]
   rcases h1 with ⟨rfl, rfl⟩ | ⟨rfl, rfl⟩
   · exact ⟨by omega, by omega, h⟩
   · exact ⟨by omega, by omega, h.symm⟩
 · rw [if_neg h1]
   have : (max a b < i ∨ (max a b = i /\ min a b < k + 1)) ↔ (max a b < i ∨ (max a b = i /\ min a b < k)) := by omega
   simp only [this]
theorem sym_row {C : Nat -> Nat -> Int} {i a b : Nat} : symTo C (i + 1) 0 a b = symTo C i i a b := by
 unfold symTo
 by_cases e : a = b
 · rw [if_neg (fun h => h.2.1 e), if_neg (fun h => h.2.1 e)]
 · have : (max a b < i + 1 ∨ (max a b = i + 1 /\ min a b < 0)) ↔ (max a b < i ∨ (max a b = i /\ min a b < i)) := by omega
   simp only [this]
theorem sym_zero {C : Nat -> Nat -> Int} {a b : Nat} : symTo C 0 0 a b = C a b := by
 unfold symTo; rw [if_neg (fun h => by omega)]
theorem sym_end {C : Nat -> Nat -> Int} {a b : Nat} (ha : a < 12) (hb : b < 12) : symTo C 12 0 a b = symAll C a b := by
 unfold symTo symAll
 have : (max a b < 12 ∨ (max a b = 12 /\ min a b < 0)) := by omega
 simp only [this, true_and]
end
end Go.Proofs.YtojojpjldkpmoaaGreatDoor
