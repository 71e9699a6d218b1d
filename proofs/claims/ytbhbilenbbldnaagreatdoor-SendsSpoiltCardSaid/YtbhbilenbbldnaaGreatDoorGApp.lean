/-
  
-/
import Derived.Test.YtbhbilenbbldnaaGreatDoorGByt
import Derived.Test.YtbhbilenbbldnaaGreatDoorGGrB
set_option linter.unusedVariables false
set_option linter.unusedSimpArgs false
namespace Go.Proofs.YtbhbilenbbldnaaGreatDoor
open Go.RowKit Go.Deep
theorem app_gen {α : Type} {r : Rep α} {T E : TypeId} {bytes : Nat} (el : Elt Tryz.prog T E r.size bytes) {w : World} {base ty : Nat} {v vx : Value} {xs ys : List α} {S : Nat → Prop} (hown : OwR r E base w v xs) (hsrc : SlR r w S vx ys)
  (hS : ∀ (cs : List Value) (y : α), r.holds w S cs y → r.holds w (fun k => k < w.heap.size ∧ v.ownBlock ≠ some k) cs y) (hn : xs.length + ys.length ≤ 1000000000000) (hb : bytes ≤ 100) :
  ∃ v' w', (Builtin.append_ #[T, T] ty #[v, vx]).run Tryz.prog w = .ok v' w' ∧ OwR r E base w' v' (xs ++ ys) ∧ GrowTo w v w' v' := by
 have hm : (xs.length + ys.length) * bytes ≤ 1000000000000 * 100 := Nat.mul_le_mul hn hb
 obtain ⟨v', w', r1, r2, r3, r4⟩ := run_own_append (ty := ty) el hown hsrc hS (by unfold maxLen; omega) (by omega)
 refine ⟨v', w', r1, r2, r3, fun k hk => ?_⟩
 rcases r4 with e | e
 · exact .inl (e ▸ hk)
 · rw [e] at hk; injection hk with hk; exact .inr (Nat.le_of_eq hk)
theorem wpList_gen {α : Type} {r : Rep α} {T E : TypeId} {bytes : Nat} (el : Elt Tryz.prog T E r.size bytes) {ops : Array Oper} {rest : List Oper} {o : Oper} {a : Act} {Q : Exit → Act → World → Prop} {w : World} {base : Nat} (hgd : o.guard = none) (s x : Operand)
  (ho : o.op = .call { callee := .builtin .append, args := #[s, x], argTypes := #[T, T] }) {v vx : Value} {xs ys : List α} {S : Nat → Prop}
  (hown : OwR r E base w v xs) (hsrc : SlR r w S vx ys) (hS : ∀ (cs : List Value) (y : α), r.holds w S cs y → r.holds w (fun k => k < w.heap.size ∧ v.ownBlock ≠ some k) cs y) (hs : a.eval s = v) (hx : a.eval x = vx) (hn : xs.length + ys.length ≤ 1000000000000) (hb : bytes ≤ 100)
  (h : ∀ v' w', OwR r E base w' v' (xs ++ ys) → GrowTo w v w' v' → wpList Tryz.prog ops Q rest (a.put o.dst v') w') : wpList Tryz.prog ops Q (o :: rest) a w :=
 wpList_plain hgd fun _ hK => by
  obtain ⟨v', w', hrun, h2, h3⟩ := app_gen (ty := o.type) el hown hsrc hS hn hb
  unfold Oper.wp execOp
  simp only [ho, resolve, invoke, builtin, Sem.run_bind, Sem.run_pure, Result.andThen_ok, List.map_toArray, List.map_cons, List.map_nil, hs, hx, hrun]
  exact hK _ _ (h v' w' h2 h3)
theorem step_gen {α : Type} {r : Rep α} {T E : TypeId} {bytes : Nat} (el : Elt Tryz.prog T E r.size bytes) {ops : Array Oper} {o : Oper} {a : Act} {K : Act → World → Prop} {Q : Exit → Act → World → Prop} {E' : Prop} {w : World} {base : Nat} (hgd : o.guard = none) (s x : Operand)
  (ho : o.op = .call { callee := .builtin .append, args := #[s, x], argTypes := #[T, T] }) {v vx : Value} {xs ys : List α} {S : Nat → Prop}
  (hown : OwR r E base w v xs) (hsrc : SlR r w S vx ys) (hS : ∀ (cs : List Value) (y : α), r.holds w S cs y → r.holds w (fun k => k < w.heap.size ∧ v.ownBlock ≠ some k) cs y) (hs : a.eval s = v) (hx : a.eval x = vx) (hn : xs.length + ys.length ≤ 1000000000000) (hb : bytes ≤ 100)
  (h : ∀ v' w', OwR r E base w' v' (xs ++ ys) → GrowTo w v w' v' → K (a.put o.dst v') w') : if Region.wanted o (yielded ops a.tmps) = true then Oper.wp Tryz.prog o a w K Q else E' := by
 have hw : Region.wanted o (yielded ops a.tmps) = true := by simp [Region.wanted, hgd]
 rw [if_pos hw]
 obtain ⟨v', w', hrun, h2, h3⟩ := app_gen (ty := o.type) el hown hsrc hS hn hb
 unfold Oper.wp execOp
 simp only [ho, resolve, invoke, builtin, Sem.run_bind, Sem.run_pure, Result.andThen_ok, List.map_toArray, List.map_cons, List.map_nil, hs, hx, hrun]
 exact h v' w' h2 h3
theorem ow_alloc {α : Type} {r : Rep α} {E base : Nat} {w : World} {v : Value} {xs : List α} (h : OwR r E base w v xs) (o : Obj) : OwR r E base (w.alloc o) v xs := h.keep ((Below.refl w.heap.size w).alloc (Nat.le_refl _) o)
theorem Sl.strA {w : World} {b off c n : Nat} {xs : List ByteArray} (h : Sl strR w (.slice (some ⟨b, off, none⟩) n c) xs) {k : Nat} (hk : k < xs.length) : w.cell? ⟨b, off + k, none⟩ = some (.string xs[k]) := by
 obtain ⟨cs, ⟨rfl, hw⟩, hc⟩ := h.cell hk
 have := hc 0 _ rfl
 simpa [strR, flatR] using this
theorem elt_strA : Elt Tryz.prog 42 9 1 16 := ⟨Tryz.underlying42, by
 have h : (Tryz.prog.info? 9).map (fun i => (i.zero, i.size, i.bytes)) = some (some (.string ⟨#[]⟩), 1, 16) := by kernel_rfl
 obtain ⟨i, h1, h2, h3, h4⟩ := info_parts h
 exact ⟨i, _, h1, h2, h3, h4, rfl⟩, by decide⟩
theorem elt_sideA : Elt Tryz.prog 153 159 2 16 := ⟨Tryz.underlying153, by
 have h : (Tryz.prog.info? 159).map (fun i => (i.zero, i.size, i.bytes)) = some (some (.agg #[.int .i64 0, .int .i64 0]), 2, 16) := by kernel_rfl
 obtain ⟨i, h1, h2, h3, h4⟩ := info_parts h
 exact ⟨i, _, h1, h2, h3, h4, rfl⟩, by decide⟩
theorem elt_prefA : Elt Tryz.prog 63 32 2 16 := ⟨Tryz.underlying63, by
 have h : (Tryz.prog.info? 32).map (fun i => (i.zero, i.size, i.bytes)) = some (some (.agg #[.int .i64 0, .int .i64 0]), 2, 16) := by kernel_rfl
 obtain ⟨i, h1, h2, h3, h4⟩ := info_parts h
 exact ⟨i, _, h1, h2, h3, h4, rfl⟩, by decide⟩
theorem one_flat {α : Type} {r : Rep α} {w : World} {B : Nat} {cs : List Value} {x : α} {E : TypeId} (hB : B = w.heap.size) (hh : r.holds w (fun k => k < w.heap.size) cs x) :
  SlR r (w.alloc (.cells cs.toArray E)) (fun k => k < w.heap.size + 1) (.slice (some ⟨B, 0, none⟩) 1 1) [x] := by
 subst hB; exact SlR.one_new hh
end Go.Proofs.YtbhbilenbbldnaaGreatDoor
