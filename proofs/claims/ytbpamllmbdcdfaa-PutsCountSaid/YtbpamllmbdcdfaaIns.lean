/-
  slices.Insert of one entry into a slice of the call's own; slices.Clone; stores into such a slice.
-/
import Derived.Test.YtbpamllmbdcdfaaByt
import Derived.Test.YtbpamllmbdcdfaaEq
import Derived.Laws.CopyRow
import Derived.Laws.CopyOwn
import Derived.Lib.AppendZerosOnto
import Derived.Lib.AppendZeros
import Derived.Lib.Overlaps
import Derived.Laws.Externs
import Derived.Deep.RegionLaw
import Derived.WalkSpells
namespace Go.Proofs.Ytbpamllmbdcdfaa
open Go.RowKit Go.Deep

section
variable {α : Type} {size : Nat} {enc : α → List Value} {ok : α → Prop} {h1 : ∀ x, (enc x).length = size} {h2 : ∀ x, ∀ u ∈ enc x, u.oneCell' = true}
theorem OwR.of_flat {E base : Nat} {w : World} {v : Value} {xs : List α} (h : w.ownsRow base E size v xs.length (xs.map enc).flatten) (hok : ∀ x ∈ xs, ok x) (hb : base ≤ w.heap.size) : OwR (flatR size enc ok h1 h2) E base w v xs := by
  refine ⟨xs.map enc, by simp, ?_, h, hb⟩
  intro i cs x hc hx
  have : cs = enc x := by simp [List.getElem?_map, hx] at hc; exact hc.symm
  subst this
  exact ⟨rfl, hok x (List.mem_of_getElem? hx)⟩
theorem OwR.to_flat {E base : Nat} {w : World} {v : Value} {xs : List α} (h : OwR (flatR size enc ok h1 h2) E base w v xs) : w.ownsRow base E size v xs.length (xs.map enc).flatten ∧ (∀ x ∈ xs, ok x) ∧ base ≤ w.heap.size := by
  obtain ⟨css, g1, g2, g3, g4⟩ := h
  refine ⟨?_, fun x hx => ?_, g4⟩
  · have : css = xs.map enc := by
      refine List.ext_getElem (by simp [g1]) fun i hi hi' => ?_
      have := g2 i css[i] (xs[i]'(by omega)) (List.getElem?_eq_getElem hi) (List.getElem?_eq_getElem (by omega))
      rw [this.1]
      simp
    rw [this] at g3
    exact g3
  · obtain ⟨i, hi, rfl⟩ := List.getElem_of_mem hx
    exact (g2 i (css[i]'(by omega)) xs[i] (List.getElem?_eq_getElem _) (List.getElem?_eq_getElem hi)).2
end

/-- copy at elements of several cells, onto a row that is known whole -/
theorem run_copyK {P : Program} (w : World) (dT sT ty elem : TypeId) (k : Nat) (g o dLen dCap : Nat) (a : Addr) (sLen sCap : Nat) (cur : Array Value) (t : TypeId) (cs : List Value)
    (hu : P.underlying dT = some (.slice elem)) (hs : (P.info? elem).map (·.size) = some k)
    (hg : w.heap[g]? = some (.cells cur t (0, 0))) (hn : cs.length = Nat.min sLen dLen * k)
    (hsrc : ∀ j v, cs[j]? = some v → w.cell? (a.add j) = some v) (hfit : o + cs.length ≤ cur.size) (h1 : ∀ v ∈ cs, v.oneCell' = true) :
    (Builtin.copy_ #[dT, sT] ty #[.slice (some ⟨g, o, none⟩) dLen dCap, .slice (some a) sLen sCap]).run P w =
      .ok (goInt (Nat.min sLen dLen)) (w.setRow g (splice cur.toList o cs).toArray) := by
  have hl := run_loadCells_list (P := P) w a cs hsrc
  have hst := run_storeCells_at P g o t cs 0 cur w hg (by simpa using hfit) h1
  rw [hn] at hl
  cases hq : P.info? elem with
  | none => simp [hq] at hs
  | some i =>
    have hi : i.size = k := by simpa [hq] using hs
    simp [Builtin.copy_, run_underlying hu, Builtin.lenOf, Builtin.firstCells, sizeOf, typeInfo, hq, hi, hl, hst, splice]

theorem wpList_copyK {P : Program} {w : World} {ops : Array Oper} {rest : List Oper} {o : Oper} {a : Act} {Q : Exit → Act → World → Prop} (hgd : o.guard = none) (d s : Operand) (t t' : TypeId)
    (ho : o.op = .call { callee := .builtin .copy, args := #[d, s], argTypes := #[t, t'] }) (v u : Value) (hd : a.eval d = v) (hs : a.eval s = u) {v' : Value} {w' : World}
    (hr : (Builtin.copy_ #[t, t'] o.type #[v, u]).run P w = .ok v' w') (h : wpList P ops Q rest (a.put o.dst v') w') : wpList P ops Q (o :: rest) a w :=
  wpList_plain hgd fun _ hK => by
    unfold Oper.wp execOp
    simp only [ho, resolve, invoke, builtin, Sem.run_bind, Sem.run_pure, Result.andThen_ok, List.map_toArray, List.map_cons, List.map_nil, hd, hs, hr]
    exact hK _ _ h
theorem step_copyK {P : Program} {ops : Array Oper} {o : Oper} {a : Act} {w : World} {K : Act → World → Prop} {Q : Exit → Act → World → Prop} {E : Prop}
    (hg : o.guard = none) (d x : Operand) (dT sT : TypeId) (hop : o.op = Op.call { callee := Callee.builtin Builtin.copy, args := #[d, x], argTypes := #[dT, sT] })
    (v u : Value) (hd : a.eval d = v) (hx : a.eval x = u) {v' : Value} {w' : World} (hr : (Builtin.copy_ #[dT, sT] o.type #[v, u]).run P w = .ok v' w') (hK : K (a.put o.dst v') w') :
    if Region.wanted o (yielded ops a.tmps) = true then Oper.wp P o a w K Q else E := by
  have hw : Region.wanted o (yielded ops a.tmps) = true := by simp [Region.wanted, hg]
  rw [if_pos hw]
  unfold Oper.wp
  simp [execOp, hop, resolve, invoke, builtin, hd, hx, hr, Result.andThen]
  exact hK

theorem elt_ent : Elt Try.prog 35 39 4 48 := ⟨Try.underlying35, by
  have h : (Try.prog.info? 39).map (fun i => (i.zero, i.size, i.bytes)) = some (some (.agg #[.string ⟨#[]⟩, .int .i64 0, .int .i64 0, .string ⟨#[]⟩]), 4, 48) := by kernel_rfl
  obtain ⟨i, h1, h2, h3, h4⟩ := info_parts h
  exact ⟨i, _, h1, h2, h3, h4, rfl⟩, by decide⟩

theorem flatE_len (xs : List Entry) : (xs.map Entry.cells).flatten.length = xs.length * 4 := by
  induction xs with
  | nil => rfl
  | cons a r ih => rw [List.map_cons, List.flatten_cons, List.length_append, ih]; simp [Entry.cells]; omega
theorem flatE_take (xs : List Entry) (i : Nat) : ((xs.take i).map Entry.cells).flatten = (xs.map Entry.cells).flatten.take (i * 4) := by
  induction xs generalizing i with
  | nil => simp
  | cons a r ih =>
    cases i with
    | zero => simp
    | succ i =>
      rw [List.take_succ_cons, List.map_cons, List.flatten_cons, ih, List.map_cons, List.flatten_cons, List.take_append]
      have : a.cells.length = 4 := rfl
      rw [this, List.take_of_length_le (l := a.cells) (by rw [this]; omega), show (i + 1) * 4 - 4 = i * 4 by omega]
theorem flatE_drop (xs : List Entry) (i : Nat) : ((xs.drop i).map Entry.cells).flatten = (xs.map Entry.cells).flatten.drop (i * 4) := by
  induction xs generalizing i with
  | nil => simp
  | cons a r ih =>
    cases i with
    | zero => simp
    | succ i =>
      rw [List.drop_succ_cons, ih, List.map_cons, List.flatten_cons, List.drop_append]
      have : a.cells.length = 4 := rfl
      rw [this, List.drop_of_length_le (l := a.cells) (by rw [this]; omega), List.nil_append, show (i + 1) * 4 - 4 = i * 4 by omega]
theorem flatE_one (xs : List Entry) : ∀ u ∈ (xs.map Entry.cells).flatten, u.oneCell' = true := by
  intro u hu
  obtain ⟨l, hl, hu⟩ := List.mem_flatten.1 hu
  obtain ⟨x, _, rfl⟩ := List.mem_map.1 hl
  simp [Entry.cells] at hu
  rcases hu with rfl | rfl | rfl | rfl <;> rfl

/-- what the two copies make of a row -/
theorem splice_ins {α : Type} (C T Y : List α) (i m n : Nat) (hC : C.length = n) (hY : Y.length = m) (hi : i ≤ n) (hT : m ≤ T.length) :
    (splice (splice (C ++ T) (i + m) (C.drop i)) i Y).take (n + m) = C.take i ++ (Y ++ C.drop i) := by
  unfold splice
  subst hC hY
  have e1 : (C ++ T).take (i + Y.length) = C.take i ++ ((C ++ T).drop i).take Y.length := by
    rw [List.take_add, List.take_append_of_le_length hi]
  have l1 : ((C ++ T).take (i + Y.length)).length = i + Y.length := by rw [List.length_take, List.length_append]; omega
  have ld : (C.drop i).length = C.length - i := List.length_drop
  have e2 : ((C ++ T).take (i + Y.length) ++ (C.drop i ++ (C ++ T).drop (i + Y.length + (C.drop i).length))).take i = C.take i := by
    rw [List.take_append_of_le_length (by omega), List.take_take, Nat.min_eq_left (by omega), List.take_append_of_le_length hi]
  have e3 : ((C ++ T).take (i + Y.length) ++ (C.drop i ++ (C ++ T).drop (i + Y.length + (C.drop i).length))).drop (i + Y.length) = C.drop i ++ (C ++ T).drop (i + Y.length + (C.drop i).length) := by
    rw [List.drop_append_of_le_length (by omega), List.drop_of_length_le (by omega), List.nil_append]
  rw [e2, e3, ← List.append_assoc, ← List.append_assoc, List.take_append_of_le_length (by simp only [List.length_append, List.length_take, ld]; omega), List.take_of_length_le (by simp only [List.length_append, List.length_take, ld]; omega), List.append_assoc]

set_option maxHeartbeats 1000000 in
theorem cloneE_any (v : Value) (xs : List Entry) (w : World) (h : Sl entR w v xs) (hl : xs.length ≤ 1000000) :
    Calls Try.prog 62 #[v] w fun e w' => ∃ v', e = .returned v' ∧ OwR entR 39 w.heap.size w' v' xs ∧ Below w.heap.size w w' := by
  have q1 := fun (wx : World) (a : Option Addr) (n c : Nat) => Lib.run_eql_slice_nil (P := Try.prog) wx 35 39 a n c 0 0 Try.underlying35
  obtain ⟨A, c, rfl⟩ := h.form
  have H := Go.Lib.hid h
  clear h
  rcases A with _ | ad
  · have hx : xs = [] := by
      rcases Nat.eq_zero_or_pos xs.length with h0 | h0
      · exact List.eq_nil_of_length_eq_zero h0
      · obtain ⟨_, _, h, _⟩ := H.out.at_ h0; cases h
    subst hx
    go_enter Try.func62, Try.ntmps62
    go_wp2_with fail
    go_ret
    exact ⟨_, rfl, OwR.nil _ _ (Nat.le_refl _), Below.refl _ _⟩
  · have hB0 : Below w.heap.size w (w.alloc (.cells #[] 39)) := (Below.refl _ _).alloc (Nat.le_refl _) _
    have hown : OwR entR 39 w.heap.size (w.alloc (.cells #[] 39)) (.slice (some ⟨w.heap.size, 0, none⟩) 0 0) [] := ⟨[], rfl, fun i cs x h => by simp at h, World.ownsRow_made w #[] 0 (Nat.le_refl _) (Nat.zero_le _) (by simp), by simp⟩
    have H1 := Go.Lib.hid (H.out.below hB0)
    have HB0 := Go.Lib.hid hB0
    have HO := Go.Lib.hid hown
    clear hB0 hown
    go_enter Try.func62, Try.ntmps62
    go_wp2_with (at_builtin; refine wpList_own_append (base := w.heap.size) rfl _ _ rfl elt_ent HO.out H1.out rfl rfl (fun _ _ h => h) (by simp; unfold maxLen; omega) (by simp; omega) ?_; intro v1 w1 ho1 hg1 hb1)
    go_ret
    exact ⟨v1, rfl, ho1, HO.out.below_grown HB0.out hg1⟩
end Go.Proofs.Ytbpamllmbdcdfaa
